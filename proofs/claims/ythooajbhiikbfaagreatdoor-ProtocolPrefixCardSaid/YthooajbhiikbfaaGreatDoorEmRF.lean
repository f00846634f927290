/- Closed facts of the translated program that every row of the seat asks, each by the kernel. No condition. -/
import Derived.Test.YthooajbhiikbfaaGreatDoorRows
import Derived.JoinedOf
import Derived.SevenTiedAt
namespace Go.Proofs.YthooajbhiikbfaaGreatDoor
open Go
set_option maxRecDepth 100000
theorem band {a b : Bool} (h : a = true) (k : b = true) : (a && b) = true := by rw [h, k]; rfl
theorem fact1 : (laidOutB Tryz.prog) = true := by kernel_rfl
theorem fact2 : (mapsRowed Tryz.prog) = true := by kernel_rfl
theorem fact6 : ((Tryz.prog.stops == [])) = true := by kernel_rfl
theorem fact8 : ((Tryz.prog.stopKnobs == [])) = true := by kernel_rfl
theorem fact24 : (Tryz.prog.stopsHeard) = true := by kernel_rfl
theorem fact25 : (Tryz.prog.mayEnter) = true := by kernel_rfl
theorem fact22 : ((false == Tryz.prog.plainKeys)) = true := by kernel_rfl
theorem fact26 : ((false == Tryz.prog.liftsFinal)) = true := by kernel_rfl
theorem fact27 : ((Tryz.prog.make == some .cut)) = true := by kernel_rfl
theorem card_main : Tryz.prog.mainIs = some (true, ("61b19200f06adbccbccd27a5cf5467f25aa18304d26c9438fa05cb6f291bb564").toList) := by kernel_rfl
theorem card_looks : true = Tryz.prog.looks [] := by kernel_rfl
end Go.Proofs.YthooajbhiikbfaaGreatDoor
