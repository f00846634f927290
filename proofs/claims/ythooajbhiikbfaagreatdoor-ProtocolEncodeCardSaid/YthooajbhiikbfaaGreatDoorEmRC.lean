/- A part of the proofs of the statements of emendatelaw55 (layer protocol): a message argument, a string's size. Conditions: those that stand in each theorem, no other. -/
import Derived.Test.YthooajbhiikbfaaGreatDoorEmRB
import Derived.Test.YthooajbhiikbfaaGreatDoorEmRM
namespace Go.Proofs.YthooajbhiikbfaaGreatDoor
open Go Go.ChangeShapes Go.WideShapes Go.ChangeAt Go.RowKit Go.Deep Em

theorem reach_le : reachBytes = 140737488351232 := rfl

section
variable {H : Type} {enc : TypeId × Value → H}
set_option maxRecDepth 100000 in
theorem open24 {W : World} {base : Nat} {v0 : Value} {d0 : DataW H} {p0 : List MemPlace} (hok : Value.okWide Tryz.prog W .any base 24 v0) (h0 : DataW.Trod enc Tryz.prog W 0 (fun _ => true) true 24 v0 d0 p0) (hw : ∀ n ∈ d0.weights Tryz.prog 24, n ≤ reachBytes) :
    ∃ (id : Int) (m : ByteArray) (A : Option Addr) (c : Nat) (ss : List ByteArray), v0 = .agg #[.int .i64 id, .string m, .slice A ss.length c] ∧ MArg W id m A ss := by
  obtain ⟨cs, rfl, -⟩ := okWide_struct Tryz.underlying24 hok
  obtain ⟨fuel, hf⟩ := h0
  obtain ⟨id, m, A, c, ss, hcs, hi, hm, hr, hs, hl⟩ := open_msg (te := 9) Tryz.underlying24 (by kernel_rfl) (by kernel_rfl) Tryz.underlying3 Tryz.underlying9 Tryz.underlying22 Tryz.underlying9 (by kernel_rfl) (by kernel_rfl) hf hw
  rw [reach_le] at hm hs hl
  refine ⟨id, m, A, c, ss, ?_, hi, by omega, by omega, hr, fun s h => by have := hs s h; omega⟩
  have e : cs = #[.int .i64 id, .string m, .slice A ss.length c] := by
    cases cs
    simpa [Value.cells] using hcs
  rw [e]
theorem str_le {t : ByteArray} (n0 : ∀ n ∈ (DataW.lit (.string t.data.toList) : DataW H).weights Tryz.prog 9, n ≤ reachBytes) : t.size ≤ 140737488355328 := by
  have := n0 t.size (by rw [Lib.size_eq]; simp only [DataW.weights, List.mem_singleton])
  rw [reach_le] at this
  omega
end
theorem u16_nat {z : Int} (h : (Lit.int .u16 z).wf = true) : ∃ C : Nat, z = (C : Int) ∧ C < 65536 := by
  have e1 : IntKind.u16.min = 0 := rfl
  have e2 : IntKind.u16.max = 65535 := rfl
  simp [Lit.wf, e1, e2] at h
  exact ⟨z.toNat, by omega, by omega⟩
theorem door_met (os : Os) (args : Array Value) : laidMetH Tryz.prog laid6 ((World.doorLaid Tryz.prog 68 os).forCall (fun _ _ => 0) ⟨#[], args, []⟩).memory :=
  laidMetH_of_parts3 (fuel := 8) (laidMet_of_run' 8 (by kernel_rfl) (by kernel_rfl)) (by kernel_rfl) (by kernel_rfl)
end Go.Proofs.YthooajbhiikbfaaGreatDoor
