/- A part of the proofs of the statements of emendatelaw55 (layer protocol): a message that came in. Conditions: those that stand in each theorem, no other. -/
import Derived.Test.YthooajbhiikbfaaGreatDoorEmC
namespace Go.Proofs.YthooajbhiikbfaaGreatDoor
open Go Go.RowKit Em

theorem RdS.keepB {X Y : World} {A : Option Addr} {ss : List ByteArray} (h : RdS X X.heap.size A ss) (hb : Below X.heap.size X Y) : RdS Y Y.heap.size A ss := (h.below hb).more hb.size
/-- the three cells of a message, laid in a new block -/
structure MArg (w : World) (id : Int) (m : ByteArray) (A : Option Addr) (ss : List ByteArray) : Prop where
  hi : inR id
  hm : m.size ≤ 140737488355328
  hl : ss.length ≤ 140737488355328
  hr : RdS w w.heap.size A ss
  hs : ∀ s ∈ ss, s.size ≤ 140737488355328
theorem MArg.below {w w' : World} {id : Int} {m : ByteArray} {A : Option Addr} {ss : List ByteArray} (h : MArg w id m A ss) (hb : Below w.heap.size w w') : MArg w' id m A ss :=
  ⟨h.hi, h.hm, h.hl, h.hr.keepB hb, h.hs⟩

end Go.Proofs.YthooajbhiikbfaaGreatDoor
