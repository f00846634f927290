/- A part of the proofs of the statements of emendatelaw55 (layer protocol): the builder. Conditions: those that stand in each theorem, no other. -/
import Derived.Test.YthooajbhiikbfaaGreatDoorEmY
namespace Go.Proofs.YthooajbhiikbfaaGreatDoor
open Go Go.RowKit Em

/-- the builder b above B holds l -/
abbrev Bld (B b : Nat) (l : Bytes) (w : World) : Prop := Lib.IsBuilderF 63 5 B b (Lib.byteCells l) w

theorem Bld.below {B b : Nat} {l : Bytes} {w w' : World} (h : Bld B b l w) (hb : Below w.heap.size w w') : Bld B b l w' := by
  have K : ∀ p, Lib.BuilderAtF 63 5 B b p (Lib.byteCells l) w → Lib.BuilderAtF 63 5 B b p (Lib.byteCells l) w' := by
    intro p hx
    have hlt := hx.lt
    obtain ⟨hB, v, hv, hown, hne⟩ := hx
    exact ⟨hB, v, (hb.block b hlt).trans hv, hown.kept (row := none) ⟨hb.os, hb.tape, hb.output, hb.size, fun k hk _ => hb.block k hk⟩ (Classical.em _), hne⟩
  exact h.elim (fun x => .inl (K _ x)) (fun x => .inr (K _ x))

theorem wrS (B b : Nat) (l x : Bytes) (s : ByteArray) (hsx : s.data.toList = x) (w : World) (h : Bld B b l w) (hl : l.length + x.length ≤ 1000000) (hB : B ≤ w.heap.size) :
    Calls Tryz.prog 30 #[.pointer (some ⟨b, 0, none⟩), .string s] w fun e w' => (∃ v, e = .returned v) ∧ Bld B b (l ++ x) w' ∧ Below B w w' := by
  refine (Any.Builder_WriteString_f { Tryz.lays156 with } Tryz.Builder_Extra_156 B b (Lib.byteCells l) s w h ?_ hB).mono ?_
  · rw [Lib.size_eq, hsx]; simp [Lib.byteCells]; omega
  · rintro e w' ⟨rfl, h1, h2⟩
    refine ⟨⟨_, rfl⟩, ?_, h2⟩
    rw [Lib.strCells_eq, hsx, ← Lib.byteCells_append] at h1
    exact Or.inr h1

theorem strB (B b : Nat) (l : Bytes) (w : World) (h : Bld B b l w) (hB : B ≤ w.heap.size) :
    Calls Tryz.prog 31 #[.pointer (some ⟨b, 0, none⟩)] w fun e w' => e = .returned (.string (S l)) ∧ Below B w w' := by
  refine (Tryz.Builder_String_any_f B b l w h hB).mono ?_
  rintro e w' ⟨rfl, h1, h2⟩
  exact ⟨rfl, h2⟩
end Go.Proofs.YthooajbhiikbfaaGreatDoor
