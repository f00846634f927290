/- A part of the proofs of the statements of emendatelaw55 (layer protocol): New. Conditions: those that stand in each theorem, no other. -/
import Derived.Test.YthooajbhiikbfaaGreatDoorEmAD
import Derived.Lib.BufferMore
namespace Go.Proofs.YthooajbhiikbfaaGreatDoor
open Go Go.RowKit Em

theorem eq_nil51 (w : World) : (binOp .eql 51 (.slice none 0 0) (.slice none 0 0)).run Tryz.prog w = .ok (.bool true) w := by
  have he : Tryz.prog.underlying 51 = some (.slice 53) := by kernel_rfl
  have h := Lib.run_eql_slice_nil_nil (P := Tryz.prog) w (t := 51) 0 0 he
  exact h

set_option maxRecDepth 100000 in
theorem clone_nil (w : World) : Calls Tryz.prog 28 #[.slice none 0 0] w fun e w' => e = .returned (.slice none 0 0) ∧ w' = w := by
  have hq := fun W => eq_nil51 W
  go_enter Tryz.func28, Tryz.ntmps28
  go_wp2
  go_ret
  exact ⟨rfl, rfl⟩

set_option maxRecDepth 100000 in
theorem new_nil (w : World) : Calls Tryz.prog 16 #[.slice none 0 0] w fun e w' => (∃ b v, e = .returned (.pointer (some ⟨b, 0, none⟩)) ∧ Ws w' b v) ∧ Below w.heap.size w w' := by
  go_enter Tryz.func16, Tryz.ntmps16
  go_wp2_with (go_at_call 28; refine (clone_nil _).mono ?_; rintro e w1 ⟨rfl, rfl⟩)
  go_ret
  refine ⟨⟨w1.heap.size, .slice none 0 0, rfl, ?_, ?_, ?_⟩, (Below.refl _ _).alloc (Nat.le_refl _) _⟩
  · exact cell_of_row _ _ 0 _ 57 (0, 0) (heap_alloc_new _ _)
  · exact cell_of_row _ _ 1 _ 57 (0, 0) (heap_alloc_new _ _)
  · simp
end Go.Proofs.YthooajbhiikbfaaGreatDoor
