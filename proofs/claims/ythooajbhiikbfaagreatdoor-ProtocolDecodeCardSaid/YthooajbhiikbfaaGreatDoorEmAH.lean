/- A part of the proofs of the statements of emendatelaw55 (layer protocol): Serve of undo. Conditions: those that stand in each theorem, no other. -/
import Derived.Test.YthooajbhiikbfaaGreatDoorEmAG
import Derived.Test.YthooajbhiikbfaaGreatDoorEmBA
namespace Go.Proofs.YthooajbhiikbfaaGreatDoor
open Go Go.RowKit Em

theorem keep_trans {X Y Z : World} (h : Below X.heap.size X Y) (k : Below Y.heap.size Y Z) : Below X.heap.size X Z := h.trans (k.mono h.size)
theorem keep_alloc (X : World) (o : Obj) : Below X.heap.size X (X.alloc o) := (Below.refl _ _).alloc (Nat.le_refl _) _

theorem alloc_cell (X : World) (n : Nat) (h : X.heap.size = n) (v : Value) (t : TypeId) : (X.alloc (.cells #[v] t)).cell? ⟨n, 0, none⟩ = some v := by
  subst h; exact cell_of_row _ _ 0 _ t (0, 0) (heap_alloc_new _ _)

theorem itoa15_c (w : World) (hE : Env w) : Calls Tryz.prog 20 #[.int .i64 15] w fun e w' => e = .returned (.string ⟨#[49, 53]⟩) ∧ Below w.heap.size w w' := by
  have := itoa_c 15 (by unfold inR; omega) w hE
  rw [itoa15] at this
  exact this

set_option maxRecDepth 100000 in
set_option maxHeartbeats 2000000 in
theorem serve_c (p : Value) (ad : Addr) (c : Nat) (w : World) (hE : Env w)
    (hrun : ∀ W, Below w.heap.size w W → Calls Tryz.prog 29 #[p, .agg #[.int .i64 7, .string ⟨#[117, 110, 100, 111]⟩, .slice (some ad) 1 c]] W fun e w' => (∃ v, e = .returned (.tuple #[v, .int .i64 15])) ∧ Below W.heap.size W w') :
    Calls Tryz.prog 17 #[p, .agg #[.int .i64 7, .string ⟨#[117, 110, 100, 111]⟩, .slice (some ad) 1 c]] w fun e w' =>
      (∃ k, e = .returned (.agg #[.int .i64 7, .string ⟨#[101, 114, 114, 111, 114]⟩, .slice (some ⟨k, 0, none⟩) 1 1]) ∧ w'.cell? ⟨k, 0, none⟩ = some (.string ⟨#[49, 53]⟩) ∧ k < w'.heap.size) ∧ Below w.heap.size w w' := by
  obtain ⟨W0, hW0⟩ : ∃ W0 : World, (w.alloc (.cells #[.int .i64 7, .string ⟨#[117, 110, 100, 111]⟩, .slice (some ad) 1 c] 24)).alloc (.cells #[.int .i64 0, .string ⟨#[]⟩, .slice none 0 0] 24) = W0 := ⟨_, rfl⟩
  have HB := Lib.hid (show Below w.heap.size w W0 by rw [← hW0]; exact keep_trans (keep_alloc _ _) (keep_alloc _ _))
  have HZ := Lib.hid (show W0.heap.size = w.heap.size + 2 by rw [← hW0]; simp)
  have HT := Lib.hid (show ∀ X, Below W0.heap.size W0 X → Three X w.heap.size (.int .i64 7) (.string ⟨#[117, 110, 100, 111]⟩) (.slice (some ad) 1 c) from fun X hb =>
    Three.of ((hb.block w.heap.size (by rw [HZ.out]; omega)).trans (by rw [← hW0, Below.heap_alloc _ _ _ (by simp)]; exact heap_alloc_new w _)))
  have HR := Lib.hid (show ∀ X, Below W0.heap.size W0 X → Three X (w.heap.size + 1) (.int .i64 0) (.string ⟨#[]⟩) (.slice none 0 0) from fun X hb =>
    Three.of ((hb.block (w.heap.size + 1) (by rw [HZ.out]; omega)).trans (by
      rw [← hW0]
      have := heap_alloc_new (w.alloc (.cells #[.int .i64 7, .string ⟨#[117, 110, 100, 111]⟩, .slice (some ad) 1 c] 24)) (.cells #[.int .i64 0, .string ⟨#[]⟩, .slice none 0 0] 24)
      simpa using this)))
  have HEn := Lib.hid (show ∀ X, Below W0.heap.size W0 X → Env X from fun X hb => (hE.below HB.out).below hb)
  have HRun := Lib.hid (hrun W0 HB.out)
  have HW := Lib.hid hW0
  clear hW0 hE hrun
  go_enter Tryz.func17, Tryz.ntmps17
  go_upto_region 1 with fail
  rw [HW.out]
  obtain ⟨t0, t1, t2, -⟩ := HT.out W0 (Below.refl _ _)
  go_upto_region 3 with (go_at_call 29; refine HRun.out.mono ?_; rintro e w1 ⟨⟨v, rfl⟩, hb1⟩; refine Hid.out ?_)
  have HB1 := Lib.hid hb1
  clear t0 t1 t2 hb1
  obtain ⟨s0, s1, s2, -⟩ := HT.out w1.drew HB1.out.drew
  obtain ⟨r0, r1, r2, rf⟩ := HR.out w1.drew HB1.out.drew
  refine Lib.hid ?_
  go_upto_region 3 with fail
  go_region_with (go_at_call 20; refine (itoa15_c _ (HEn.out _ HB1.out.drew)).mono ?_; rintro e w2 ⟨rfl, hb2⟩; have hb3 : Below W0.heap.size W0 w2 := keep_trans HB1.out.drew hb2; obtain ⟨u0, u1, u2, -⟩ := HT.out w2 hb3; obtain ⟨x0, x1, x2, xf⟩ := HR.out w2 hb3; have hb4 : Below W0.heap.size W0 (w2.alloc (.cells #[.string ⟨#[49, 53]⟩] 9)) := hb3.alloc hb3.size _; obtain ⟨p0, p1, p2, -⟩ := HT.out _ hb4; obtain ⟨q0, q1, q2, qf⟩ := HR.out _ hb4; have hlt : w.heap.size + 1 < w2.heap.size := (by have := hb3.size; rw [HZ.out] at this; omega))
  all_goals (go_wp2_with fail)
  all_goals refine bodyPost_ret (v := .agg #[.int .i64 7, .string ⟨#[101, 114, 114, 111, 114]⟩, .slice (some ⟨w2.heap.size, 0, none⟩) 1 1]) (by simp [results, Tryz.results17, go_sem, *]) rfl ⟨⟨_, rfl, ?_, ?_⟩, ?_⟩
  all_goals have hz2 := HZ.out
  all_goals have hz1 := HB.out.size
  all_goals first
    | exact alloc_cell _ _ (by simp) _ _
    | (simp; done)
    | (refine HB.out.trans (Below.alloc (Below.setCell (Below.setCell (Below.setCell (hb3.mono hz1) ?_ _) ?_ _) ?_ _) ?_ _) <;> first | (show w.heap.size ≤ w.heap.size + 1; omega) | (simp; omega))
end Go.Proofs.YthooajbhiikbfaaGreatDoor
