/- A part of the proofs of the statements of emendatelaw55 (layer protocol): entries of the requests. Conditions: those that stand in each theorem, no other. -/
import Derived.Test.YthooajbhiikbfaaGreatDoorEmZC
import Derived.Maps.OwnSet
namespace Go.Proofs.YthooajbhiikbfaaGreatDoor
open Go Go.RowKit Em


theorem run_store_fn (P : Program) (w : World) (a : Addr) (f : Fn) (x y : Array Value) : (store a (.func f x y)).run P w = stored P w a (.func f x y) .plain := run_store P w a _ _ rfl

theorem cell3 (X : World) (b : Nat) (p : Addr) (x y z : Value) (h : p.block ≠ b) :
    (((X.setCell ⟨b, 0, none⟩ x).setCell ⟨b, 1, none⟩ y).setCell ⟨b, 2, none⟩ z).cell? p = X.cell? p := by
  have hne : ∀ (o : Nat), (⟨b, o, none⟩ : Addr) ≠ p := fun o e => h (by rw [← e])
  rw [World.cell?_setCell_other _ _ _ _ (hne 2), World.cell?_setCell_other _ _ _ _ (hne 1), World.cell?_setCell_other _ _ _ _ (hne 0)]

theorem event_f (n : Nat) (cs : Array Value) (w : World) :
    Calls Tryz.prog 52 #[.func (.func n) #[] cs] w fun e w' => e = .returned (.func (.func 73) #[] #[.pointer (some ⟨w.heap.size, 0, none⟩)]) ∧ w' = w.alloc (.cells #[.func (.func n) #[] cs] 96) := by
  go_enter Tryz.func52, Tryz.ntmps52
  go_wp2
  go_ret
  exact ⟨rfl, rfl⟩

theorem inRange0 (w : World) : Calls Tryz.prog 75 #[.int .i64 0] w fun e w' => e = .returned (.bool true) ∧ w' = w := by
  go_enter Tryz.func75, Tryz.ntmps75
  go_wp2
  go_ret
  exact ⟨rfl, rfl⟩

/-- the entry of a request of kind k -/
def Entry (L : Nat) (k : Int) (v : Value) (w : World) : Prop :=
  ∃ a b, v = .agg #[.int .i64 1, .bool false, .func (.func 73) #[] #[.pointer (some ⟨b, 0, none⟩)]] ∧ w.cell? ⟨b, 0, none⟩ = some (.func (.func 53) #[] #[.pointer (some ⟨a, 0, none⟩)]) ∧ w.cell? ⟨a, 0, none⟩ = some (.int .i64 k) ∧ a < w.heap.size ∧ b < w.heap.size ∧ L ≤ a ∧ L ≤ b

theorem Entry.below {L : Nat} {k : Int} {v : Value} {w w' : World} (h : Entry L k v w) (hb : Below w.heap.size w w') : Entry L k v w' := by
  obtain ⟨a, b, h1, h2, h3, h4, h5, h6, h7⟩ := h
  have := hb.size
  exact ⟨a, b, h1, (hb.cell h5).trans h2, (hb.cell h4).trans h3, by omega, by omega, h6, h7⟩

set_option maxRecDepth 100000 in
set_option maxHeartbeats 400000 in
theorem only_f (k : Int) (w : World) :
    Calls Tryz.prog 51 #[.int .i64 k] w fun e w' => (∃ v, e = .returned v ∧ Entry w.heap.size k v w') ∧ Below w.heap.size w w' := by
  obtain ⟨W0, hW0⟩ : ∃ W0 : World, (w.alloc (.cells #[.int .i64 k] 3)).alloc (.cells #[.int .i64 0, .bool false, .nilFunc] 86) = W0 := ⟨_, rfl⟩
  have hz0 : W0.heap.size = w.heap.size + 2 := by rw [← hW0]; simp
  have hb0 : Below w.heap.size w W0 := by rw [← hW0]; exact ((Below.refl _ _).alloc (Nat.le_refl _) _).alloc (by simp) _
  have ha0 : W0.heap[w.heap.size]? = some (.cells #[.int .i64 k] 3) := by
    rw [← hW0]
    exact (((Below.refl (w.alloc (.cells #[.int .i64 k] 3)).heap.size _).alloc (Nat.le_refl _) _).block _ (by simp)).trans (heap_alloc_new w _)
  have ha1 : W0.heap[w.heap.size + 1]? = some (.cells #[.int .i64 0, .bool false, .nilFunc] 86) := by
    rw [← hW0]
    have := heap_alloc_new (w.alloc (.cells #[.int .i64 k] 3)) (.cells #[.int .i64 0, .bool false, .nilFunc] 86)
    simpa using this
  obtain ⟨X, hX⟩ : ∃ X : World, W0.alloc (.cells #[.func (.func 53) #[] #[.pointer (some ⟨w.heap.size, 0, none⟩)]] 96) = X := ⟨_, rfl⟩
  have hbX : Below W0.heap.size W0 X := by rw [← hX]; exact (Below.refl _ _).alloc (Nat.le_refl _) _
  have hc0 : X.cell? ⟨w.heap.size, 0, none⟩ = some (.int .i64 k) := (hbX.cell (by show w.heap.size < _; omega)).trans (cell_of_row _ _ 0 _ 3 (0, 0) ha0)
  have hc2 : X.cell? ⟨w.heap.size + 2, 0, none⟩ = some (.func (.func 53) #[] #[.pointer (some ⟨w.heap.size, 0, none⟩)]) := by
    rw [← hz0, ← hX]
    exact cell_of_row _ _ 0 _ 96 (0, 0) (heap_alloc_new W0 _)
  have hz1 : X.heap.size = w.heap.size + 3 := by rw [← hX]; simp [hz0]
  have Q := Lib.hid (Three.of ((hbX.block _ (by omega)).trans ha1))
  have HC := Lib.hid hc0
  have HC2 := Lib.hid hc2
  have HB := Lib.hid (hb0.trans (hbX.mono hb0.size))
  have HZ := Lib.hid hz1
  have HE := Lib.hid (event_f 53 #[.pointer (some ⟨w.heap.size, 0, none⟩)] W0)
  have HX := Lib.hid hX
  have HW := Lib.hid hW0
  have HZ0 := Lib.hid hz0
  clear hb0 ha0 ha1 hbX hc0 hc2 hz1 hX hW0 hz0
  have hsf := fun W a f x y => run_store_fn Tryz.prog W a f x y
  go_enter Tryz.func51, Tryz.ntmps51
  go_wp2_with (go_at_call 52; rw [HW.out]; refine HE.out.mono ?_; rintro e w1 ⟨rfl, rfl⟩; rw [HX.out]; refine Hid.out ?_)
  obtain ⟨q0, q1, q2, qf⟩ := Q.out
  have hlt1 : w.heap.size + 1 < X.heap.size := by rw [HZ.out]; omega
  refine Lib.hid ?_
  go_wp2
  refine bodyPost_ret (v := .agg #[.int .i64 1, .bool false, .func (.func 73) #[] #[.pointer (some ⟨W0.heap.size, 0, none⟩)]]) (by simp [results, Tryz.results51, go_sem, *]) rfl ?_
  refine ⟨⟨_, rfl, w.heap.size, W0.heap.size, rfl, ?_, ?_, ?_, ?_, Nat.le_refl _, by rw [HZ0.out]; omega⟩, ?_⟩
  · rw [cell3 _ _ _ _ _ _ (by rw [HZ0.out]; simp), HZ0.out]; exact HC2.out
  · rw [cell3 _ _ _ _ _ _ (by simp)]; exact HC.out
  · have := HZ.out; simp; omega
  · have := HZ.out; have := HZ0.out; simp; omega
  · exact ((HB.out.setCell (by simp) _).setCell (by simp) _).setCell (by simp) _

end Go.Proofs.YthooajbhiikbfaaGreatDoor
