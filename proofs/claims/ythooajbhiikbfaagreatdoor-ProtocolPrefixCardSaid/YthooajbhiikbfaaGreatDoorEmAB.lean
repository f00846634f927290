/- A part of the proofs of the statements of emendatelaw55 (layer protocol): an event, its check, Do. Conditions: those that stand in each theorem, no other. -/
import Derived.Test.YthooajbhiikbfaaGreatDoorEmAA
namespace Go.Proofs.YthooajbhiikbfaaGreatDoor
open Go Go.RowKit Em

/-- a block of seven cells -/
structure Cells7 (X : World) (b : Nat) (c : Nat → Value) : Prop where
  c0 : X.cell? ⟨b, 0, none⟩ = some (c 0)
  c1 : X.cell? ⟨b, 1, none⟩ = some (c 1)
  c2 : X.cell? ⟨b, 2, none⟩ = some (c 2)
  c3 : X.cell? ⟨b, 3, none⟩ = some (c 3)
  c4 : X.cell? ⟨b, 4, none⟩ = some (c 4)
  c5 : X.cell? ⟨b, 5, none⟩ = some (c 5)
  c6 : X.cell? ⟨b, 6, none⟩ = some (c 6)
  f : ∀ i, X.frozen? ⟨b, i, none⟩ = false
theorem Cells7.of {X : World} {b : Nat} {t : TypeId} {c : Nat → Value} (h : X.heap[b]? = some (.cells #[c 0, c 1, c 2, c 3, c 4, c 5, c 6] t (0, 0))) : Cells7 X b c :=
  ⟨cell_of_row X b 0 _ t (0, 0) h, cell_of_row X b 1 _ t (0, 0) h, cell_of_row X b 2 _ t (0, 0) h, cell_of_row X b 3 _ t (0, 0) h, cell_of_row X b 4 _ t (0, 0) h,
    cell_of_row X b 5 _ t (0, 0) h, cell_of_row X b 6 _ t (0, 0) h, fun i => by simp [World.frozen?, h]⟩

abbrev evK (k x : Int) : Value := .agg #[.int .i64 k, .int .i64 x, .int .i64 0, .int .i64 0, .int .i64 0, .string ⟨#[]⟩, .string ⟨#[]⟩]

set_option maxRecDepth 100000 in
set_option maxHeartbeats 400000 in
theorem ev_f (k x : Int) (a : Nat) (ad : Addr) (n c : Nat) (t : ByteArray) (w : World) (hk : w.cell? ⟨a, 0, none⟩ = some (.int .i64 k)) (hx : w.cell? ad = some (.int .i64 x)) (hn : 0 < n) (ha : a < w.heap.size) (had : ad.block < w.heap.size) :
    Calls Tryz.prog 53 #[.slice (some ad) n c, .string t, .pointer (some ⟨a, 0, none⟩)] w fun e w' => e = .returned (evK k x) ∧ Below w.heap.size w w' := by
  obtain ⟨W0, hW0⟩ : ∃ W0 : World, w.alloc (.cells #[.int .i64 0, .int .i64 0, .int .i64 0, .int .i64 0, .int .i64 0, .string ⟨#[]⟩, .string ⟨#[]⟩] 73) = W0 := ⟨_, rfl⟩
  have hb0 : Below w.heap.size w W0 := by rw [← hW0]; exact (Below.refl _ _).alloc (Nat.le_refl _) _
  have hd : Below w.heap.size w W0.drew := hb0.drew
  have HQ := Lib.hid (Cells7.of (X := W0.drew) (b := w.heap.size) (t := 73) (c := fun i => if i < 5 then .int .i64 0 else .string ⟨#[]⟩) (by rw [← hW0]; exact heap_alloc_new w _))
  have hk1 := (hb0.cell (p := ⟨a, 0, none⟩) ha).trans hk
  have hx1 := (hb0.cell (p := ad) had).trans hx
  have HD := Lib.hid hd
  have HW := Lib.hid hW0
  have hsz : W0.heap.size = w.heap.size + 1 := by rw [← hW0]; simp
  clear hb0 hd hk hx hW0
  go_enter Tryz.func53, Tryz.ntmps53
  go_upto_region 1 with fail
  rw [HW.out]
  have hk2 : W0.drew.cell? ⟨a, 0, none⟩ = some (.int .i64 k) := hk1
  have hx2 : W0.drew.cell? ad = some (.int .i64 x) := hx1
  obtain ⟨q0, q1, q2, q3, q4, q5, q6, qf⟩ := HQ.out
  generalize hw2 : W0.drew = w2 at *
  simp only [Nat.reduceLT, if_true, if_false] at q0 q1 q2 q3 q4 q5 q6
  have hn0 : (0 : Int) < n := by omega
  go_region
  go_wp2
  refine bodyPost_ret (v := evK k x) (by simp [results, Tryz.results53, go_sem, evK, *]) rfl ⟨rfl, ?_⟩
  have hd2 := HD.out
  exact (((((((hd2.setCell (by simp) _).setCell (by simp) _).setCell (by simp) _).setCell (by simp) _).setCell (by simp) _).setCell (by simp) _).setCell (by simp) _)

/-- a workspace with no document at place 0 -/
structure Ws (w : World) (b : Nat) (v : Value) : Prop where
  c0 : w.cell? ⟨b, 0, none⟩ = some v
  c1 : w.cell? ⟨b, 1, none⟩ = some (.pointer none)
  lt : b < w.heap.size
theorem Ws.below {w w' : World} {b : Nat} {v : Value} (h : Ws w b v) (hb : Below w.heap.size w w') : Ws w' b v :=
  ⟨(hb.cell h.lt).trans h.c0, (hb.cell h.lt).trans h.c1, Nat.lt_of_lt_of_le h.lt hb.size⟩

set_option maxRecDepth 100000 in
set_option maxHeartbeats 400000 in
theorem check_f (b : Nat) (v : Value) (w : World) (hW : Ws w b v) :
    Calls Tryz.prog 92 #[.pointer (some ⟨b, 0, none⟩), evK 3 0] w fun e w' => e = .returned (.int .i64 15) ∧ Below w.heap.size w w' := by
  obtain ⟨W0, hW0⟩ : ∃ W0 : World, w.alloc (.cells #[.int .i64 3, .int .i64 0, .int .i64 0, .int .i64 0, .int .i64 0, .string ⟨#[]⟩, .string ⟨#[]⟩] 73) = W0 := ⟨_, rfl⟩
  have hb0 : Below w.heap.size w W0 := by rw [← hW0]; exact (Below.refl _ _).alloc (Nat.le_refl _) _
  have hc1 := (hb0.cell (p := ⟨b, 1, none⟩) hW.lt).trans hW.c1
  have hk : W0.heap[w.heap.size]? = some (.cells #[.int .i64 3, .int .i64 0, .int .i64 0, .int .i64 0, .int .i64 0, .string ⟨#[]⟩, .string ⟨#[]⟩] 73 (0, 0)) := by rw [← hW0]; exact heap_alloc_new w _
  have e0 : W0.cell? ⟨w.heap.size, 0, none⟩ = some (.int .i64 3) := cell_of_row W0 w.heap.size 0 _ 73 (0, 0) hk
  have e1 : W0.cell? ⟨w.heap.size, 1, none⟩ = some (.int .i64 0) := cell_of_row W0 w.heap.size 1 _ 73 (0, 0) hk
  have HW := Lib.hid hW0
  have HB := Lib.hid hb0
  clear hW0 hb0 hk hW
  unfold evK
  go_enter Tryz.func92, Tryz.ntmps92
  go_upto_region 1 with fail
  rw [HW.out]
  go_upto_region 5 with (go_at_call 75; refine (inRange0 _).mono ?_; rintro e w1 ⟨rfl, rfl⟩)
  have f1 : w1.drew.cell? ⟨b, 1, none⟩ = some (.pointer none) := hc1
  have g0 : w1.drew.cell? ⟨w.heap.size, 0, none⟩ = some (.int .i64 3) := e0
  have g1 : w1.drew.cell? ⟨w.heap.size, 1, none⟩ = some (.int .i64 0) := e1
  have HB2 := Lib.hid (HB.out.drew)
  go_quiet (fail)
  go_wp2
  go_ret
  exact ⟨rfl, below_drewN HB.out _⟩

set_option maxRecDepth 100000 in
set_option maxHeartbeats 400000 in
theorem do_f (b : Nat) (v : Value) (w : World) (hW : Ws w b v) :
    Calls Tryz.prog 74 #[.pointer (some ⟨b, 0, none⟩), evK 3 0] w fun e w' => e = .returned (.tuple #[.agg #[.int .i64 0, .int .i64 0, .string ⟨#[]⟩, .int .i64 15, .int .i64 0, .slice none 0 0], .int .i64 15]) ∧ Below w.heap.size w w' := by
  have HK := Lib.hid (fun W (hb : Below w.heap.size w W) => check_f b v W (hW.below hb))
  obtain ⟨W0, hW0⟩ : ∃ W0 : World, (w.alloc (.cells #[.int .i64 3, .int .i64 0, .int .i64 0, .int .i64 0, .int .i64 0, .string ⟨#[]⟩, .string ⟨#[]⟩] 73)).alloc (.cells #[.int .i64 0, .int .i64 0, .string ⟨#[]⟩, .int .i64 0, .int .i64 0, .slice none 0 0] 99) = W0 := ⟨_, rfl⟩
  have hb0 : Below w.heap.size w W0 := by rw [← hW0]; exact ((Below.refl _ _).alloc (Nat.le_refl _) _).alloc (by simp) _
  have hz0 : W0.heap.size = w.heap.size + 2 := by rw [← hW0]; simp
  have HR0 := Lib.hid (show W0.heap[w.heap.size]? = some (.cells #[.int .i64 3, .int .i64 0, .int .i64 0, .int .i64 0, .int .i64 0, .string ⟨#[]⟩, .string ⟨#[]⟩] 73 (0, 0)) by
    rw [← hW0]
    exact (((Below.refl _ (w.alloc (.cells #[.int .i64 3, .int .i64 0, .int .i64 0, .int .i64 0, .int .i64 0, .string ⟨#[]⟩, .string ⟨#[]⟩] 73))).alloc (Nat.le_refl _) _).block _ (by simp)).trans (heap_alloc_new w _))
  have HR1 := Lib.hid (show W0.heap[w.heap.size + 1]? = some (.cells #[.int .i64 0, .int .i64 0, .string ⟨#[]⟩, .int .i64 0, .int .i64 0, .slice none 0 0] 99 (0, 0)) by
    rw [← hW0]
    have := heap_alloc_new (w.alloc (.cells #[.int .i64 3, .int .i64 0, .int .i64 0, .int .i64 0, .int .i64 0, .string ⟨#[]⟩, .string ⟨#[]⟩] 73)) (.cells #[.int .i64 0, .int .i64 0, .string ⟨#[]⟩, .int .i64 0, .int .i64 0, .slice none 0 0] 99)
    simpa using this)
  have hk := HK.out W0 hb0
  have E := Cells7.of (c := fun i => if i = 0 then .int .i64 3 else if i < 5 then .int .i64 0 else .string ⟨#[]⟩) HR0.out
  obtain ⟨e0, e1, e2, e3, e4, e5, e6, -⟩ := E
  simp only [Nat.reduceLT, if_true, if_false, Nat.reduceEqDiff] at e0 e1 e2 e3 e4 e5 e6
  have HB := Lib.hid hb0
  have HW := Lib.hid hW0
  have HZ := Lib.hid hz0
  unfold evK at hk ⊢
  clear hb0 hW0 hz0 HK hW
  go_enter Tryz.func74, Tryz.ntmps74
  go_upto_region 1 with fail
  rw [HW.out]
  go_wp2_with (go_at_call 92; refine hk.mono ?_; rintro e w1 ⟨rfl, hb1⟩; refine Hid.out ?_)
  have HB1 := Lib.hid hb1
  have hd1 := (hb1.cell (p := ⟨w.heap.size, 1, none⟩) (by show w.heap.size < _; rw [HZ.out]; omega)).trans e1
  have R := (hb1.block (w.heap.size + 1) (by rw [HZ.out]; omega)).trans HR1.out
  have r0 : w1.cell? ⟨w.heap.size + 1, 0, none⟩ = some (.int .i64 0) := cell_of_row w1 (w.heap.size + 1) 0 _ 99 (0, 0) R
  have r1 : w1.cell? ⟨w.heap.size + 1, 1, none⟩ = some (.int .i64 0) := cell_of_row w1 (w.heap.size + 1) 1 _ 99 (0, 0) R
  have r2 : w1.cell? ⟨w.heap.size + 1, 2, none⟩ = some (.string ⟨#[]⟩) := cell_of_row w1 (w.heap.size + 1) 2 _ 99 (0, 0) R
  have r3 : w1.cell? ⟨w.heap.size + 1, 3, none⟩ = some (.int .i64 0) := cell_of_row w1 (w.heap.size + 1) 3 _ 99 (0, 0) R
  have r4 : w1.cell? ⟨w.heap.size + 1, 4, none⟩ = some (.int .i64 0) := cell_of_row w1 (w.heap.size + 1) 4 _ 99 (0, 0) R
  have r5 : w1.cell? ⟨w.heap.size + 1, 5, none⟩ = some (.slice none 0 0) := cell_of_row w1 (w.heap.size + 1) 5 _ 99 (0, 0) R
  have rf : ∀ i, w1.frozen? ⟨w.heap.size + 1, i, none⟩ = false := fun i => by simp [World.frozen?, R]
  clear R hb1 e0 e2 e3 e4 e5 e6 hk
  refine Lib.hid ?_
  go_wp2
  refine bodyPost_ret (v := .tuple #[.agg #[.int .i64 0, .int .i64 0, .string ⟨#[]⟩, .int .i64 15, .int .i64 0, .slice none 0 0], .int .i64 15]) (by simp [results, Tryz.results74, go_sem, *]) rfl ⟨rfl, ?_⟩
  exact ((((((HB.out.trans (HB1.out.mono HB.out.size)).setCell (by simp) _).setCell (by simp) _).setCell (by simp) _).setCell (by simp) _).setCell (by simp) _).setCell (by simp) _

end Go.Proofs.YthooajbhiikbfaaGreatDoor
