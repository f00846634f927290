/- A part of the proofs of the statements of emendatelaw55 (layer protocol): words, report, event. Conditions: those that stand in each theorem, no other. -/
import Derived.Test.YthooajbhiikbfaaGreatDoorEmAB
import Derived.Deep.RegionHeld3
import Derived.Deep.RegionWith
namespace Go.Proofs.YthooajbhiikbfaaGreatDoor
open Go Go.RowKit Em

theorem join_none_f (w : World) : Calls Tryz.prog 77 #[.slice none 0 0, .string ⟨#[32]⟩] w fun e w' => e = .returned (.string ⟨#[]⟩) ∧ w = w' :=
  (Tryz.strings_Join_none none 0 ⟨#[32]⟩ w).mono fun _ _ h => ⟨h.1, h.2.symm⟩

theorem words_none (w : World) : Calls Tryz.prog 61 #[.slice none 0 0] w fun e w' => e = .returned (.slice none 0 0) ∧ w = w' := by
  go_enter Tryz.func61, Tryz.ntmps61
  go_wp2
  go_loop [3, 8] (fun r i => r = .slice none 0 0 ∧ i = .int .i64 0) (fun _ _ => 0)
  case atStart => exact ⟨rfl, rfl⟩
  case round =>
    obtain ⟨rfl, rfl⟩ := hrel
    go_wp2
    go_ret
    exact ⟨rfl, rfl⟩

/-- the report's six cells -/
structure Six (X : World) (b : Nat) : Prop where
  c0 : X.cell? ⟨b, 0, none⟩ = some (.int .i64 0)
  c1 : X.cell? ⟨b, 1, none⟩ = some (.int .i64 0)
  c2 : X.cell? ⟨b, 2, none⟩ = some (.string ⟨#[]⟩)
  c3 : X.cell? ⟨b, 3, none⟩ = some (.int .i64 15)
  c4 : X.cell? ⟨b, 4, none⟩ = some (.int .i64 0)
  c5 : X.cell? ⟨b, 5, none⟩ = some (.slice none 0 0)
theorem Six.of {X Y : World} {b : Nat} (h : Six X b) (hb : b < X.heap.size) (hl : Below X.heap.size X Y) : Six Y b :=
  ⟨(hl.cell hb).trans h.c0, (hl.cell hb).trans h.c1, (hl.cell hb).trans h.c2, (hl.cell hb).trans h.c3, (hl.cell hb).trans h.c4, (hl.cell hb).trans h.c5⟩

set_option maxRecDepth 100000 in
set_option maxHeartbeats 1000000 in
theorem report_f (w : World) (hE : Env w) :
    Calls Tryz.prog 59 #[.agg #[.int .i64 0, .int .i64 0, .string ⟨#[]⟩, .int .i64 15, .int .i64 0, .slice none 0 0]] w fun e w' => (∃ v, e = .returned v) ∧ Below w.heap.size w w' := by
  obtain ⟨W0, hW0⟩ : ∃ W0 : World, w.alloc (.cells #[.int .i64 0, .int .i64 0, .string ⟨#[]⟩, .int .i64 15, .int .i64 0, .slice none 0 0] 99) = W0 := ⟨_, rfl⟩
  have hb0 : Below w.heap.size w W0 := by rw [← hW0]; exact (Below.refl _ _).alloc (Nat.le_refl _) _
  have R : W0.heap[w.heap.size]? = some (.cells #[.int .i64 0, .int .i64 0, .string ⟨#[]⟩, .int .i64 15, .int .i64 0, .slice none 0 0] 99 (0, 0)) := by rw [← hW0]; exact heap_alloc_new w _
  have r0 : W0.cell? ⟨w.heap.size, 0, none⟩ = some (.int .i64 0) := cell_of_row W0 w.heap.size 0 _ 99 (0, 0) R
  have r1 : W0.cell? ⟨w.heap.size, 1, none⟩ = some (.int .i64 0) := cell_of_row W0 w.heap.size 1 _ 99 (0, 0) R
  have r2 : W0.cell? ⟨w.heap.size, 2, none⟩ = some (.string ⟨#[]⟩) := cell_of_row W0 w.heap.size 2 _ 99 (0, 0) R
  have r3 : W0.cell? ⟨w.heap.size, 3, none⟩ = some (.int .i64 15) := cell_of_row W0 w.heap.size 3 _ 99 (0, 0) R
  have r4 : W0.cell? ⟨w.heap.size, 4, none⟩ = some (.int .i64 0) := cell_of_row W0 w.heap.size 4 _ 99 (0, 0) R
  have r5 : W0.cell? ⟨w.heap.size, 5, none⟩ = some (.slice none 0 0) := cell_of_row W0 w.heap.size 5 _ 99 (0, 0) R
  have HE := Lib.hid (hE.below hb0)
  have HB := Lib.hid hb0
  have HW := Lib.hid hW0
  have hz : w.heap.size < W0.heap.size := by rw [← hW0]; simp
  clear hb0 hW0 R hE
  go_enter Tryz.func59, Tryz.ntmps59
  go_upto_region 1 with fail
  rw [HW.out]
  have HI := Lib.hid (fun n (h : inR n) W (hb : Below W0.heap.size W0 W) => itoa_c n h W (HE.out.below hb))
  have HH := Lib.hid (fun W (hb : Below W0.heap.size W0 W) => Six.of (show Six W0 w.heap.size from ⟨r0, r1, r2, r3, r4, r5⟩) hz hb)
  have hb : Below W0.heap.size W0 W0.drew := (Below.refl _ _).drew
  obtain ⟨s0, s1, s2, s3, s4, s5⟩ := HH.out _ hb
  clear r0 r1 r2 r3 r4 r5
  go_region_held3 (fun w' => w'.cell? ⟨w.heap.size, 0, none⟩ = some (.int .i64 0) ∧ w'.cell? ⟨w.heap.size, 1, none⟩ = some (.int .i64 0) ∧ w'.cell? ⟨w.heap.size, 2, none⟩ = some (.string ⟨#[]⟩) ∧ w'.cell? ⟨w.heap.size, 3, none⟩ = some (.int .i64 15) ∧ w'.cell? ⟨w.heap.size, 4, none⟩ = some (.int .i64 0) ∧ w'.cell? ⟨w.heap.size, 5, none⟩ = some (.slice none 0 0))
    (first | (refine ⟨?_, ?_, ?_, ?_, ?_, ?_⟩ <;> assumption) | go_keep)
    (first
      | (go_at_call 20; refine (HI.out _ (by unfold inR; omega) _ (by assumption)).mono ?_; rintro e wn ⟨rfl, hbn⟩; have hbq : Below W0.heap.size W0 wn := Below.trans (by assumption) (hbn.mono (Below.size (by assumption))); obtain ⟨s0, s1, s2, s3, s4, s5⟩ := HH.out _ hbq)
      | (go_at_call 61; refine (words_none _).mono ?_; rintro e wn ⟨rfl, rfl⟩)
      | (go_at_call 77; refine (join_none_f _).mono ?_; rintro e wn ⟨rfl, rfl⟩))
  go_wp2
  go_ret
  refine ⟨⟨_, rfl⟩, ?_⟩
  have hbf := HB.out.trans (hbq.mono HB.out.size)
  exact hbf.alloc hbf.size _

/-- the document's place in a slice of one number -/
structure Zero1 (w : World) (ad : Addr) : Prop where
  c : w.cell? ad = some (.int .i64 0)
  lt : ad.block < w.heap.size
theorem Zero1.below {w w' : World} {ad : Addr} (h : Zero1 w ad) (hb : Below w.heap.size w w') : Zero1 w' ad := ⟨(hb.cell h.lt).trans h.c, Nat.lt_of_lt_of_le h.lt hb.size⟩

set_option maxRecDepth 100000 in
set_option maxHeartbeats 1000000 in
theorem run_ev (b : Nat) (v : Value) (a g : Nat) (ad : Addr) (c : Nat) (t : ByteArray) (w : World) (hE : Env w) (hW : Ws w b v) (hZ : Zero1 w ad) (ha : w.cell? ⟨a, 0, none⟩ = some (.int .i64 3)) (hal : a < w.heap.size)
    (hg : w.cell? ⟨g, 0, none⟩ = some (.func (.func 53) #[] #[.pointer (some ⟨a, 0, none⟩)])) :
    Calls Tryz.prog 73 #[.pointer (some ⟨b, 0, none⟩), .slice (some ad) 1 c, .string t, .pointer (some ⟨g, 0, none⟩)] w fun e w' => (∃ v, e = .returned (.tuple #[v, .int .i64 15])) ∧ Below w.heap.size w w' := by
  have HV := Lib.hid (ev_f 3 0 a ad 1 c t w ha hZ.c (by omega) hal hZ.lt)
  have HDo := Lib.hid (fun W (hb : Below w.heap.size w W) => do_f b v W (hW.below hb))
  have HR := Lib.hid (fun W (hb : Below w.heap.size w W) => (report_f W (hE.below hb)).mono (R' := fun e w' => (∃ v, e = .returned v) ∧ Below w.heap.size w w') (fun _ _ h => ⟨h.1, hb.trans (h.2.mono hb.size)⟩))
  unfold evK at HV HDo
  clear hE hW hZ ha hal
  go_enter Tryz.func73, Tryz.ntmps73
  go_wp2_with (first
    | (go_at_call 53; refine HV.out.mono ?_; rintro e w1 ⟨rfl, hb1⟩)
    | (go_at_call 74; refine (HDo.out _ hb1).mono ?_; rintro e w2 ⟨rfl, hb2⟩; have hB2 : Below w.heap.size w w2 := hb1.trans (hb2.mono hb1.size); have hBX : ∀ o, Below w.heap.size w (w2.alloc o) := fun o => hB2.alloc hB2.size o)
    | (go_at_call 59; refine (HR.out _ (hBX _)).mono ?_; rintro e w3 ⟨⟨v3, rfl⟩, hb3⟩))
  refine bodyPost_ret (v := .tuple #[v3, .int .i64 15]) (by simp [results, Tryz.results73, go_sem, *]) rfl ⟨⟨_, rfl⟩, hb3⟩

end Go.Proofs.YthooajbhiikbfaaGreatDoor
