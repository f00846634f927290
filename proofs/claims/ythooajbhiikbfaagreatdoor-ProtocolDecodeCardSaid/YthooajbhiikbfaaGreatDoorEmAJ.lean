/- A part of the proofs of the statements of emendatelaw55 (layer protocol): awake returns true. Conditions: those that stand in each theorem, no other. -/
import Derived.Test.YthooajbhiikbfaaGreatDoorEmAI
namespace Go.Proofs.YthooajbhiikbfaaGreatDoor
open Go Go.RowKit Em

set_option maxRecDepth 100000 in
set_option maxHeartbeats 4000000 in
theorem awake_any (w : World) (hE : Env w) : Calls Tryz.prog 9 #[] w fun e w' => e = .returned (.bool true) ∧ Below w.heap.size w w' := by
  obtain ⟨W1, hW1⟩ : ∃ W1 : World, (w.alloc (.cells #[.string ⟨#[48]⟩] 9)).alloc (.cells #[.int .i64 7, .string ⟨#[117, 110, 100, 111]⟩, .slice (some ⟨w.heap.size, 0, none⟩) 1 1] 24) = W1 := ⟨_, rfl⟩
  have HB := Lib.hid (show Below w.heap.size w W1 by rw [← hW1]; exact keep_trans (keep_alloc _ _) (keep_alloc _ _))
  have HZ := Lib.hid (show W1.heap.size = w.heap.size + 2 by rw [← hW1]; simp)
  have HM := Lib.hid (show W1.heap[w.heap.size + 1]? = some (.cells #[.int .i64 7, .string ⟨#[117, 110, 100, 111]⟩, .slice (some ⟨w.heap.size, 0, none⟩) 1 1] 24 (0, 0)) by
    rw [← hW1]
    have := heap_alloc_new (w.alloc (.cells #[.string ⟨#[48]⟩] 9)) (.cells #[.int .i64 7, .string ⟨#[117, 110, 100, 111]⟩, .slice (some ⟨w.heap.size, 0, none⟩) 1 1] 24)
    simpa using this)
  have HA := Lib.hid (show W1.cell? ⟨w.heap.size, 0, none⟩ = some (.string ⟨#[48]⟩) by
    refine cell_of_row W1 w.heap.size 0 #[.string ⟨#[48]⟩] 9 (0, 0) ?_
    rw [← hW1, Below.heap_alloc _ _ _ (by simp)]
    exact heap_alloc_new w _)
  have HE := Lib.hid (hE.below HB.out)
  have HRd := Lib.hid (RdS.one HA.out (by rw [HZ.out]; omega))
  have HW := Lib.hid hW1
  clear hW1 hE
  go_enter Tryz.func9, Tryz.ntmps9
  go_upto_region 2 with fail
  rw [HW.out]
  obtain ⟨m0, m1, m2, -⟩ := three_keep HM.out (Below.refl _ _)
  have HEnc := Lib.hid (enc9 w.heap.size W1 HE.out HA.out (by rw [HZ.out]; omega))
  go_upto_region 3 with (go_at_call 10; refine HEnc.out.mono ?_; rintro e w2 ⟨rfl, hb2⟩)
  have HK2 := Lib.hid hb2
  have HE2 := Lib.hid (HE.out.below hb2)
  clear m0 m1 m2 hb2
  go_upto_region 4 with (go_at_call 12; refine (dc1 _ HE2.out).mono ?_; rintro e w3 ⟨⟨A, c, rfl, hr3⟩, hb3⟩)
  have HK3 := Lib.hid (keep_trans HK2.out hb3)
  have HE3 := Lib.hid (HE2.out.below hb3)
  obtain ⟨W3, hW3⟩ : ∃ W3 : World, w3.alloc (.cells #[.int .i64 7, .string ⟨#[117, 110, 100, 111]⟩, .slice A 1 c] 24) = W3 := ⟨_, rfl⟩
  rw [hW3]
  have HD := Lib.hid (show W3.heap[w3.heap.size]? = some (.cells #[.int .i64 7, .string ⟨#[117, 110, 100, 111]⟩, .slice A 1 c] 24 (0, 0)) by rw [← hW3]; exact heap_alloc_new _ _)
  have HK3' := Lib.hid (show Below W1.heap.size W1 W3 by rw [← hW3]; exact keep_trans HK3.out (keep_alloc _ _))
  have HE3' := Lib.hid (show Env W3 by rw [← hW3]; exact HE3.out.alloc _)
  have HRD := Lib.hid (show RdS W3 W3.heap.size A [⟨#[48]⟩] by rw [← hW3]; exact hr3.keepB (keep_alloc _ _))
  clear hb3 hr3 hW3 HK2 HE2 HE3
  go_upto_region 5 with (go_at_call 12; refine (dc2 _ HE3'.out).mono ?_; rintro e w4 ⟨rfl, hb4⟩)
  obtain ⟨W4, hW4⟩ : ∃ W4 : World, w4.alloc (.cells #[.int .i64 0, .string ⟨#[]⟩, .slice none 0 0] 24) = W4 := ⟨_, rfl⟩
  rw [hW4]
  have HK4 := Lib.hid (show Below W3.heap.size W3 W4 by rw [← hW4]; exact keep_trans hb4 (keep_alloc _ _))
  have HE4 := Lib.hid (HE3'.out.below HK4.out)
  clear hb4 hW4
  go_upto_region 6 with (go_at_call 12; refine (dc3 _ HE4.out).mono ?_; rintro e w5 ⟨rfl, hb5⟩)
  obtain ⟨W5, hW5⟩ : ∃ W5 : World, w5.alloc (.cells #[.int .i64 0, .string ⟨#[]⟩, .slice none 0 0] 24) = W5 := ⟨_, rfl⟩
  rw [hW5]
  have HK5 := Lib.hid (show Below W3.heap.size W3 W5 by rw [← hW5]; exact keep_trans HK4.out (keep_trans hb5 (keep_alloc _ _)))
  have HE5 := Lib.hid (HE3'.out.below HK5.out)
  clear hb5 hW5 HE4 HK4
  go_upto_region 9 with (go_at_call 16; refine (new_nil _).mono ?_; rintro e w6 ⟨⟨b, v, rfl, hws⟩, hb6⟩)
  have HK6 := Lib.hid (keep_trans HK5.out hb6)
  have HL6 := Lib.hid (keep_trans HK3'.out HK6.out)
  have HE6 := Lib.hid (HE3'.out.below HK6.out)
  have HA6 := Lib.hid (show w6.cell? ⟨w.heap.size, 0, none⟩ = some (.string ⟨#[48]⟩) from (HL6.out.cell (by show w.heap.size < _; rw [HZ.out]; omega)).trans HA.out)
  have HWs := Lib.hid hws
  have HLt6 := Lib.hid (show w.heap.size < w6.heap.size by have := HL6.out.size; rw [HZ.out] at this; omega)
  have HS6 := Lib.hid (serve_c (.pointer (some ⟨b, 0, none⟩)) ⟨w.heap.size, 0, none⟩ 1 w6 HE6.out (fun W hb => run_undo b v ⟨w.heap.size, 0, none⟩ 1 W (HE6.out.below hb) (HWs.out.below hb) ((hb.cell HLt6.out).trans HA6.out) (Nat.lt_of_lt_of_le HLt6.out hb.size)))
  obtain ⟨m0, m1, m2, -⟩ := three_keep HM.out HL6.out
  clear hb6 hws HK5 HE5
  go_upto_region 10 with (go_at_call 17; refine HS6.out.mono ?_; rintro e w7 ⟨⟨k7, rfl, hc7, hl7⟩, hb7⟩)
  obtain ⟨W7, hW7⟩ : ∃ W7 : World, w7.alloc (.cells #[.int .i64 7, .string ⟨#[101, 114, 114, 111, 114]⟩, .slice (some ⟨k7, 0, none⟩) 1 1] 24) = W7 := ⟨_, rfl⟩
  rw [hW7]
  have HK7 := Lib.hid (show Below w6.heap.size w6 W7 by rw [← hW7]; exact keep_trans hb7 (keep_alloc _ _))
  have HL7 := Lib.hid (keep_trans HL6.out HK7.out)
  have HE7 := Lib.hid (HE6.out.below HK7.out)
  have HR7 := Lib.hid (show W7.heap[w7.heap.size]? = some (.cells #[.int .i64 7, .string ⟨#[101, 114, 114, 111, 114]⟩, .slice (some ⟨k7, 0, none⟩) 1 1] 24 (0, 0)) by rw [← hW7]; exact heap_alloc_new _ _)
  have HRd7 := Lib.hid (show RdS W7 W7.heap.size (some ⟨k7, 0, none⟩) [⟨#[49, 53]⟩] by rw [← hW7]; exact (RdS.one hc7 hl7).keepB (keep_alloc _ _))
  have HS7 := Lib.hid (serve_c (.pointer none) ⟨w.heap.size, 0, none⟩ 1 W7 HE7.out (fun W hb => (run_nil (.string ⟨#[117, 110, 100, 111]⟩) (.slice (some ⟨w.heap.size, 0, none⟩) 1 1) W).mono (fun e w' h => ⟨⟨_, h.1⟩, h.2⟩)))
  clear m0 m1 m2 hb7 hc7 hl7 hW7 HS6
  obtain ⟨m0, m1, m2, -⟩ := three_keep HM.out HL7.out
  go_upto_region 11 with (go_at_call 17; refine HS7.out.mono ?_; rintro e w8 ⟨⟨k8, rfl, hc8, hl8⟩, hb8⟩)
  obtain ⟨W8, hW8⟩ : ∃ W8 : World, w8.alloc (.cells #[.int .i64 7, .string ⟨#[101, 114, 114, 111, 114]⟩, .slice (some ⟨k8, 0, none⟩) 1 1] 24) = W8 := ⟨_, rfl⟩
  rw [hW8]
  have HK8 := Lib.hid (show Below W7.heap.size W7 W8 by rw [← hW8]; exact keep_trans hb8 (keep_alloc _ _))
  have HL8 := Lib.hid (keep_trans HL7.out HK8.out)
  have HD8 := Lib.hid (keep_trans HK6.out (keep_trans HK7.out HK8.out))
  have HN8 := Lib.hid (show W8.heap[w8.heap.size]? = some (.cells #[.int .i64 7, .string ⟨#[101, 114, 114, 111, 114]⟩, .slice (some ⟨k8, 0, none⟩) 1 1] 24 (0, 0)) by rw [← hW8]; exact heap_alloc_new _ _)
  have HRd8 := Lib.hid (show RdS W8 W8.heap.size (some ⟨k8, 0, none⟩) [⟨#[49, 53]⟩] by rw [← hW8]; exact (RdS.one hc8 hl8).keepB (keep_alloc _ _))
  clear m0 m1 m2 hb8 hc8 hl8 hW8 HS7
  obtain ⟨m0, m1, m2, -⟩ := three_keep HM.out HL8.out
  obtain ⟨d0, d1, d2, -⟩ := three_keep HD.out HD8.out
  have HSa := Lib.hid (same_c 7 ⟨#[117, 110, 100, 111]⟩ ⟨#[48]⟩ A (some ⟨w.heap.size, 0, none⟩) c 1 W8 (HRD.out.keepB HD8.out) (HRd.out.keepB HL8.out))
  go_wp2_with (go_at_call 14; refine HSa.out.mono ?_; rintro e w9 ⟨rfl, hb9⟩; refine Hid.out ?_)
  have HK9 := Lib.hid (keep_trans HK8.out hb9)
  have HN9 := Lib.hid hb9
  obtain ⟨W9, hW9⟩ : ∃ W9 : World, w9.alloc (.cells #[.string ⟨#[49, 53]⟩] 9) = W9 := ⟨_, rfl⟩
  have HX9 := Lib.hid hW9
  have HK9' := Lib.hid (show Below W7.heap.size W7 W9 by rw [← hW9]; exact keep_trans HK9.out (keep_alloc _ _))
  have HN9' := Lib.hid (show Below W8.heap.size W8 W9 by rw [← hW9]; exact keep_trans hb9 (keep_alloc _ _))
  have HRd9 := Lib.hid (show RdS W9 W9.heap.size (some ⟨w9.heap.size, 0, none⟩) [⟨#[49, 53]⟩] from RdS.one (by rw [← hW9]; exact cell_of_row _ _ 0 _ 9 (0, 0) (heap_alloc_new _ _)) (by rw [← hW9]; simp))
  clear m0 m1 m2 d0 d1 d2 hb9 hW9
  obtain ⟨r0, r1, r2, -⟩ := three_keep HR7.out HK9.out
  have HSb := Lib.hid (same_c 7 ⟨#[101, 114, 114, 111, 114]⟩ ⟨#[49, 53]⟩ (some ⟨k7, 0, none⟩) (some ⟨w9.heap.size, 0, none⟩) 1 1 W9 (HRd7.out.keepB HK9'.out) HRd9.out)
  refine Lib.hid ?_
  go_wp2_with (go_at_call 14; rw [HX9.out]; refine HSb.out.mono ?_; rintro e w10 ⟨rfl, hb10⟩; refine Hid.out ?_)
  have HK10 := Lib.hid (keep_trans HK9'.out hb10)
  have HN10 := Lib.hid (keep_trans HN9'.out hb10)
  clear r0 r1 r2 hb10
  obtain ⟨r0, r1, r2, -⟩ := three_keep HR7.out HK10.out
  obtain ⟨n0, n1, n2, -⟩ := three_keep HN8.out HN10.out
  have HSc := Lib.hid (same_c 7 ⟨#[101, 114, 114, 111, 114]⟩ ⟨#[49, 53]⟩ (some ⟨k8, 0, none⟩) (some ⟨k7, 0, none⟩) 1 1 w10 (HRd8.out.keepB HN10.out) (HRd7.out.keepB HK10.out))
  refine Lib.hid ?_
  go_wp2_with (go_at_call 14; refine HSc.out.mono ?_; rintro e w11 ⟨rfl, hb11⟩)
  go_ret
  refine ⟨rfl, ?_⟩
  exact keep_trans HB.out (keep_trans HL7.out (keep_trans HK10.out hb11))
end Go.Proofs.YthooajbhiikbfaaGreatDoor
