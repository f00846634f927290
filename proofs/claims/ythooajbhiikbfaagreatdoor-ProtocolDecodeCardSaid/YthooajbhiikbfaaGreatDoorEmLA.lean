/- A part of the proofs of the statements of emendatelaw55 (layer protocol): the law ProtocolEncode is walked. Conditions: those that stand in each theorem, no other. -/
import Derived.Test.YthooajbhiikbfaaGreatDoorEmAJ
import Derived.Test.YthooajbhiikbfaaGreatDoorEmO
namespace Go.Proofs.YthooajbhiikbfaaGreatDoor
open Go Go.RowKit Em

theorem mem_sumSz {ss : List ByteArray} {s : ByteArray} (h : s ∈ ss) : s.size ≤ sumSz ss := by
  induction ss with
  | nil => cases h
  | cons a t ih =>
    unfold sumSz
    simp only [List.map_cons, List.sum_cons]
    rcases List.mem_cons.1 h with rfl | h
    · omega
    · have := ih h
      unfold sumSz at this
      omega

theorem short_facts {m : ByteArray} {ss : List ByteArray} (h : shortB m ss = true) : m.size ≤ 500 ∧ ss.length ≤ 20 ∧ ∀ s ∈ ss, s.size ≤ 500 := by
  unfold shortB at h
  simp only [Bool.and_eq_true, decide_eq_true_eq] at h
  exact ⟨by omega, h.1, fun s hs => by have := mem_sumSz hs; omega⟩

theorem short_c {w : World} {id : Int} {m : ByteArray} {A : Option Addr} {ss : List ByteArray} (c : Nat) (h : MArg w id m A ss) :
    Calls Tryz.prog 8 #[.agg #[.int .i64 id, .string m, .slice A ss.length c]] w fun e w' => e = .returned (.bool (shortB m ss)) ∧ Below w.heap.size w w' :=
  short_any id m A c ss w h.hm (by have := h.hl; omega) h.hr h.hs

theorem enc_form (M : Msg) : ∃ T z, encVal M = .tuple #[.string T, .int .i64 z] := by
  unfold encVal
  split
  · exact ⟨_, _, rfl⟩
  · exact ⟨_, _, rfl⟩

theorem encode_c {w : World} {id : Int} {m : ByteArray} {A : Option Addr} {ss : List ByteArray} (c : Nat) (hE : Env w) (h : MArg w id m A ss) (hs : shortB m ss = true) :
    Calls Tryz.prog 10 #[.agg #[.int .i64 id, .string m, .slice A ss.length c]] w fun e w' => e = .returned (encVal (msgOf id m ss)) ∧ Below w.heap.size w w' := by
  obtain ⟨h1, h2, h3⟩ := short_facts hs
  exact encode_any id m A c ss w hE h.hi (by omega) h2 h.hr (fun s hh => by have := h3 s hh; omega)
theorem encodeR_c {w : World} {id : Int} {m : ByteArray} {A : Option Addr} {ss : List ByteArray} (c : Nat) (h : MArg w id m A ss) (hs : shortB m ss = true) :
    Calls Tryz.prog 11 #[.agg #[.int .i64 id, .string m, .slice A ss.length c]] w fun e w' => e = .returned (encVal (msgOf id m ss)) ∧ Below w.heap.size w w' := by
  obtain ⟨h1, h2, h3⟩ := short_facts hs
  exact encodeR_any id m A c ss w h.hi (by omega) h2 h.hr (fun s hh => by have := h3 s hh; omega)

set_option maxRecDepth 100000 in
set_option maxHeartbeats 2000000 in
theorem law_encode (id : Int) (m : ByteArray) (A : Option Addr) (c : Nat) (ss : List ByteArray) (w : World) (hE : Env w) (h : MArg w id m A ss) :
    Calls Tryz.prog 3 #[.agg #[.int .i64 id, .string m, .slice A ss.length c]] w fun e w' => e = .returned (.bool true) ∧ Below w.heap.size w w' := by
  obtain ⟨W0, hW0⟩ : ∃ W0 : World, w.alloc (.cells #[.int .i64 id, .string m, .slice A ss.length c] 24) = W0 := ⟨_, rfl⟩
  have HB := Lib.hid (show Below w.heap.size w W0 by rw [← hW0]; exact keep_alloc _ _)
  have HK := Lib.hid (show W0.heap[w.heap.size]? = some (.cells #[.int .i64 id, .string m, .slice A ss.length c] 24 (0, 0)) by rw [← hW0]; exact heap_alloc_new _ _)
  have HE := Lib.hid (hE.below HB.out)
  have HM := Lib.hid (h.below HB.out)
  have HSh := Lib.hid (short_c c HM.out)
  have HW := Lib.hid hW0
  obtain ⟨T, z, hTz⟩ := enc_form (msgOf id m ss)
  have HEnc := Lib.hid (fun (X : World) (hb : Below W0.heap.size W0 X) (hs : shortB m ss = true) => encode_c c (HE.out.below hb) (HM.out.below hb) hs)
  have HRef := Lib.hid (fun (X : World) (hb : Below W0.heap.size W0 X) (hs : shortB m ss = true) => encodeR_c c (HM.out.below hb) hs)
  rw [hTz] at HEnc HRef
  obtain ⟨b, hsb⟩ : ∃ b, shortB m ss = b := ⟨_, rfl⟩
  obtain ⟨n, hn⟩ : ∃ n, ss.length = n := ⟨_, rfl⟩
  rw [hsb] at HSh
  rw [hn] at HW HK HSh HEnc HRef ⊢
  clear hW0 hE h hTz hn
  go_enter Tryz.func3, Tryz.ntmps3
  go_upto_region 1 with fail
  rw [HW.out]
  obtain ⟨c0, c1, c2, -⟩ := three_keep HK.out (Below.refl _ _)
  cases b with
  | false =>
    go_wp2_with (first
      | (go_at_call 8; refine HSh.out.mono ?_; rintro e w1 ⟨rfl, hb1⟩)
      | (go_at_call 9; refine (awake_any _ (HE.out.below hb1)).mono ?_; rintro e w2 ⟨rfl, hb2⟩))
    go_ret
    exact ⟨rfl, keep_trans HB.out (keep_trans hb1 hb2)⟩
  | true =>
    go_upto_region 3 with (go_at_call 8; refine HSh.out.mono ?_; rintro e w1 ⟨rfl, hb1⟩)
    have HB1 := Lib.hid hb1
    clear c0 c1 c2 hb1
    obtain ⟨c0, c1, c2, -⟩ := three_keep HK.out HB1.out
    go_upto_region 4 with (go_at_call 10; refine (HEnc.out _ HB1.out hsb).mono ?_; rintro e w2 ⟨rfl, hb2⟩)
    have HB2 := Lib.hid (keep_trans HB1.out hb2)
    clear c0 c1 c2 hb2
    obtain ⟨c0, c1, c2, -⟩ := three_keep HK.out HB2.out
    go_upto_region 5 with (go_at_call 11; refine (HRef.out _ HB2.out hsb).mono ?_; rintro e w3 ⟨rfl, hb3⟩)
    have HB3 := Lib.hid (keep_trans HB2.out hb3)
    clear c0 c1 c2 hb3
    go_wp2_with (go_at_call 9; refine (awake_any _ (HE.out.below HB3.out)).mono ?_; rintro e w4 ⟨rfl, hb4⟩)
    go_ret
    exact ⟨rfl, keep_trans HB.out (keep_trans HB3.out hb4)⟩
end Go.Proofs.YthooajbhiikbfaaGreatDoor
