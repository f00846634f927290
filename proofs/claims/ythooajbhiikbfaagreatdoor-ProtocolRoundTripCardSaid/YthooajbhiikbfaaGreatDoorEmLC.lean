/- A part of the proofs of the statements of emendatelaw55 (layer protocol): the law ProtocolRoundTrip is walked. Conditions: those that stand in each theorem, no other. -/
import Derived.Test.YthooajbhiikbfaaGreatDoorEmLB
namespace Go.Proofs.YthooajbhiikbfaaGreatDoor
open Go Go.RowKit Em

theorem encVal_ok {M : Msg} (h : valid M = true) : encVal M = .tuple #[.string (S (encL M)), .int .i64 0] := by unfold encVal; rw [h]; rfl
theorem encVal_no {M : Msg} (h : valid M = false) : encVal M = .tuple #[.string ⟨#[]⟩, .int .i64 1] := by unfold encVal; rw [h]; rfl
theorem S_back (m : ByteArray) : S m.data.toList = m := by unfold S; simp
theorem S_map_back (ss : List ByteArray) : (ss.map (·.data.toList)).map S = ss := by
  rw [List.map_map]
  conv => rhs; rw [← List.map_id ss]
  exact List.map_congr_left fun s _ => S_back s

theorem encL_le {id : Int} {m : ByteArray} {ss : List ByteArray} (hi : inR id) (h : shortB m ss = true) : (encL (msgOf id m ss)).length ≤ 100100 ∧ 20 ≤ (encL (msgOf id m ss)).length := by
  obtain ⟨h1, h2, h3⟩ := short_facts h
  have hb := body_length_le id m ss hi (by omega) (fun s hh => by have := h3 s hh; omega) h2
  unfold encL
  rw [List.length_append, header_length]
  have hi2 : inR ((body (msgOf id m ss)).length : Int) := by unfold inR; omega
  have := itoa_len20 hi2
  constructor <;> omega

/-- what stands in front is decoded -/
theorem decode_front {id : Int} {m : ByteArray} {ss : List ByteArray} {l : Bytes} (r : Bytes) (hv : valid (msgOf id m ss) = true) (hi : inR id) (hl : l = encL (msgOf id m ss) ++ r) {w : World} {e : Ending} {w' : World} (hd : DecPost l w e w') :
    (∃ A c, e = .returned (.tuple #[.agg #[.int .i64 id, .string m, .slice A ss.length c], .int .i64 ((encL (msgOf id m ss)).length : Int), .int .i64 0]) ∧ RdS w' w'.heap.size A ss) ∧ Below w.heap.size w w' := by
  subst hl
  unfold DecPost at hd
  rw [dec_enc (msgOf id m ss) hv hi r] at hd
  obtain ⟨v, rfl, ⟨A, c, rfl, -, hr⟩, hb⟩ := hd
  have e1 : S (msgOf id m ss).meth = m := S_back m
  have e2 : (msgOf id m ss).args.map S = ss := S_map_back ss
  rw [e2] at hr
  rw [e1, e2]
  exact ⟨⟨A, c, rfl, hr⟩, hb⟩

theorem decode_cut {M : Msg} {l : Bytes} (k : Nat) (hv : valid M = true) (hk : k < (encL M).length) (hl : l = (encL M).take k) {w : World} {e : Ending} {w' : World} (hd : DecPost l w e w') :
    e = .returned (.tuple #[.agg #[.int .i64 0, .string ⟨#[]⟩, .slice none 0 0], .int .i64 0, .int .i64 6]) ∧ Below w.heap.size w w' := by
  subst hl
  unfold DecPost at hd
  rw [dec_prefix M hv k hk] at hd
  exact hd

set_option maxRecDepth 100000 in
set_option maxHeartbeats 4000000 in
theorem law_round (id : Int) (m : ByteArray) (A : Option Addr) (c : Nat) (ss : List ByteArray) (more : ByteArray) (w : World) (hE : Env w) (h : MArg w id m A ss) (hmo : more.size ≤ 140737488355328) :
    Calls Tryz.prog 5 #[.agg #[.int .i64 id, .string m, .slice A ss.length c], .string more] w fun e w' => e = .returned (.bool true) ∧ Below w.heap.size w w' := by
  obtain ⟨W0, hW0⟩ : ∃ W0 : World, w.alloc (.cells #[.int .i64 id, .string m, .slice A ss.length c] 24) = W0 := ⟨_, rfl⟩
  have HB := Lib.hid (show Below w.heap.size w W0 by rw [← hW0]; exact keep_alloc _ _)
  have HK := Lib.hid (show W0.heap[w.heap.size]? = some (.cells #[.int .i64 id, .string m, .slice A ss.length c] 24 (0, 0)) by rw [← hW0]; exact heap_alloc_new _ _)
  have HE := Lib.hid (hE.below HB.out)
  have HM := Lib.hid (h.below HB.out)
  have HSh := Lib.hid (short_c c HM.out)
  have HW := Lib.hid hW0
  have HEnc := Lib.hid (fun (X : World) (c : Nat) (A : Option Addr) (hb : Below W0.heap.size W0 X) (hM : MArg X id m A ss) (hs : shortB m ss = true) => encode_c c (HE.out.below hb) hM hs)
  have HSame := Lib.hid (fun A A' c c' W hn hr hr' => same_true id m A A' c c' ss W hn hr hr')
  have HDec := Lib.hid (fun (r : Bytes) (hv : valid (msgOf id m ss) = true) (X : ByteArray) (hX : X.data.toList = encL (msgOf id m ss) ++ r) (hs : X.size ≤ 90000000) (W : World) (hb : Below W0.heap.size W0 W) =>
    (decode_any X hs W (HE.out.below hb)).mono (fun e w' => decode_front r hv HM.out.hi hX))
  have HLn := Lib.hid (fun (hs : shortB m ss = true) => encL_le HM.out.hi hs)
  have HMk := Lib.hid (fun (X : World) (A : Option Addr) (hr : RdS X X.heap.size A ss) => (⟨HM.out.hi, HM.out.hm, HM.out.hl, hr, HM.out.hs⟩ : MArg X id m A ss))
  obtain ⟨b, hsb⟩ : ∃ b, shortB m ss = b := ⟨_, rfl⟩
  have HSl := Lib.hid (fun (hs : shortB m ss = true) => (short_facts hs).2.1)
  obtain ⟨n, hn⟩ : ∃ n, ss.length = n := ⟨_, rfl⟩
  rw [hsb] at HSh
  rw [hn] at HW HK HSh HEnc HSame HDec HSl ⊢
  clear hW0 hE h hn
  go_enter Tryz.func5, Tryz.ntmps5
  go_upto_region 1 with fail
  rw [HW.out]
  obtain ⟨c0, c1, c2, -⟩ := three_keep HK.out (Below.refl _ _)
  cases b with
  | false =>
    go_wp2_with (first
      | (go_at_call 8; refine HSh.out.mono ?_; rintro e w1 ⟨rfl, hb1⟩)
      | (go_at_call 9; refine (awake_any _ (HE.out.below hb1)).mono ?_; rintro e w2 ⟨rfl, hb2⟩))
    go_ret
    exact ⟨rfl, keep_trans HB.out (keep_trans hb1 hb2)⟩
  | true =>
    by_cases hmore : more.size ≤ 200
    · have hd : decide ((200 : Int) < (more.size : Int)) = false := by simp; omega
      go_upto_region 3 with (go_at_call 8; refine HSh.out.mono ?_; rintro e w1 ⟨rfl, hb1⟩)
      have HB1 := Lib.hid hb1
      clear c0 c1 c2 hb1
      obtain ⟨c0, c1, c2, -⟩ := three_keep HK.out HB1.out
      cases hv : valid (msgOf id m ss) with
      | false =>
        rw [encVal_no hv] at HEnc
        go_wp2_with (first
          | (go_at_call 10; refine (HEnc.out _ c A HB1.out (HM.out.below HB1.out) hsb).mono ?_; rintro e w2 ⟨rfl, hb2⟩)
          | (go_at_call 9; refine (awake_any _ (HE.out.below (keep_trans HB1.out hb2))).mono ?_; rintro e w3 ⟨rfl, hb3⟩))
        go_ret
        exact ⟨rfl, keep_trans HB.out (keep_trans HB1.out (keep_trans hb2 hb3))⟩
      | true =>
        rw [encVal_ok hv] at HEnc
        obtain ⟨hT1, hT2⟩ := HLn.out hsb
        have HD := Lib.hid (HDec.out more.data.toList hv)
        obtain ⟨T, hT⟩ : ∃ T, S (encL (msgOf id m ss)) = T := ⟨_, rfl⟩
        have hTl : T.data.toList = encL (msgOf id m ss) := by rw [← hT, S_list]
        have hTs : (encL (msgOf id m ss)).length = T.size := by rw [Lib.size_eq, hTl]
        rw [hT] at HEnc
        rw [hTs] at HD hT1 hT2
        rw [← hTl] at HD
        have HD2 := Lib.hid (HD.out (T ++ more) (by simp) (by simp; omega))
        have n3 : ¬ 9223372036854775807 < T.size + more.size := by omega
        clear HDec HD hT hTl hTs hv
        go_upto_region 6 with (go_at_call 10; refine (HEnc.out _ c A HB1.out (HM.out.below HB1.out) hsb).mono ?_; rintro e w2 ⟨rfl, hb2⟩)
        have HB2 := Lib.hid (keep_trans HB1.out hb2)
        clear c0 c1 c2 hb2
        go_upto_region 7 with (go_at_call 12; refine (HD2.out _ HB2.out).mono ?_; rintro e w3 ⟨⟨A3, c3, rfl, hr3⟩, hb3⟩)
        obtain ⟨W3, hW3⟩ : ∃ W3 : World, w3.alloc (.cells #[.int .i64 id, .string m, .slice A3 n c3] 24) = W3 := ⟨_, rfl⟩
        rw [hW3]
        have HB3 := Lib.hid (show Below W0.heap.size W0 W3 by rw [← hW3]; exact keep_trans HB2.out (keep_trans hb3 (keep_alloc _ _)))
        have HK3 := Lib.hid (show W3.heap[w3.heap.size]? = some (.cells #[.int .i64 id, .string m, .slice A3 n c3] 24 (0, 0)) by rw [← hW3]; exact heap_alloc_new _ _)
        have HR3 := Lib.hid (show RdS W3 W3.heap.size A3 ss by rw [← hW3]; exact hr3.keepB (keep_alloc _ _))
        clear hb3 hr3 hW3
        obtain ⟨d0, d1, d2, -⟩ := three_keep HK3.out (Below.refl _ _)
        go_upto_region 8 with (go_at_call 10; refine (HEnc.out _ c3 A3 HB3.out (HMk.out _ _ HR3.out) hsb).mono ?_; rintro e w4 ⟨rfl, hb4⟩)
        have HB4 := Lib.hid hb4
        clear d0 d1 d2 hb4
        go_wp2_with (go_at_call 9; refine (awake_any _ (HE.out.below (keep_trans HB3.out HB4.out))).mono ?_; rintro e w5 ⟨rfl, hb5⟩; refine Hid.out ?_)
        have HB5 := Lib.hid (keep_trans HB4.out hb5)
        clear hb5
        obtain ⟨d0, d1, d2, -⟩ := three_keep HK3.out HB5.out
        obtain ⟨c0, c1, c2, -⟩ := three_keep HK.out (keep_trans HB3.out HB5.out)
        have HS5 := Lib.hid (HSame.out A3 A c3 c w5 (by have := HSl.out hsb; omega) (HR3.out.keepB HB5.out) ((HM.out.below (keep_trans HB3.out HB5.out)).hr))
        refine Lib.hid ?_
        go_wp2_with (go_at_call 14; refine HS5.out.mono ?_; rintro e w6 ⟨rfl, hb6⟩)
        go_ret
        exact ⟨rfl, keep_trans HB.out (keep_trans HB3.out (keep_trans HB5.out hb6))⟩
    · have hd : (200 : Int) < (more.size : Int) := by omega
      go_wp2_with (first
        | (go_at_call 8; refine HSh.out.mono ?_; rintro e w1 ⟨rfl, hb1⟩)
        | (go_at_call 9; refine (awake_any _ (HE.out.below hb1)).mono ?_; rintro e w2 ⟨rfl, hb2⟩))
      go_ret
      exact ⟨rfl, keep_trans HB.out (keep_trans hb1 hb2)⟩
end Go.Proofs.YthooajbhiikbfaaGreatDoor
