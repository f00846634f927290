/- A part of the proofs of the statements of emendatelaw55 (layer protocol): the laws ProtocolEncode, ProtocolDecode, ProtocolRoundTrip and ProtocolPrefix are walked. Conditions: those that stand in each theorem, no other. -/
import Derived.Test.YthooajbhiikbfaaGreatDoorEmAJ
import Derived.Test.YthooajbhiikbfaaGreatDoorEmO
namespace Go.Proofs.YthooajbhiikbfaaGreatDoor
open Go Go.RowKit Em

theorem mem_sumSz {ss : List ByteArray} {s : ByteArray} (h : s ∈ ss) : s.size ≤ sumSz ss := by
  induction ss with
  | nil => cases h
  | cons a t ih =>
    unfold sumSz
    simp only [List.map_cons, List.sum_cons]
    rcases List.mem_cons.1 h with rfl | h
    · omega
    · have := ih h
      unfold sumSz at this
      omega

theorem short_facts {m : ByteArray} {ss : List ByteArray} (h : shortB m ss = true) : m.size ≤ 500 ∧ ss.length ≤ 20 ∧ ∀ s ∈ ss, s.size ≤ 500 := by
  unfold shortB at h
  simp only [Bool.and_eq_true, decide_eq_true_eq] at h
  exact ⟨by omega, h.1, fun s hs => by have := mem_sumSz hs; omega⟩

theorem short_c {w : World} {id : Int} {m : ByteArray} {A : Option Addr} {ss : List ByteArray} (c : Nat) (h : MArg w id m A ss) :
    Calls Tryz.prog 8 #[.agg #[.int .i64 id, .string m, .slice A ss.length c]] w fun e w' => e = .returned (.bool (shortB m ss)) ∧ Below w.heap.size w w' :=
  short_any id m A c ss w h.hm (by have := h.hl; omega) h.hr h.hs

theorem enc_form (M : Msg) : ∃ T z, encVal M = .tuple #[.string T, .int .i64 z] := by
  unfold encVal
  split
  · exact ⟨_, _, rfl⟩
  · exact ⟨_, _, rfl⟩

theorem encode_c {w : World} {id : Int} {m : ByteArray} {A : Option Addr} {ss : List ByteArray} (c : Nat) (hE : Env w) (h : MArg w id m A ss) (hs : shortB m ss = true) :
    Calls Tryz.prog 10 #[.agg #[.int .i64 id, .string m, .slice A ss.length c]] w fun e w' => e = .returned (encVal (msgOf id m ss)) ∧ Below w.heap.size w w' := by
  obtain ⟨h1, h2, h3⟩ := short_facts hs
  exact encode_any id m A c ss w hE h.hi (by omega) h2 h.hr (fun s hh => by have := h3 s hh; omega)
theorem encodeR_c {w : World} {id : Int} {m : ByteArray} {A : Option Addr} {ss : List ByteArray} (c : Nat) (h : MArg w id m A ss) (hs : shortB m ss = true) :
    Calls Tryz.prog 11 #[.agg #[.int .i64 id, .string m, .slice A ss.length c]] w fun e w' => e = .returned (encVal (msgOf id m ss)) ∧ Below w.heap.size w w' := by
  obtain ⟨h1, h2, h3⟩ := short_facts hs
  exact encodeR_any id m A c ss w h.hi (by omega) h2 h.hr (fun s hh => by have := h3 s hh; omega)

set_option maxRecDepth 100000 in
set_option maxHeartbeats 2000000 in
theorem law_encode (id : Int) (m : ByteArray) (A : Option Addr) (c : Nat) (ss : List ByteArray) (w : World) (hE : Env w) (h : MArg w id m A ss) :
    Calls Tryz.prog 3 #[.agg #[.int .i64 id, .string m, .slice A ss.length c]] w fun e w' => e = .returned (.bool true) ∧ Below w.heap.size w w' := by
  obtain ⟨W0, hW0⟩ : ∃ W0 : World, w.alloc (.cells #[.int .i64 id, .string m, .slice A ss.length c] 24) = W0 := ⟨_, rfl⟩
  have HB := Lib.hid (show Below w.heap.size w W0 by rw [← hW0]; exact keep_alloc _ _)
  have HK := Lib.hid (show W0.heap[w.heap.size]? = some (.cells #[.int .i64 id, .string m, .slice A ss.length c] 24 (0, 0)) by rw [← hW0]; exact heap_alloc_new _ _)
  have HE := Lib.hid (hE.below HB.out)
  have HM := Lib.hid (h.below HB.out)
  have HSh := Lib.hid (short_c c HM.out)
  have HW := Lib.hid hW0
  obtain ⟨T, z, hTz⟩ := enc_form (msgOf id m ss)
  have HEnc := Lib.hid (fun (X : World) (hb : Below W0.heap.size W0 X) (hs : shortB m ss = true) => encode_c c (HE.out.below hb) (HM.out.below hb) hs)
  have HRef := Lib.hid (fun (X : World) (hb : Below W0.heap.size W0 X) (hs : shortB m ss = true) => encodeR_c c (HM.out.below hb) hs)
  rw [hTz] at HEnc HRef
  obtain ⟨b, hsb⟩ : ∃ b, shortB m ss = b := ⟨_, rfl⟩
  obtain ⟨n, hn⟩ : ∃ n, ss.length = n := ⟨_, rfl⟩
  rw [hsb] at HSh
  rw [hn] at HW HK HSh HEnc HRef ⊢
  clear hW0 hE h hTz hn
  go_enter Tryz.func3, Tryz.ntmps3
  go_upto_region 1 with fail
  rw [HW.out]
  obtain ⟨c0, c1, c2, -⟩ := three_keep HK.out (Below.refl _ _)
  cases b with
  | false =>
    go_wp2_with (first
      | (go_at_call 8; refine HSh.out.mono ?_; rintro e w1 ⟨rfl, hb1⟩)
      | (go_at_call 9; refine (awake_any _ (HE.out.below hb1)).mono ?_; rintro e w2 ⟨rfl, hb2⟩))
    go_ret
    exact ⟨rfl, keep_trans HB.out (keep_trans hb1 hb2)⟩
  | true =>
    go_upto_region 3 with (go_at_call 8; refine HSh.out.mono ?_; rintro e w1 ⟨rfl, hb1⟩)
    have HB1 := Lib.hid hb1
    clear c0 c1 c2 hb1
    obtain ⟨c0, c1, c2, -⟩ := three_keep HK.out HB1.out
    go_upto_region 4 with (go_at_call 10; refine (HEnc.out _ HB1.out hsb).mono ?_; rintro e w2 ⟨rfl, hb2⟩)
    have HB2 := Lib.hid (keep_trans HB1.out hb2)
    clear c0 c1 c2 hb2
    obtain ⟨c0, c1, c2, -⟩ := three_keep HK.out HB2.out
    go_upto_region 5 with (go_at_call 11; refine (HRef.out _ HB2.out hsb).mono ?_; rintro e w3 ⟨rfl, hb3⟩)
    have HB3 := Lib.hid (keep_trans HB2.out hb3)
    clear c0 c1 c2 hb3
    go_wp2_with (go_at_call 9; refine (awake_any _ (HE.out.below HB3.out)).mono ?_; rintro e w4 ⟨rfl, hb4⟩)
    go_ret
    exact ⟨rfl, keep_trans HB.out (keep_trans HB3.out hb4)⟩
end Go.Proofs.YthooajbhiikbfaaGreatDoor

namespace Go.Proofs.YthooajbhiikbfaaGreatDoor
open Go Go.RowKit Em

theorem valid_args {M : Msg} (h : valid M = true) : M.args.length ≤ 10 := by
  unfold valid at h
  simp only [Bool.and_eq_true, decide_eq_true_eq] at h
  exact h.1.2

/-- how a decoding ends, in one form -/
theorem dec_form (l : Bytes) : ∃ (id : Int) (m : ByteArray) (ss : List ByteArray) (n z : Int), ss.length ≤ 1000000 ∧ ∀ (w : World) (e : Ending) (w' : World), DecPost l w e w' →
    (∃ A c, e = .returned (.tuple #[.agg #[.int .i64 id, .string m, .slice A ss.length c], .int .i64 n, .int .i64 z]) ∧ RdS w' w'.heap.size A ss) ∧ Below w.heap.size w w' := by
  cases h : dec l with
  | more =>
    refine ⟨0, ⟨#[]⟩, [], 0, 6, by simp, ?_⟩
    intro w e w' hd
    unfold DecPost at hd
    rw [h] at hd
    exact ⟨⟨none, 0, hd.1, RdS.nil _ _ _⟩, hd.2⟩
  | bad =>
    refine ⟨0, ⟨#[]⟩, [], 0, 7, by simp, ?_⟩
    intro w e w' hd
    unfold DecPost at hd
    rw [h] at hd
    exact ⟨⟨none, 0, hd.1, RdS.nil _ _ _⟩, hd.2⟩
  | ok M n =>
    refine ⟨M.id, S M.meth, M.args.map S, n, 0, ?_, ?_⟩
    · have h2 := valid_args (dec_sound h).1
      rw [List.length_map]; omega
    · intro w e w' hd
      unfold DecPost at hd
      rw [h] at hd
      obtain ⟨v, rfl, ⟨A, c, rfl, -, hr⟩, hb⟩ := hd
      exact ⟨⟨A, c, rfl, hr⟩, hb⟩

set_option maxRecDepth 100000 in
set_option maxHeartbeats 2000000 in
theorem law_decode (s : ByteArray) (hs : s.size ≤ 140737488355328) (w : World) (hE : Env w) :
    Calls Tryz.prog 4 #[.string s] w fun e w' => e = .returned (.bool true) ∧ Below w.heap.size w w' := by
  have HE := Lib.hid hE
  clear hE
  by_cases h4 : s.size ≤ 400
  · obtain ⟨id, m, ss, n, z, hss, hF⟩ := dec_form s.data.toList
    have HD := Lib.hid ((decode_any s (by omega) w HE.out).mono (fun e w' => hF w e w'))
    have HR := Lib.hid (fun W => (decodeR_any s (by omega) W).mono (fun e w' => hF W e w'))
    have HSame := Lib.hid (fun A A' c c' W hr hr' => same_true id m A A' c c' ss W hss hr hr')
    obtain ⟨L, hL⟩ : ∃ L, ss.length = L := ⟨_, rfl⟩
    rw [hL] at HD HR HSame
    clear hF
    have hd : ¬ (400 : Int) < (s.size : Int) := by omega
    go_enter Tryz.func4, Tryz.ntmps4
    go_upto_region 3 with fail
    go_upto_region 4 with (go_at_call 12; refine HD.out.mono ?_; rintro e w1 ⟨⟨A, c, rfl, hr1⟩, hb1⟩)
    obtain ⟨W1, hW1⟩ : ∃ W1 : World, w1.alloc (.cells #[.int .i64 id, .string m, .slice A L c] 24) = W1 := ⟨_, rfl⟩
    rw [hW1]
    have HB1 := Lib.hid (show Below w.heap.size w W1 by rw [← hW1]; exact keep_trans hb1 (keep_alloc _ _))
    have HK1 := Lib.hid (show W1.heap[w1.heap.size]? = some (.cells #[.int .i64 id, .string m, .slice A L c] 24 (0, 0)) by rw [← hW1]; exact heap_alloc_new _ _)
    have HR1 := Lib.hid (show RdS W1 W1.heap.size A ss by rw [← hW1]; exact hr1.keepB (keep_alloc _ _))
    clear hb1 hr1 hW1 HD
    go_upto_region 5 with (go_at_call 13; refine (HR.out _).mono ?_; rintro e w2 ⟨⟨A2, c2, rfl, hr2⟩, hb2⟩)
    obtain ⟨W2, hW2⟩ : ∃ W2 : World, w2.alloc (.cells #[.int .i64 id, .string m, .slice A2 L c2] 24) = W2 := ⟨_, rfl⟩
    rw [hW2]
    have HB2 := Lib.hid (show Below W1.heap.size W1 W2 by rw [← hW2]; exact keep_trans hb2 (keep_alloc _ _))
    have HK2 := Lib.hid (show W2.heap[w2.heap.size]? = some (.cells #[.int .i64 id, .string m, .slice A2 L c2] 24 (0, 0)) by rw [← hW2]; exact heap_alloc_new _ _)
    have HR2 := Lib.hid (show RdS W2 W2.heap.size A2 ss by rw [← hW2]; exact hr2.keepB (keep_alloc _ _))
    clear hb2 hr2 hW2 HR
    go_wp2_with (go_at_call 9; refine (awake_any _ (HE.out.below (keep_trans HB1.out HB2.out))).mono ?_; rintro e w3 ⟨rfl, hb3⟩; refine Hid.out ?_)
    have HB3 := Lib.hid hb3
    obtain ⟨a0, a1, a2, -⟩ := three_keep HK1.out (keep_trans HB2.out HB3.out)
    obtain ⟨b0, b1, b2, -⟩ := three_keep HK2.out HB3.out
    have HS3 := Lib.hid (HSame.out A A2 c c2 w3 (HR1.out.keepB (keep_trans HB2.out HB3.out)) (HR2.out.keepB HB3.out))
    clear hb3
    refine Lib.hid ?_
    go_wp2_with (go_at_call 14; refine HS3.out.mono ?_; rintro e w4 ⟨rfl, hb4⟩)
    go_ret
    exact ⟨rfl, keep_trans HB1.out (keep_trans HB2.out (keep_trans HB3.out hb4))⟩
  · have hd : (400 : Int) < (s.size : Int) := by omega
    go_enter Tryz.func4, Tryz.ntmps4
    go_wp2_with (go_at_call 9; refine (awake_any _ HE.out).mono ?_; rintro e w1 ⟨rfl, hb1⟩)
    go_ret
    exact ⟨rfl, hb1⟩
end Go.Proofs.YthooajbhiikbfaaGreatDoor

namespace Go.Proofs.YthooajbhiikbfaaGreatDoor
open Go Go.RowKit Em

theorem encVal_ok {M : Msg} (h : valid M = true) : encVal M = .tuple #[.string (S (encL M)), .int .i64 0] := by unfold encVal; rw [h]; rfl
theorem encVal_no {M : Msg} (h : valid M = false) : encVal M = .tuple #[.string ⟨#[]⟩, .int .i64 1] := by unfold encVal; rw [h]; rfl
theorem S_back (m : ByteArray) : S m.data.toList = m := by unfold S; simp
theorem S_map_back (ss : List ByteArray) : (ss.map (·.data.toList)).map S = ss := by
  rw [List.map_map]
  conv => rhs; rw [← List.map_id ss]
  exact List.map_congr_left fun s _ => S_back s

theorem encL_le {id : Int} {m : ByteArray} {ss : List ByteArray} (hi : inR id) (h : shortB m ss = true) : (encL (msgOf id m ss)).length ≤ 100100 ∧ 20 ≤ (encL (msgOf id m ss)).length := by
  obtain ⟨h1, h2, h3⟩ := short_facts h
  have hb := body_length_le id m ss hi (by omega) (fun s hh => by have := h3 s hh; omega) h2
  unfold encL
  rw [List.length_append, header_length]
  have hi2 : inR ((body (msgOf id m ss)).length : Int) := by unfold inR; omega
  have := itoa_len20 hi2
  constructor <;> omega

/-- what stands in front is decoded -/
theorem decode_front {id : Int} {m : ByteArray} {ss : List ByteArray} {l : Bytes} (r : Bytes) (hv : valid (msgOf id m ss) = true) (hi : inR id) (hl : l = encL (msgOf id m ss) ++ r) {w : World} {e : Ending} {w' : World} (hd : DecPost l w e w') :
    (∃ A c, e = .returned (.tuple #[.agg #[.int .i64 id, .string m, .slice A ss.length c], .int .i64 ((encL (msgOf id m ss)).length : Int), .int .i64 0]) ∧ RdS w' w'.heap.size A ss) ∧ Below w.heap.size w w' := by
  subst hl
  unfold DecPost at hd
  rw [dec_enc (msgOf id m ss) hv hi r] at hd
  obtain ⟨v, rfl, ⟨A, c, rfl, -, hr⟩, hb⟩ := hd
  have e1 : S (msgOf id m ss).meth = m := S_back m
  have e2 : (msgOf id m ss).args.map S = ss := S_map_back ss
  rw [e2] at hr
  rw [e1, e2]
  exact ⟨⟨A, c, rfl, hr⟩, hb⟩

theorem decode_cut {M : Msg} {l : Bytes} (k : Nat) (hv : valid M = true) (hk : k < (encL M).length) (hl : l = (encL M).take k) {w : World} {e : Ending} {w' : World} (hd : DecPost l w e w') :
    e = .returned (.tuple #[.agg #[.int .i64 0, .string ⟨#[]⟩, .slice none 0 0], .int .i64 0, .int .i64 6]) ∧ Below w.heap.size w w' := by
  subst hl
  unfold DecPost at hd
  rw [dec_prefix M hv k hk] at hd
  exact hd

set_option maxRecDepth 100000 in
set_option maxHeartbeats 4000000 in
theorem law_round (id : Int) (m : ByteArray) (A : Option Addr) (c : Nat) (ss : List ByteArray) (more : ByteArray) (w : World) (hE : Env w) (h : MArg w id m A ss) (hmo : more.size ≤ 140737488355328) :
    Calls Tryz.prog 5 #[.agg #[.int .i64 id, .string m, .slice A ss.length c], .string more] w fun e w' => e = .returned (.bool true) ∧ Below w.heap.size w w' := by
  obtain ⟨W0, hW0⟩ : ∃ W0 : World, w.alloc (.cells #[.int .i64 id, .string m, .slice A ss.length c] 24) = W0 := ⟨_, rfl⟩
  have HB := Lib.hid (show Below w.heap.size w W0 by rw [← hW0]; exact keep_alloc _ _)
  have HK := Lib.hid (show W0.heap[w.heap.size]? = some (.cells #[.int .i64 id, .string m, .slice A ss.length c] 24 (0, 0)) by rw [← hW0]; exact heap_alloc_new _ _)
  have HE := Lib.hid (hE.below HB.out)
  have HM := Lib.hid (h.below HB.out)
  have HSh := Lib.hid (short_c c HM.out)
  have HW := Lib.hid hW0
  have HEnc := Lib.hid (fun (X : World) (c : Nat) (A : Option Addr) (hb : Below W0.heap.size W0 X) (hM : MArg X id m A ss) (hs : shortB m ss = true) => encode_c c (HE.out.below hb) hM hs)
  have HSame := Lib.hid (fun A A' c c' W hn hr hr' => same_true id m A A' c c' ss W hn hr hr')
  have HDec := Lib.hid (fun (r : Bytes) (hv : valid (msgOf id m ss) = true) (X : ByteArray) (hX : X.data.toList = encL (msgOf id m ss) ++ r) (hs : X.size ≤ 90000000) (W : World) (hb : Below W0.heap.size W0 W) =>
    (decode_any X hs W (HE.out.below hb)).mono (fun e w' => decode_front r hv HM.out.hi hX))
  have HLn := Lib.hid (fun (hs : shortB m ss = true) => encL_le HM.out.hi hs)
  have HMk := Lib.hid (fun (X : World) (A : Option Addr) (hr : RdS X X.heap.size A ss) => (⟨HM.out.hi, HM.out.hm, HM.out.hl, hr, HM.out.hs⟩ : MArg X id m A ss))
  obtain ⟨b, hsb⟩ : ∃ b, shortB m ss = b := ⟨_, rfl⟩
  have HSl := Lib.hid (fun (hs : shortB m ss = true) => (short_facts hs).2.1)
  obtain ⟨n, hn⟩ : ∃ n, ss.length = n := ⟨_, rfl⟩
  rw [hsb] at HSh
  rw [hn] at HW HK HSh HEnc HSame HDec HSl ⊢
  clear hW0 hE h hn
  go_enter Tryz.func5, Tryz.ntmps5
  go_upto_region 1 with fail
  rw [HW.out]
  obtain ⟨c0, c1, c2, -⟩ := three_keep HK.out (Below.refl _ _)
  cases b with
  | false =>
    go_wp2_with (first
      | (go_at_call 8; refine HSh.out.mono ?_; rintro e w1 ⟨rfl, hb1⟩)
      | (go_at_call 9; refine (awake_any _ (HE.out.below hb1)).mono ?_; rintro e w2 ⟨rfl, hb2⟩))
    go_ret
    exact ⟨rfl, keep_trans HB.out (keep_trans hb1 hb2)⟩
  | true =>
    by_cases hmore : more.size ≤ 200
    · have hd : decide ((200 : Int) < (more.size : Int)) = false := by simp; omega
      go_upto_region 3 with (go_at_call 8; refine HSh.out.mono ?_; rintro e w1 ⟨rfl, hb1⟩)
      have HB1 := Lib.hid hb1
      clear c0 c1 c2 hb1
      obtain ⟨c0, c1, c2, -⟩ := three_keep HK.out HB1.out
      cases hv : valid (msgOf id m ss) with
      | false =>
        rw [encVal_no hv] at HEnc
        go_wp2_with (first
          | (go_at_call 10; refine (HEnc.out _ c A HB1.out (HM.out.below HB1.out) hsb).mono ?_; rintro e w2 ⟨rfl, hb2⟩)
          | (go_at_call 9; refine (awake_any _ (HE.out.below (keep_trans HB1.out hb2))).mono ?_; rintro e w3 ⟨rfl, hb3⟩))
        go_ret
        exact ⟨rfl, keep_trans HB.out (keep_trans HB1.out (keep_trans hb2 hb3))⟩
      | true =>
        rw [encVal_ok hv] at HEnc
        obtain ⟨hT1, hT2⟩ := HLn.out hsb
        have HD := Lib.hid (HDec.out more.data.toList hv)
        obtain ⟨T, hT⟩ : ∃ T, S (encL (msgOf id m ss)) = T := ⟨_, rfl⟩
        have hTl : T.data.toList = encL (msgOf id m ss) := by rw [← hT, S_list]
        have hTs : (encL (msgOf id m ss)).length = T.size := by rw [Lib.size_eq, hTl]
        rw [hT] at HEnc
        rw [hTs] at HD hT1 hT2
        rw [← hTl] at HD
        have HD2 := Lib.hid (HD.out (T ++ more) (by simp) (by simp; omega))
        have n3 : ¬ 9223372036854775807 < T.size + more.size := by omega
        clear HDec HD hT hTl hTs hv
        go_upto_region 6 with (go_at_call 10; refine (HEnc.out _ c A HB1.out (HM.out.below HB1.out) hsb).mono ?_; rintro e w2 ⟨rfl, hb2⟩)
        have HB2 := Lib.hid (keep_trans HB1.out hb2)
        clear c0 c1 c2 hb2
        go_upto_region 7 with (go_at_call 12; refine (HD2.out _ HB2.out).mono ?_; rintro e w3 ⟨⟨A3, c3, rfl, hr3⟩, hb3⟩)
        obtain ⟨W3, hW3⟩ : ∃ W3 : World, w3.alloc (.cells #[.int .i64 id, .string m, .slice A3 n c3] 24) = W3 := ⟨_, rfl⟩
        rw [hW3]
        have HB3 := Lib.hid (show Below W0.heap.size W0 W3 by rw [← hW3]; exact keep_trans HB2.out (keep_trans hb3 (keep_alloc _ _)))
        have HK3 := Lib.hid (show W3.heap[w3.heap.size]? = some (.cells #[.int .i64 id, .string m, .slice A3 n c3] 24 (0, 0)) by rw [← hW3]; exact heap_alloc_new _ _)
        have HR3 := Lib.hid (show RdS W3 W3.heap.size A3 ss by rw [← hW3]; exact hr3.keepB (keep_alloc _ _))
        clear hb3 hr3 hW3
        obtain ⟨d0, d1, d2, -⟩ := three_keep HK3.out (Below.refl _ _)
        go_upto_region 8 with (go_at_call 10; refine (HEnc.out _ c3 A3 HB3.out (HMk.out _ _ HR3.out) hsb).mono ?_; rintro e w4 ⟨rfl, hb4⟩)
        have HB4 := Lib.hid hb4
        clear d0 d1 d2 hb4
        go_wp2_with (go_at_call 9; refine (awake_any _ (HE.out.below (keep_trans HB3.out HB4.out))).mono ?_; rintro e w5 ⟨rfl, hb5⟩; refine Hid.out ?_)
        have HB5 := Lib.hid (keep_trans HB4.out hb5)
        clear hb5
        obtain ⟨d0, d1, d2, -⟩ := three_keep HK3.out HB5.out
        obtain ⟨c0, c1, c2, -⟩ := three_keep HK.out (keep_trans HB3.out HB5.out)
        have HS5 := Lib.hid (HSame.out A3 A c3 c w5 (by have := HSl.out hsb; omega) (HR3.out.keepB HB5.out) ((HM.out.below (keep_trans HB3.out HB5.out)).hr))
        refine Lib.hid ?_
        go_wp2_with (go_at_call 14; refine HS5.out.mono ?_; rintro e w6 ⟨rfl, hb6⟩)
        go_ret
        exact ⟨rfl, keep_trans HB.out (keep_trans HB3.out (keep_trans HB5.out hb6))⟩
    · have hd : (200 : Int) < (more.size : Int) := by omega
      go_wp2_with (first
        | (go_at_call 8; refine HSh.out.mono ?_; rintro e w1 ⟨rfl, hb1⟩)
        | (go_at_call 9; refine (awake_any _ (HE.out.below hb1)).mono ?_; rintro e w2 ⟨rfl, hb2⟩))
      go_ret
      exact ⟨rfl, keep_trans HB.out (keep_trans hb1 hb2)⟩
end Go.Proofs.YthooajbhiikbfaaGreatDoor

namespace Go.Proofs.YthooajbhiikbfaaGreatDoor
open Go Go.RowKit Em

theorem tmod_nat (a b : Nat) : (a : Int).tmod (b : Int) = ((a % b : Nat) : Int) := by
  rw [Int.tmod_eq_emod_of_nonneg (by omega)]
  exact (Int.natCast_emod a b).symm

set_option maxRecDepth 100000 in
set_option maxHeartbeats 4000000 in
theorem law_prefix (id : Int) (m : ByteArray) (A : Option Addr) (c : Nat) (ss : List ByteArray) (C : Nat) (hC : C < 65536) (w : World) (hE : Env w) (h : MArg w id m A ss) :
    Calls Tryz.prog 6 #[.agg #[.int .i64 id, .string m, .slice A ss.length c], .int .u16 (C : Int)] w fun e w' => e = .returned (.bool true) ∧ Below w.heap.size w w' := by
  obtain ⟨W0, hW0⟩ : ∃ W0 : World, w.alloc (.cells #[.int .i64 id, .string m, .slice A ss.length c] 24) = W0 := ⟨_, rfl⟩
  have HB := Lib.hid (show Below w.heap.size w W0 by rw [← hW0]; exact keep_alloc _ _)
  have HK := Lib.hid (show W0.heap[w.heap.size]? = some (.cells #[.int .i64 id, .string m, .slice A ss.length c] 24 (0, 0)) by rw [← hW0]; exact heap_alloc_new _ _)
  have HE := Lib.hid (hE.below HB.out)
  have HM := Lib.hid (h.below HB.out)
  have HSh := Lib.hid (short_c c HM.out)
  have HW := Lib.hid hW0
  have HEnc := Lib.hid (fun (X : World) (hb : Below W0.heap.size W0 X) (hs : shortB m ss = true) => encode_c c (HE.out.below hb) (HM.out.below hb) hs)
  have HSame := Lib.hid (fun W => same_true 0 ⟨#[]⟩ none none 0 0 [] W (by decide) (RdS.nil _ _ _) (RdS.nil _ _ _))
  have HDec := Lib.hid (fun (k : Nat) (hv : valid (msgOf id m ss) = true) (hk : k < (encL (msgOf id m ss)).length) (X : ByteArray) (hX : X.data.toList = (encL (msgOf id m ss)).take k) (hs : X.size ≤ 90000000) (W : World) (hb : Below W0.heap.size W0 W) =>
    (decode_any X hs W (HE.out.below hb)).mono (fun e w' => decode_cut k hv hk hX))
  have HLn := Lib.hid (fun (hs : shortB m ss = true) => encL_le HM.out.hi hs)
  obtain ⟨b, hsb⟩ : ∃ b, shortB m ss = b := ⟨_, rfl⟩
  obtain ⟨n, hn⟩ : ∃ n, ss.length = n := ⟨_, rfl⟩
  rw [hsb] at HSh
  rw [hn] at HW HK HSh HEnc ⊢
  clear hW0 hE h hn
  go_enter Tryz.func6, Tryz.ntmps6
  go_upto_region 1 with fail
  rw [HW.out]
  obtain ⟨c0, c1, c2, -⟩ := three_keep HK.out (Below.refl _ _)
  cases b with
  | false =>
    go_wp2_with (first
      | (go_at_call 8; refine HSh.out.mono ?_; rintro e w1 ⟨rfl, hb1⟩)
      | (go_at_call 9; refine (awake_any _ (HE.out.below hb1)).mono ?_; rintro e w2 ⟨rfl, hb2⟩))
    go_ret
    exact ⟨rfl, keep_trans HB.out (keep_trans hb1 hb2)⟩
  | true =>
    go_upto_region 3 with (go_at_call 8; refine HSh.out.mono ?_; rintro e w1 ⟨rfl, hb1⟩)
    have HB1 := Lib.hid hb1
    clear c0 c1 c2 hb1
    obtain ⟨c0, c1, c2, -⟩ := three_keep HK.out HB1.out
    cases hv : valid (msgOf id m ss) with
    | false =>
      rw [encVal_no hv] at HEnc
      go_wp2_with (first
        | (go_at_call 10; refine (HEnc.out _ HB1.out hsb).mono ?_; rintro e w2 ⟨rfl, hb2⟩)
        | (go_at_call 9; refine (awake_any _ (HE.out.below (keep_trans HB1.out hb2))).mono ?_; rintro e w3 ⟨rfl, hb3⟩))
      go_ret
      exact ⟨rfl, keep_trans HB.out (keep_trans HB1.out (keep_trans hb2 hb3))⟩
    | true =>
      rw [encVal_ok hv] at HEnc
      obtain ⟨hT1, hT2⟩ := HLn.out hsb
      have HD := Lib.hid (fun k => HDec.out k hv)
      obtain ⟨T, hT⟩ : ∃ T, S (encL (msgOf id m ss)) = T := ⟨_, rfl⟩
      have hTl : T.data.toList = encL (msgOf id m ss) := by rw [← hT, S_list]
      have hTs : (encL (msgOf id m ss)).length = T.size := by rw [Lib.size_eq, hTl]
      rw [hT] at HEnc
      rw [hTs] at HD hT1 hT2
      rw [← hTl] at HD
      obtain ⟨K, hK⟩ : ∃ K, C % T.size = K := ⟨_, rfl⟩
      have hKT : K < T.size := by rw [← hK]; exact Nat.mod_lt _ (by omega)
      have hmod : (C : Int).tmod (T.size : Int) = (K : Int) := by rw [tmod_nat, hK]
      have HD2 := Lib.hid (HD.out K hKT (T.extract 0 K) (by rw [ext_list]; simp) (by rw [Lib.size_eq, ext_list]; simp; omega))
      have z1 : ((T.size : Int) == 0) = false := by rw [beq_eq_false_iff_ne]; omega
      have z2 : ¬ (T.size : Int) = 0 := by omega
      have hKle : K ≤ T.size := Nat.le_of_lt hKT
      clear HDec HD hT hTl hTs hv hK
      go_upto_region 6 with (go_at_call 10; refine (HEnc.out _ HB1.out hsb).mono ?_; rintro e w2 ⟨rfl, hb2⟩)
      have HB2 := Lib.hid (keep_trans HB1.out hb2)
      clear c0 c1 c2 hb2
      go_upto_region 7 with (go_at_call 12; refine (HD2.out _ HB2.out).mono ?_; rintro e w3 ⟨rfl, hb3⟩)
      obtain ⟨W3, hW3⟩ : ∃ W3 : World, w3.alloc (.cells #[.int .i64 0, .string ⟨#[]⟩, .slice none 0 0] 24) = W3 := ⟨_, rfl⟩
      rw [hW3]
      have HB3 := Lib.hid (show Below W0.heap.size W0 W3 by rw [← hW3]; exact keep_trans HB2.out (keep_trans hb3 (keep_alloc _ _)))
      have HK3 := Lib.hid (show W3.heap[w3.heap.size]? = some (.cells #[.int .i64 0, .string ⟨#[]⟩, .slice none 0 0] 24 (0, 0)) by rw [← hW3]; exact heap_alloc_new _ _)
      clear hb3 hW3
      go_wp2_with (go_at_call 9; refine (awake_any _ (HE.out.below HB3.out)).mono ?_; rintro e w5 ⟨rfl, hb5⟩; refine Hid.out ?_)
      have HB5 := Lib.hid hb5
      clear hb5
      obtain ⟨d0, d1, d2, -⟩ := three_keep HK3.out HB5.out
      refine Lib.hid ?_
      go_wp2_with (go_at_call 14; refine (HSame.out _).mono ?_; rintro e w6 ⟨rfl, hb6⟩)
      go_ret
      exact ⟨rfl, keep_trans HB.out (keep_trans HB3.out (keep_trans HB5.out hb6))⟩
end Go.Proofs.YthooajbhiikbfaaGreatDoor

