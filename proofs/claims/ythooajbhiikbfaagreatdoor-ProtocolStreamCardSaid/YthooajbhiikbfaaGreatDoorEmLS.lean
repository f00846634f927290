/- A part of the proofs of the statements of emendatelaw55 (layer protocol): the five laws of the layer protocol are walked. Conditions: those that stand in each theorem, no other. -/
import Derived.Test.YthooajbhiikbfaaGreatDoorEmAJ
import Derived.Test.YthooajbhiikbfaaGreatDoorEmO
import Derived.Deep.RegionWith
import Derived.Deep.Cut
import Derived.Deep.RegionHeld3
namespace Go.Proofs.YthooajbhiikbfaaGreatDoor
open Go Go.RowKit Em

theorem mem_sumSz {ss : List ByteArray} {s : ByteArray} (h : s ∈ ss) : s.size ≤ sumSz ss := by
  induction ss with
  | nil => cases h
  | cons a t ih =>
    unfold sumSz
    simp only [List.map_cons, List.sum_cons]
    rcases List.mem_cons.1 h with rfl | h
    · omega
    · have := ih h
      unfold sumSz at this
      omega

theorem short_facts {m : ByteArray} {ss : List ByteArray} (h : shortB m ss = true) : m.size ≤ 500 ∧ ss.length ≤ 20 ∧ ∀ s ∈ ss, s.size ≤ 500 := by
  unfold shortB at h
  simp only [Bool.and_eq_true, decide_eq_true_eq] at h
  exact ⟨by omega, h.1, fun s hs => by have := mem_sumSz hs; omega⟩

theorem short_c {w : World} {id : Int} {m : ByteArray} {A : Option Addr} {ss : List ByteArray} (c : Nat) (h : MArg w id m A ss) :
    Calls Tryz.prog 8 #[.agg #[.int .i64 id, .string m, .slice A ss.length c]] w fun e w' => e = .returned (.bool (shortB m ss)) ∧ Below w.heap.size w w' :=
  short_any id m A c ss w h.hm (by have := h.hl; omega) h.hr h.hs

theorem enc_form (M : Msg) : ∃ T z, encVal M = .tuple #[.string T, .int .i64 z] := by
  unfold encVal
  split
  · exact ⟨_, _, rfl⟩
  · exact ⟨_, _, rfl⟩

theorem encode_c {w : World} {id : Int} {m : ByteArray} {A : Option Addr} {ss : List ByteArray} (c : Nat) (hE : Env w) (h : MArg w id m A ss) (hs : shortB m ss = true) :
    Calls Tryz.prog 10 #[.agg #[.int .i64 id, .string m, .slice A ss.length c]] w fun e w' => e = .returned (encVal (msgOf id m ss)) ∧ Below w.heap.size w w' := by
  obtain ⟨h1, h2, h3⟩ := short_facts hs
  exact encode_any id m A c ss w hE h.hi (by omega) h2 h.hr (fun s hh => by have := h3 s hh; omega)
theorem encodeR_c {w : World} {id : Int} {m : ByteArray} {A : Option Addr} {ss : List ByteArray} (c : Nat) (h : MArg w id m A ss) (hs : shortB m ss = true) :
    Calls Tryz.prog 11 #[.agg #[.int .i64 id, .string m, .slice A ss.length c]] w fun e w' => e = .returned (encVal (msgOf id m ss)) ∧ Below w.heap.size w w' := by
  obtain ⟨h1, h2, h3⟩ := short_facts hs
  exact encodeR_any id m A c ss w h.hi (by omega) h2 h.hr (fun s hh => by have := h3 s hh; omega)

set_option maxRecDepth 100000 in
set_option maxHeartbeats 2000000 in
theorem law_encode (id : Int) (m : ByteArray) (A : Option Addr) (c : Nat) (ss : List ByteArray) (w : World) (hE : Env w) (h : MArg w id m A ss) :
    Calls Tryz.prog 3 #[.agg #[.int .i64 id, .string m, .slice A ss.length c]] w fun e w' => e = .returned (.bool true) ∧ Below w.heap.size w w' := by
  obtain ⟨W0, hW0⟩ : ∃ W0 : World, w.alloc (.cells #[.int .i64 id, .string m, .slice A ss.length c] 24) = W0 := ⟨_, rfl⟩
  have HB := Lib.hid (show Below w.heap.size w W0 by rw [← hW0]; exact keep_alloc _ _)
  have HK := Lib.hid (show W0.heap[w.heap.size]? = some (.cells #[.int .i64 id, .string m, .slice A ss.length c] 24 (0, 0)) by rw [← hW0]; exact heap_alloc_new _ _)
  have HE := Lib.hid (hE.below HB.out)
  have HM := Lib.hid (h.below HB.out)
  have HSh := Lib.hid (short_c c HM.out)
  have HW := Lib.hid hW0
  obtain ⟨T, z, hTz⟩ := enc_form (msgOf id m ss)
  have HEnc := Lib.hid (fun (X : World) (hb : Below W0.heap.size W0 X) (hs : shortB m ss = true) => encode_c c (HE.out.below hb) (HM.out.below hb) hs)
  have HRef := Lib.hid (fun (X : World) (hb : Below W0.heap.size W0 X) (hs : shortB m ss = true) => encodeR_c c (HM.out.below hb) hs)
  rw [hTz] at HEnc HRef
  obtain ⟨b, hsb⟩ : ∃ b, shortB m ss = b := ⟨_, rfl⟩
  obtain ⟨n, hn⟩ : ∃ n, ss.length = n := ⟨_, rfl⟩
  rw [hsb] at HSh
  rw [hn] at HW HK HSh HEnc HRef ⊢
  clear hW0 hE h hTz hn
  go_enter Tryz.func3, Tryz.ntmps3
  go_upto_region 1 with fail
  rw [HW.out]
  obtain ⟨c0, c1, c2, -⟩ := three_keep HK.out (Below.refl _ _)
  cases b with
  | false =>
    go_wp2_with (first
      | (go_at_call 8; refine HSh.out.mono ?_; rintro e w1 ⟨rfl, hb1⟩)
      | (go_at_call 9; refine (awake_any _ (HE.out.below hb1)).mono ?_; rintro e w2 ⟨rfl, hb2⟩))
    go_ret
    exact ⟨rfl, keep_trans HB.out (keep_trans hb1 hb2)⟩
  | true =>
    go_upto_region 3 with (go_at_call 8; refine HSh.out.mono ?_; rintro e w1 ⟨rfl, hb1⟩)
    have HB1 := Lib.hid hb1
    clear c0 c1 c2 hb1
    obtain ⟨c0, c1, c2, -⟩ := three_keep HK.out HB1.out
    go_upto_region 4 with (go_at_call 10; refine (HEnc.out _ HB1.out hsb).mono ?_; rintro e w2 ⟨rfl, hb2⟩)
    have HB2 := Lib.hid (keep_trans HB1.out hb2)
    clear c0 c1 c2 hb2
    obtain ⟨c0, c1, c2, -⟩ := three_keep HK.out HB2.out
    go_upto_region 5 with (go_at_call 11; refine (HRef.out _ HB2.out hsb).mono ?_; rintro e w3 ⟨rfl, hb3⟩)
    have HB3 := Lib.hid (keep_trans HB2.out hb3)
    clear c0 c1 c2 hb3
    go_wp2_with (go_at_call 9; refine (awake_any _ (HE.out.below HB3.out)).mono ?_; rintro e w4 ⟨rfl, hb4⟩)
    go_ret
    exact ⟨rfl, keep_trans HB.out (keep_trans HB3.out hb4)⟩
end Go.Proofs.YthooajbhiikbfaaGreatDoor

namespace Go.Proofs.YthooajbhiikbfaaGreatDoor
open Go Go.RowKit Em

theorem valid_args {M : Msg} (h : valid M = true) : M.args.length ≤ 10 := by
  unfold valid at h
  simp only [Bool.and_eq_true, decide_eq_true_eq] at h
  exact h.1.2

/-- how a decoding ends, in one form -/
theorem dec_form (l : Bytes) : ∃ (id : Int) (m : ByteArray) (ss : List ByteArray) (n z : Int), ss.length ≤ 1000000 ∧ ∀ (w : World) (e : Ending) (w' : World), DecPost l w e w' →
    (∃ A c, e = .returned (.tuple #[.agg #[.int .i64 id, .string m, .slice A ss.length c], .int .i64 n, .int .i64 z]) ∧ RdS w' w'.heap.size A ss) ∧ Below w.heap.size w w' := by
  cases h : dec l with
  | more =>
    refine ⟨0, ⟨#[]⟩, [], 0, 6, by simp, ?_⟩
    intro w e w' hd
    unfold DecPost at hd
    rw [h] at hd
    exact ⟨⟨none, 0, hd.1, RdS.nil _ _ _⟩, hd.2⟩
  | bad =>
    refine ⟨0, ⟨#[]⟩, [], 0, 7, by simp, ?_⟩
    intro w e w' hd
    unfold DecPost at hd
    rw [h] at hd
    exact ⟨⟨none, 0, hd.1, RdS.nil _ _ _⟩, hd.2⟩
  | ok M n =>
    refine ⟨M.id, S M.meth, M.args.map S, n, 0, ?_, ?_⟩
    · have h2 := valid_args (dec_sound h).1
      rw [List.length_map]; omega
    · intro w e w' hd
      unfold DecPost at hd
      rw [h] at hd
      obtain ⟨v, rfl, ⟨A, c, rfl, -, hr⟩, hb⟩ := hd
      exact ⟨⟨A, c, rfl, hr⟩, hb⟩

set_option maxRecDepth 100000 in
set_option maxHeartbeats 2000000 in
theorem law_decode (s : ByteArray) (hs : s.size ≤ 140737488355328) (w : World) (hE : Env w) :
    Calls Tryz.prog 4 #[.string s] w fun e w' => e = .returned (.bool true) ∧ Below w.heap.size w w' := by
  have HE := Lib.hid hE
  clear hE
  by_cases h4 : s.size ≤ 400
  · obtain ⟨id, m, ss, n, z, hss, hF⟩ := dec_form s.data.toList
    have HD := Lib.hid ((decode_any s (by omega) w HE.out).mono (fun e w' => hF w e w'))
    have HR := Lib.hid (fun W => (decodeR_any s (by omega) W).mono (fun e w' => hF W e w'))
    have HSame := Lib.hid (fun A A' c c' W hr hr' => same_true id m A A' c c' ss W hss hr hr')
    obtain ⟨L, hL⟩ : ∃ L, ss.length = L := ⟨_, rfl⟩
    rw [hL] at HD HR HSame
    clear hF
    have hd : ¬ (400 : Int) < (s.size : Int) := by omega
    go_enter Tryz.func4, Tryz.ntmps4
    go_upto_region 3 with fail
    go_upto_region 4 with (go_at_call 12; refine HD.out.mono ?_; rintro e w1 ⟨⟨A, c, rfl, hr1⟩, hb1⟩)
    obtain ⟨W1, hW1⟩ : ∃ W1 : World, w1.alloc (.cells #[.int .i64 id, .string m, .slice A L c] 24) = W1 := ⟨_, rfl⟩
    rw [hW1]
    have HB1 := Lib.hid (show Below w.heap.size w W1 by rw [← hW1]; exact keep_trans hb1 (keep_alloc _ _))
    have HK1 := Lib.hid (show W1.heap[w1.heap.size]? = some (.cells #[.int .i64 id, .string m, .slice A L c] 24 (0, 0)) by rw [← hW1]; exact heap_alloc_new _ _)
    have HR1 := Lib.hid (show RdS W1 W1.heap.size A ss by rw [← hW1]; exact hr1.keepB (keep_alloc _ _))
    clear hb1 hr1 hW1 HD
    go_upto_region 5 with (go_at_call 13; refine (HR.out _).mono ?_; rintro e w2 ⟨⟨A2, c2, rfl, hr2⟩, hb2⟩)
    obtain ⟨W2, hW2⟩ : ∃ W2 : World, w2.alloc (.cells #[.int .i64 id, .string m, .slice A2 L c2] 24) = W2 := ⟨_, rfl⟩
    rw [hW2]
    have HB2 := Lib.hid (show Below W1.heap.size W1 W2 by rw [← hW2]; exact keep_trans hb2 (keep_alloc _ _))
    have HK2 := Lib.hid (show W2.heap[w2.heap.size]? = some (.cells #[.int .i64 id, .string m, .slice A2 L c2] 24 (0, 0)) by rw [← hW2]; exact heap_alloc_new _ _)
    have HR2 := Lib.hid (show RdS W2 W2.heap.size A2 ss by rw [← hW2]; exact hr2.keepB (keep_alloc _ _))
    clear hb2 hr2 hW2 HR
    go_wp2_with (go_at_call 9; refine (awake_any _ (HE.out.below (keep_trans HB1.out HB2.out))).mono ?_; rintro e w3 ⟨rfl, hb3⟩; refine Hid.out ?_)
    have HB3 := Lib.hid hb3
    obtain ⟨a0, a1, a2, -⟩ := three_keep HK1.out (keep_trans HB2.out HB3.out)
    obtain ⟨b0, b1, b2, -⟩ := three_keep HK2.out HB3.out
    have HS3 := Lib.hid (HSame.out A A2 c c2 w3 (HR1.out.keepB (keep_trans HB2.out HB3.out)) (HR2.out.keepB HB3.out))
    clear hb3
    refine Lib.hid ?_
    go_wp2_with (go_at_call 14; refine HS3.out.mono ?_; rintro e w4 ⟨rfl, hb4⟩)
    go_ret
    exact ⟨rfl, keep_trans HB1.out (keep_trans HB2.out (keep_trans HB3.out hb4))⟩
  · have hd : (400 : Int) < (s.size : Int) := by omega
    go_enter Tryz.func4, Tryz.ntmps4
    go_wp2_with (go_at_call 9; refine (awake_any _ HE.out).mono ?_; rintro e w1 ⟨rfl, hb1⟩)
    go_ret
    exact ⟨rfl, hb1⟩
end Go.Proofs.YthooajbhiikbfaaGreatDoor

namespace Go.Proofs.YthooajbhiikbfaaGreatDoor
open Go Go.RowKit Em

theorem encVal_ok {M : Msg} (h : valid M = true) : encVal M = .tuple #[.string (S (encL M)), .int .i64 0] := by unfold encVal; rw [h]; rfl
theorem encVal_no {M : Msg} (h : valid M = false) : encVal M = .tuple #[.string ⟨#[]⟩, .int .i64 1] := by unfold encVal; rw [h]; rfl
theorem S_back (m : ByteArray) : S m.data.toList = m := by unfold S; simp
theorem S_map_back (ss : List ByteArray) : (ss.map (·.data.toList)).map S = ss := by
  rw [List.map_map]
  conv => rhs; rw [← List.map_id ss]
  exact List.map_congr_left fun s _ => S_back s

theorem encL_le {id : Int} {m : ByteArray} {ss : List ByteArray} (hi : inR id) (h : shortB m ss = true) : (encL (msgOf id m ss)).length ≤ 100100 ∧ 20 ≤ (encL (msgOf id m ss)).length := by
  obtain ⟨h1, h2, h3⟩ := short_facts h
  have hb := body_length_le id m ss hi (by omega) (fun s hh => by have := h3 s hh; omega) h2
  unfold encL
  rw [List.length_append, header_length]
  have hi2 : inR ((body (msgOf id m ss)).length : Int) := by unfold inR; omega
  have := itoa_len20 hi2
  constructor <;> omega

/-- what stands in front is decoded -/
theorem decode_front {id : Int} {m : ByteArray} {ss : List ByteArray} {l : Bytes} (r : Bytes) (hv : valid (msgOf id m ss) = true) (hi : inR id) (hl : l = encL (msgOf id m ss) ++ r) {w : World} {e : Ending} {w' : World} (hd : DecPost l w e w') :
    (∃ A c, e = .returned (.tuple #[.agg #[.int .i64 id, .string m, .slice A ss.length c], .int .i64 ((encL (msgOf id m ss)).length : Int), .int .i64 0]) ∧ RdS w' w'.heap.size A ss) ∧ Below w.heap.size w w' := by
  subst hl
  unfold DecPost at hd
  rw [dec_enc (msgOf id m ss) hv hi r] at hd
  obtain ⟨v, rfl, ⟨A, c, rfl, -, hr⟩, hb⟩ := hd
  have e1 : S (msgOf id m ss).meth = m := S_back m
  have e2 : (msgOf id m ss).args.map S = ss := S_map_back ss
  rw [e2] at hr
  rw [e1, e2]
  exact ⟨⟨A, c, rfl, hr⟩, hb⟩

theorem decode_cut {M : Msg} {l : Bytes} (k : Nat) (hv : valid M = true) (hk : k < (encL M).length) (hl : l = (encL M).take k) {w : World} {e : Ending} {w' : World} (hd : DecPost l w e w') :
    e = .returned (.tuple #[.agg #[.int .i64 0, .string ⟨#[]⟩, .slice none 0 0], .int .i64 0, .int .i64 6]) ∧ Below w.heap.size w w' := by
  subst hl
  unfold DecPost at hd
  rw [dec_prefix M hv k hk] at hd
  exact hd

set_option maxRecDepth 100000 in
set_option maxHeartbeats 4000000 in
theorem law_round (id : Int) (m : ByteArray) (A : Option Addr) (c : Nat) (ss : List ByteArray) (more : ByteArray) (w : World) (hE : Env w) (h : MArg w id m A ss) (hmo : more.size ≤ 140737488355328) :
    Calls Tryz.prog 5 #[.agg #[.int .i64 id, .string m, .slice A ss.length c], .string more] w fun e w' => e = .returned (.bool true) ∧ Below w.heap.size w w' := by
  obtain ⟨W0, hW0⟩ : ∃ W0 : World, w.alloc (.cells #[.int .i64 id, .string m, .slice A ss.length c] 24) = W0 := ⟨_, rfl⟩
  have HB := Lib.hid (show Below w.heap.size w W0 by rw [← hW0]; exact keep_alloc _ _)
  have HK := Lib.hid (show W0.heap[w.heap.size]? = some (.cells #[.int .i64 id, .string m, .slice A ss.length c] 24 (0, 0)) by rw [← hW0]; exact heap_alloc_new _ _)
  have HE := Lib.hid (hE.below HB.out)
  have HM := Lib.hid (h.below HB.out)
  have HSh := Lib.hid (short_c c HM.out)
  have HW := Lib.hid hW0
  have HEnc := Lib.hid (fun (X : World) (c : Nat) (A : Option Addr) (hb : Below W0.heap.size W0 X) (hM : MArg X id m A ss) (hs : shortB m ss = true) => encode_c c (HE.out.below hb) hM hs)
  have HSame := Lib.hid (fun A A' c c' W hn hr hr' => same_true id m A A' c c' ss W hn hr hr')
  have HDec := Lib.hid (fun (r : Bytes) (hv : valid (msgOf id m ss) = true) (X : ByteArray) (hX : X.data.toList = encL (msgOf id m ss) ++ r) (hs : X.size ≤ 90000000) (W : World) (hb : Below W0.heap.size W0 W) =>
    (decode_any X hs W (HE.out.below hb)).mono (fun e w' => decode_front r hv HM.out.hi hX))
  have HLn := Lib.hid (fun (hs : shortB m ss = true) => encL_le HM.out.hi hs)
  have HMk := Lib.hid (fun (X : World) (A : Option Addr) (hr : RdS X X.heap.size A ss) => (⟨HM.out.hi, HM.out.hm, HM.out.hl, hr, HM.out.hs⟩ : MArg X id m A ss))
  obtain ⟨b, hsb⟩ : ∃ b, shortB m ss = b := ⟨_, rfl⟩
  have HSl := Lib.hid (fun (hs : shortB m ss = true) => (short_facts hs).2.1)
  obtain ⟨n, hn⟩ : ∃ n, ss.length = n := ⟨_, rfl⟩
  rw [hsb] at HSh
  rw [hn] at HW HK HSh HEnc HSame HDec HSl ⊢
  clear hW0 hE h hn
  go_enter Tryz.func5, Tryz.ntmps5
  go_upto_region 1 with fail
  rw [HW.out]
  obtain ⟨c0, c1, c2, -⟩ := three_keep HK.out (Below.refl _ _)
  cases b with
  | false =>
    go_wp2_with (first
      | (go_at_call 8; refine HSh.out.mono ?_; rintro e w1 ⟨rfl, hb1⟩)
      | (go_at_call 9; refine (awake_any _ (HE.out.below hb1)).mono ?_; rintro e w2 ⟨rfl, hb2⟩))
    go_ret
    exact ⟨rfl, keep_trans HB.out (keep_trans hb1 hb2)⟩
  | true =>
    by_cases hmore : more.size ≤ 200
    · have hd : decide ((200 : Int) < (more.size : Int)) = false := by simp; omega
      go_upto_region 3 with (go_at_call 8; refine HSh.out.mono ?_; rintro e w1 ⟨rfl, hb1⟩)
      have HB1 := Lib.hid hb1
      clear c0 c1 c2 hb1
      obtain ⟨c0, c1, c2, -⟩ := three_keep HK.out HB1.out
      cases hv : valid (msgOf id m ss) with
      | false =>
        rw [encVal_no hv] at HEnc
        go_wp2_with (first
          | (go_at_call 10; refine (HEnc.out _ c A HB1.out (HM.out.below HB1.out) hsb).mono ?_; rintro e w2 ⟨rfl, hb2⟩)
          | (go_at_call 9; refine (awake_any _ (HE.out.below (keep_trans HB1.out hb2))).mono ?_; rintro e w3 ⟨rfl, hb3⟩))
        go_ret
        exact ⟨rfl, keep_trans HB.out (keep_trans HB1.out (keep_trans hb2 hb3))⟩
      | true =>
        rw [encVal_ok hv] at HEnc
        obtain ⟨hT1, hT2⟩ := HLn.out hsb
        have HD := Lib.hid (HDec.out more.data.toList hv)
        obtain ⟨T, hT⟩ : ∃ T, S (encL (msgOf id m ss)) = T := ⟨_, rfl⟩
        have hTl : T.data.toList = encL (msgOf id m ss) := by rw [← hT, S_list]
        have hTs : (encL (msgOf id m ss)).length = T.size := by rw [Lib.size_eq, hTl]
        rw [hT] at HEnc
        rw [hTs] at HD hT1 hT2
        rw [← hTl] at HD
        have HD2 := Lib.hid (HD.out (T ++ more) (by simp) (by simp; omega))
        have n3 : ¬ 9223372036854775807 < T.size + more.size := by omega
        clear HDec HD hT hTl hTs hv
        go_upto_region 6 with (go_at_call 10; refine (HEnc.out _ c A HB1.out (HM.out.below HB1.out) hsb).mono ?_; rintro e w2 ⟨rfl, hb2⟩)
        have HB2 := Lib.hid (keep_trans HB1.out hb2)
        clear c0 c1 c2 hb2
        go_upto_region 7 with (go_at_call 12; refine (HD2.out _ HB2.out).mono ?_; rintro e w3 ⟨⟨A3, c3, rfl, hr3⟩, hb3⟩)
        obtain ⟨W3, hW3⟩ : ∃ W3 : World, w3.alloc (.cells #[.int .i64 id, .string m, .slice A3 n c3] 24) = W3 := ⟨_, rfl⟩
        rw [hW3]
        have HB3 := Lib.hid (show Below W0.heap.size W0 W3 by rw [← hW3]; exact keep_trans HB2.out (keep_trans hb3 (keep_alloc _ _)))
        have HK3 := Lib.hid (show W3.heap[w3.heap.size]? = some (.cells #[.int .i64 id, .string m, .slice A3 n c3] 24 (0, 0)) by rw [← hW3]; exact heap_alloc_new _ _)
        have HR3 := Lib.hid (show RdS W3 W3.heap.size A3 ss by rw [← hW3]; exact hr3.keepB (keep_alloc _ _))
        clear hb3 hr3 hW3
        obtain ⟨d0, d1, d2, -⟩ := three_keep HK3.out (Below.refl _ _)
        go_upto_region 8 with (go_at_call 10; refine (HEnc.out _ c3 A3 HB3.out (HMk.out _ _ HR3.out) hsb).mono ?_; rintro e w4 ⟨rfl, hb4⟩)
        have HB4 := Lib.hid hb4
        clear d0 d1 d2 hb4
        go_wp2_with (go_at_call 9; refine (awake_any _ (HE.out.below (keep_trans HB3.out HB4.out))).mono ?_; rintro e w5 ⟨rfl, hb5⟩; refine Hid.out ?_)
        have HB5 := Lib.hid (keep_trans HB4.out hb5)
        clear hb5
        obtain ⟨d0, d1, d2, -⟩ := three_keep HK3.out HB5.out
        obtain ⟨c0, c1, c2, -⟩ := three_keep HK.out (keep_trans HB3.out HB5.out)
        have HS5 := Lib.hid (HSame.out A3 A c3 c w5 (by have := HSl.out hsb; omega) (HR3.out.keepB HB5.out) ((HM.out.below (keep_trans HB3.out HB5.out)).hr))
        refine Lib.hid ?_
        go_wp2_with (go_at_call 14; refine HS5.out.mono ?_; rintro e w6 ⟨rfl, hb6⟩)
        go_ret
        exact ⟨rfl, keep_trans HB.out (keep_trans HB3.out (keep_trans HB5.out hb6))⟩
    · have hd : (200 : Int) < (more.size : Int) := by omega
      go_wp2_with (first
        | (go_at_call 8; refine HSh.out.mono ?_; rintro e w1 ⟨rfl, hb1⟩)
        | (go_at_call 9; refine (awake_any _ (HE.out.below hb1)).mono ?_; rintro e w2 ⟨rfl, hb2⟩))
      go_ret
      exact ⟨rfl, keep_trans HB.out (keep_trans hb1 hb2)⟩
end Go.Proofs.YthooajbhiikbfaaGreatDoor

namespace Go.Proofs.YthooajbhiikbfaaGreatDoor
open Go Go.RowKit Em

theorem tmod_nat (a b : Nat) : (a : Int).tmod (b : Int) = ((a % b : Nat) : Int) := by
  rw [Int.tmod_eq_emod_of_nonneg (by omega)]
  exact (Int.natCast_emod a b).symm

set_option maxRecDepth 100000 in
set_option maxHeartbeats 4000000 in
theorem law_prefix (id : Int) (m : ByteArray) (A : Option Addr) (c : Nat) (ss : List ByteArray) (C : Nat) (hC : C < 65536) (w : World) (hE : Env w) (h : MArg w id m A ss) :
    Calls Tryz.prog 6 #[.agg #[.int .i64 id, .string m, .slice A ss.length c], .int .u16 (C : Int)] w fun e w' => e = .returned (.bool true) ∧ Below w.heap.size w w' := by
  obtain ⟨W0, hW0⟩ : ∃ W0 : World, w.alloc (.cells #[.int .i64 id, .string m, .slice A ss.length c] 24) = W0 := ⟨_, rfl⟩
  have HB := Lib.hid (show Below w.heap.size w W0 by rw [← hW0]; exact keep_alloc _ _)
  have HK := Lib.hid (show W0.heap[w.heap.size]? = some (.cells #[.int .i64 id, .string m, .slice A ss.length c] 24 (0, 0)) by rw [← hW0]; exact heap_alloc_new _ _)
  have HE := Lib.hid (hE.below HB.out)
  have HM := Lib.hid (h.below HB.out)
  have HSh := Lib.hid (short_c c HM.out)
  have HW := Lib.hid hW0
  have HEnc := Lib.hid (fun (X : World) (hb : Below W0.heap.size W0 X) (hs : shortB m ss = true) => encode_c c (HE.out.below hb) (HM.out.below hb) hs)
  have HSame := Lib.hid (fun W => same_true 0 ⟨#[]⟩ none none 0 0 [] W (by decide) (RdS.nil _ _ _) (RdS.nil _ _ _))
  have HDec := Lib.hid (fun (k : Nat) (hv : valid (msgOf id m ss) = true) (hk : k < (encL (msgOf id m ss)).length) (X : ByteArray) (hX : X.data.toList = (encL (msgOf id m ss)).take k) (hs : X.size ≤ 90000000) (W : World) (hb : Below W0.heap.size W0 W) =>
    (decode_any X hs W (HE.out.below hb)).mono (fun e w' => decode_cut k hv hk hX))
  have HLn := Lib.hid (fun (hs : shortB m ss = true) => encL_le HM.out.hi hs)
  obtain ⟨b, hsb⟩ : ∃ b, shortB m ss = b := ⟨_, rfl⟩
  obtain ⟨n, hn⟩ : ∃ n, ss.length = n := ⟨_, rfl⟩
  rw [hsb] at HSh
  rw [hn] at HW HK HSh HEnc ⊢
  clear hW0 hE h hn
  go_enter Tryz.func6, Tryz.ntmps6
  go_upto_region 1 with fail
  rw [HW.out]
  obtain ⟨c0, c1, c2, -⟩ := three_keep HK.out (Below.refl _ _)
  cases b with
  | false =>
    go_wp2_with (first
      | (go_at_call 8; refine HSh.out.mono ?_; rintro e w1 ⟨rfl, hb1⟩)
      | (go_at_call 9; refine (awake_any _ (HE.out.below hb1)).mono ?_; rintro e w2 ⟨rfl, hb2⟩))
    go_ret
    exact ⟨rfl, keep_trans HB.out (keep_trans hb1 hb2)⟩
  | true =>
    go_upto_region 3 with (go_at_call 8; refine HSh.out.mono ?_; rintro e w1 ⟨rfl, hb1⟩)
    have HB1 := Lib.hid hb1
    clear c0 c1 c2 hb1
    obtain ⟨c0, c1, c2, -⟩ := three_keep HK.out HB1.out
    cases hv : valid (msgOf id m ss) with
    | false =>
      rw [encVal_no hv] at HEnc
      go_wp2_with (first
        | (go_at_call 10; refine (HEnc.out _ HB1.out hsb).mono ?_; rintro e w2 ⟨rfl, hb2⟩)
        | (go_at_call 9; refine (awake_any _ (HE.out.below (keep_trans HB1.out hb2))).mono ?_; rintro e w3 ⟨rfl, hb3⟩))
      go_ret
      exact ⟨rfl, keep_trans HB.out (keep_trans HB1.out (keep_trans hb2 hb3))⟩
    | true =>
      rw [encVal_ok hv] at HEnc
      obtain ⟨hT1, hT2⟩ := HLn.out hsb
      have HD := Lib.hid (fun k => HDec.out k hv)
      obtain ⟨T, hT⟩ : ∃ T, S (encL (msgOf id m ss)) = T := ⟨_, rfl⟩
      have hTl : T.data.toList = encL (msgOf id m ss) := by rw [← hT, S_list]
      have hTs : (encL (msgOf id m ss)).length = T.size := by rw [Lib.size_eq, hTl]
      rw [hT] at HEnc
      rw [hTs] at HD hT1 hT2
      rw [← hTl] at HD
      obtain ⟨K, hK⟩ : ∃ K, C % T.size = K := ⟨_, rfl⟩
      have hKT : K < T.size := by rw [← hK]; exact Nat.mod_lt _ (by omega)
      have hmod : (C : Int).tmod (T.size : Int) = (K : Int) := by rw [tmod_nat, hK]
      have HD2 := Lib.hid (HD.out K hKT (T.extract 0 K) (by rw [ext_list]; simp) (by rw [Lib.size_eq, ext_list]; simp; omega))
      have z1 : ((T.size : Int) == 0) = false := by rw [beq_eq_false_iff_ne]; omega
      have z2 : ¬ (T.size : Int) = 0 := by omega
      have hKle : K ≤ T.size := Nat.le_of_lt hKT
      clear HDec HD hT hTl hTs hv hK
      go_upto_region 6 with (go_at_call 10; refine (HEnc.out _ HB1.out hsb).mono ?_; rintro e w2 ⟨rfl, hb2⟩)
      have HB2 := Lib.hid (keep_trans HB1.out hb2)
      clear c0 c1 c2 hb2
      go_upto_region 7 with (go_at_call 12; refine (HD2.out _ HB2.out).mono ?_; rintro e w3 ⟨rfl, hb3⟩)
      obtain ⟨W3, hW3⟩ : ∃ W3 : World, w3.alloc (.cells #[.int .i64 0, .string ⟨#[]⟩, .slice none 0 0] 24) = W3 := ⟨_, rfl⟩
      rw [hW3]
      have HB3 := Lib.hid (show Below W0.heap.size W0 W3 by rw [← hW3]; exact keep_trans HB2.out (keep_trans hb3 (keep_alloc _ _)))
      have HK3 := Lib.hid (show W3.heap[w3.heap.size]? = some (.cells #[.int .i64 0, .string ⟨#[]⟩, .slice none 0 0] 24 (0, 0)) by rw [← hW3]; exact heap_alloc_new _ _)
      clear hb3 hW3
      go_wp2_with (go_at_call 9; refine (awake_any _ (HE.out.below HB3.out)).mono ?_; rintro e w5 ⟨rfl, hb5⟩; refine Hid.out ?_)
      have HB5 := Lib.hid hb5
      clear hb5
      obtain ⟨d0, d1, d2, -⟩ := three_keep HK3.out HB5.out
      refine Lib.hid ?_
      go_wp2_with (go_at_call 14; refine (HSame.out _).mono ?_; rintro e w6 ⟨rfl, hb6⟩)
      go_ret
      exact ⟨rfl, keep_trans HB.out (keep_trans HB3.out (keep_trans HB5.out hb6))⟩
end Go.Proofs.YthooajbhiikbfaaGreatDoor

namespace Go.Proofs.YthooajbhiikbfaaGreatDoor
open Go Go.RowKit Em

/-- a message of the stream, as it came in -/
structure MD where
  id : Int
  m : ByteArray
  A : Option Addr
  c : Nat
  ss : List ByteArray
def MD.msg (x : MD) : Msg := msgOf x.id x.m x.ss
def MD.E (x : MD) : Bytes := encL x.msg
def MD.good (x : MD) : Prop := shortB x.m x.ss = true ∧ valid x.msg = true

/-- the messages lie there -/
def RdM (w : World) (AA : Option Addr) (ms : List MD) : Prop :=
  ∀ i x, ms[i]? = some x → ∃ a, AA = some a ∧ w.cell? (a.add (i * 3)) = some (.int .i64 x.id) ∧ w.cell? ⟨(a.add (i * 3)).block, (a.add (i * 3)).off + 1, none⟩ = some (.string x.m) ∧ w.cell? ⟨(a.add (i * 3)).block, (a.add (i * 3)).off + 2, none⟩ = some (.slice x.A x.ss.length x.c) ∧ MArg w x.id x.m x.A x.ss
theorem cell_lt' {w : World} {p : Addr} {v : Value} (h : w.cell? p = some v) : p.block < w.heap.size := by
  rcases Nat.lt_or_ge p.block w.heap.size with h' | h'
  · exact h'
  · unfold World.cell? at h
    rw [Array.getElem?_eq_none h'] at h
    simp at h
theorem RdM.below {w w' : World} {AA : Option Addr} {ms : List MD} (h : RdM w AA ms) (hb : Below w.heap.size w w') : RdM w' AA ms := by
  intro i x hx
  obtain ⟨a, ha, h0, h1, h2, h3⟩ := h i x hx
  exact ⟨a, ha, (hb.cell (cell_lt' h0)).trans h0, (hb.cell (cell_lt' h1)).trans h1, (hb.cell (cell_lt' h2)).trans h2, h3.below hb⟩

def cat (l : List MD) : Bytes := (l.map MD.E).flatten
theorem cat_nil : cat [] = [] := rfl
theorem cat_cons (x : MD) (l : List MD) : cat (x :: l) = x.E ++ cat l := by simp [cat]
theorem cat_append (l r : List MD) : cat (l ++ r) = cat l ++ cat r := by simp [cat]
theorem cat_take {ms : List MD} {k : Nat} (hk : k < ms.length) : cat (ms.take (k + 1)) = cat (ms.take k) ++ ms[k].E := by
  rw [List.take_succ_eq_append_getElem hk, cat_append, cat_cons, cat_nil, List.append_nil]
theorem cat_drop {ms : List MD} {k : Nat} (hk : k < ms.length) : cat (ms.drop k) = ms[k].E ++ cat (ms.drop (k + 1)) := by
  rw [List.drop_eq_getElem_cons hk, cat_cons]
theorem cat_split (ms : List MD) (k : Nat) : cat ms = cat (ms.take k) ++ cat (ms.drop k) := by
  rw [← cat_append, List.take_append_drop]
theorem cat_le (l : List MD) (h : ∀ x ∈ l, x.good ∧ inR x.id) : (cat l).length ≤ 100100 * l.length := by
  induction l with
  | nil => simp [cat]
  | cons x l ih =>
    have h1 := (encL_le (h x (by simp)).2 (h x (by simp)).1.1).1
    have h2 := ih (fun y hy => h y (by simp [hy]))
    rw [cat_cons, List.length_append, List.length_cons]
    have : x.E.length ≤ 100100 := h1
    omega

/-- the first round's state -/
def St1 (w : World) (ms : List MD) (k : Nat) (s : Value) (wr : World) : Prop :=
  k ≤ ms.length ∧ s = .string (S (cat (ms.take k))) ∧ (∀ x ∈ ms.take k, x.good) ∧ Below w.heap.size w wr

/-- the second round's state: what is there, and whether the rest has arrived -/
def St2 (w : World) (ms : List MD) (K k : Nat) (late : Bool) (have_ : Value) (wr : World) : Prop :=
  k ≤ ms.length ∧ Below w.heap.size w wr ∧
  (match late with
   | true => have_ = .string (S (cat (ms.drop k)))
   | false => (cat (ms.take k)).length ≤ K ∧ have_ = .string (S ((cat (ms.drop k)).take (K - (cat (ms.take k)).length))))
end Go.Proofs.YthooajbhiikbfaaGreatDoor

namespace Go.Proofs.YthooajbhiikbfaaGreatDoor
open Go Go.RowKit Em

theorem E_pos {x : MD} (h : x.good) (hi : inR x.id) : 20 ≤ x.E.length ∧ x.E.length ≤ 100100 := ⟨(encL_le hi h.1).2, (encL_le hi h.1).1⟩

/-- a decoding of what stands whole -/
theorem dec_whole {w : World} (hE : Env w) {x : MD} (hx : x.good) (hi : inR x.id) (X : ByteArray) (r : Bytes) (hX : X.data.toList = x.E ++ r) (hs : X.size ≤ 90000000) :
    Calls Tryz.prog 12 #[.string X] w fun e w' => (∃ A c, e = .returned (.tuple #[.agg #[.int .i64 x.id, .string x.m, .slice A x.ss.length c], .int .i64 (x.E.length : Int), .int .i64 0]) ∧ RdS w' w'.heap.size A x.ss) ∧ Below w.heap.size w w' :=
  (decode_any X hs w hE).mono (fun _ _ h => decode_front r hx.2 hi hX h)
theorem dec_part {w : World} (hE : Env w) {x : MD} (hx : x.good) (k : Nat) (hk : k < x.E.length) (X : ByteArray) (hX : X.data.toList = x.E.take k) (hs : X.size ≤ 90000000) :
    Calls Tryz.prog 12 #[.string X] w fun e w' => e = .returned (.tuple #[.agg #[.int .i64 0, .string ⟨#[]⟩, .slice none 0 0], .int .i64 0, .int .i64 6]) ∧ Below w.heap.size w w' :=
  (decode_any X hs w hE).mono (fun _ _ h => decode_cut k hx.2 hk hX h)

/-- one round of the second loop, in plain words -/
theorem step2 {w : World} {ms : List MD} {K k : Nat} {b : Bool} {hv : Value} {wr : World} (h : St2 w ms K k b hv wr) (hk : k < ms.length) (hall : ∀ x ∈ ms, x.good ∧ inR x.id) (h6 : ms.length ≤ 6) (F : ByteArray) (hF : F.data.toList = cat ms) :
    ∃ X : ByteArray, hv = .string X ∧ X.size ≤ 700000 ∧
      ((∃ R, X.data.toList = (ms[k]).E ++ R ∧ ∀ wr2, Below w.heap.size w wr2 → St2 w ms K (k + 1) b (.string (X.extract (ms[k]).E.length X.size)) wr2) ∨
       (b = false ∧ ∃ j, j < (ms[k]).E.length ∧ X.data.toList = (ms[k]).E.take j ∧ ∀ wr2, Below w.heap.size w wr2 → St2 w ms K k true (.string (X ++ F.extract K F.size)) wr2)) := by
  obtain ⟨hkl, hb, hm⟩ := h
  have hd := cat_drop hk
  have ht := cat_take hk
  have hle : (cat (ms.drop k)).length ≤ 700000 := by
    have := cat_le (ms.drop k) (fun x hx => hall x (List.mem_of_mem_drop hx))
    have h2 : (ms.drop k).length ≤ 6 := by rw [List.length_drop]; omega
    have h3 : 100100 * (ms.drop k).length ≤ 100100 * 6 := Nat.mul_le_mul_left _ h2
    omega
  cases b with
  | true =>
    simp only at hm
    subst hm
    refine ⟨_, rfl, by rw [S_size]; exact hle, .inl ⟨cat (ms.drop (k + 1)), by rw [S_list, hd], ?_⟩⟩
    intro wr2 hb2
    refine ⟨by omega, hb2, ?_⟩
    refine congrArg Value.string (S_ext ?_)
    rw [ext_list, S_list, S_list, S_size, List.take_length, hd, List.drop_left]
  | false =>
    simp only at hm
    obtain ⟨hKk, rfl⟩ := hm
    obtain ⟨j, hj⟩ : ∃ j, K - (cat (ms.take k)).length = j := ⟨_, rfl⟩
    rw [hj]
    by_cases hw : (ms[k]).E.length ≤ j
    · have e1 : (cat (ms.drop k)).take j = (ms[k]).E ++ (cat (ms.drop (k + 1))).take (j - (ms[k]).E.length) := by
        rw [hd, List.take_append, List.take_of_length_le hw]
      refine ⟨_, rfl, by rw [S_size, List.length_take]; omega, .inl ⟨(cat (ms.drop (k + 1))).take (j - (ms[k]).E.length), by rw [S_list, e1], ?_⟩⟩
      intro wr2 hb2
      refine ⟨by omega, hb2, ?_, ?_⟩
      · rw [ht, List.length_append]; omega
      · refine congrArg Value.string (S_ext ?_)
        rw [ext_list, S_list, S_list, S_size, List.take_length, e1, List.drop_left, ht, List.length_append]
        refine congrArg (fun n => (cat (ms.drop (k + 1))).take n) ?_
        omega
    · have e1 : (cat (ms.drop k)).take j = (ms[k]).E.take j := by
        rw [hd, List.take_append_of_le_length (by omega)]
      refine ⟨_, rfl, by rw [S_size, List.length_take]; omega, .inr ⟨rfl, j, by omega, by rw [S_list, e1], ?_⟩⟩
      intro wr2 hb2
      refine ⟨hkl, hb2, ?_⟩
      refine congrArg Value.string (S_ext ?_)
      have e2 : F.data.toList.take F.size = cat ms := by rw [Lib.size_eq, List.take_length, hF]
      have e3 : (cat ms).drop K = (cat (ms.drop k)).drop j := by
        rw [cat_split ms k, List.drop_append, List.drop_eq_nil_of_le hKk, List.nil_append, hj]
      rw [append_S, S_list, S_list, S_list, ext_list, e2, e3, List.take_append_drop]
end Go.Proofs.YthooajbhiikbfaaGreatDoor

namespace Go.Proofs.YthooajbhiikbfaaGreatDoor
open Go Go.RowKit Em

theorem S_nil : S [] = ⟨#[]⟩ := rfl

set_option maxRecDepth 100000 in
set_option maxHeartbeats 8000000 in
theorem law_stream (AA : Option Addr) (CC : Nat) (ms : List MD) (C : Nat) (hC : C < 65536) (w : World) (hE : Env w) (hR : RdM w AA ms) (hL : ms.length ≤ 140737488355328) :
    Calls Tryz.prog 7 #[.slice AA ms.length CC, .int .u16 (C : Int)] w fun e w' => e = .returned (.bool true) ∧ Below w.heap.size w w' := by
  have HE := Lib.hid hE
  have HR := Lib.hid hR
  clear hE hR
  by_cases h6 : ms.length ≤ 6
  · obtain ⟨N, hN⟩ : ∃ N, ms.length = N := ⟨_, rfl⟩
    have HN := Lib.hid hN
    have HIn := Lib.hid (show ∀ x ∈ ms, inR x.id from fun x hx => by
      obtain ⟨i, hi⟩ := List.getElem?_of_mem hx
      obtain ⟨a, _, _, _, _, hM⟩ := HR.out i x hi
      exact hM.hi)
    rw [hN] at h6 hL ⊢
    clear hN hL
    have hd : decide ((6 : Int) < (N : Int)) = false := by simp; omega
    go_enter Tryz.func7, Tryz.ntmps7
    go_wp2
    go_loopw [5, 6] (fun s i wr => ∃ k : Nat, i = .int .i64 k ∧ St1 w ms k s wr) (fun _ i _ => N - (intOf i).toNat)
    case atStart => exact ⟨0, rfl, Nat.zero_le _, rfl, by simp, Below.refl _ _⟩
    case round =>
      obtain ⟨k, rfl, hk, rfl, hg, hb⟩ := hrel
      rw [HN.out] at hk
      have HB := Lib.hid hb
      have HG := Lib.hid hg
      clear hb hg
      have HLe := Lib.hid (show (cat (ms.take k)).length ≤ 700000 by
        have h1 := cat_le (ms.take k) (fun x hx => ⟨HG.out x hx, HIn.out x (List.mem_of_mem_take hx)⟩)
        have h2 : (ms.take k).length ≤ 6 := by rw [List.length_take]; omega
        have h3 : 100100 * (ms.take k).length ≤ 100100 * 6 := Nat.mul_le_mul_left _ h2
        omega)
      by_cases hlt : k < N
      · have hkl : k < ms.length := by rw [HN.out]; exact hlt
        obtain ⟨a, hAA, a0, a1, a2, hM⟩ := HR.out.below HB.out k ms[k] (List.getElem?_eq_getElem hkl)
        subst hAA
        have HX := Lib.hid (cat_take hkl)
        have HT := Lib.hid (List.take_succ_eq_append_getElem hkl)
        generalize ms[k] = x at a0 a1 a2 hM HX HT
        have HM := Lib.hid hM
        have HSh := Lib.hid (short_c x.c hM)
        obtain ⟨b, hsb⟩ : ∃ b, shortB x.m x.ss = b := ⟨_, rfl⟩
        rw [hsb] at HSh
        have HEw := Lib.hid (HE.out.below HB.out)
        obtain ⟨n, hn⟩ : ∃ n, x.ss.length = n := ⟨_, rfl⟩
        have HEnc := Lib.hid (fun (X : World) (hb : Below wr.heap.size wr X) (hs : shortB x.m x.ss = true) => encode_c x.c (HEw.out.below hb) (HM.out.below hb) hs)
        rw [hn] at HSh HEnc a2
        have HA := Lib.hid (And.intro a0 (And.intro a1 a2))
        clear hM hn
        have hkN : (k : Int) < (N : Int) := by omega
        cases b with
        | false =>
          go_wp2_with (first
            | (go_at_call 8; refine HSh.out.mono ?_; rintro e w1 ⟨rfl, hb1⟩)
            | (go_at_call 9; refine (awake_any _ (HEw.out.below hb1)).mono ?_; rintro e w2 ⟨rfl, hb2⟩))
          go_ret
          exact ⟨rfl, keep_trans HB.out (keep_trans hb1 hb2)⟩
        | true =>
          go_upto_region 9 with (go_at_call 8; refine HSh.out.mono ?_; rintro e w1 ⟨rfl, hb1⟩)
          have HB1 := Lib.hid hb1
          clear a0 a1 a2 hb1
          have a0 := (HB1.out.cell (cell_lt' HA.out.1)).trans HA.out.1
          have a1 := (HB1.out.cell (cell_lt' HA.out.2.1)).trans HA.out.2.1
          have a2 := (HB1.out.cell (cell_lt' HA.out.2.2)).trans HA.out.2.2
          cases hv : valid (msgOf x.id x.m x.ss) with
          | false =>
            rw [encVal_no hv] at HEnc
            go_wp2_with (first
              | (go_at_call 10; refine (HEnc.out _ HB1.out hsb).mono ?_; rintro e w2 ⟨rfl, hb2⟩)
              | (go_at_call 9; refine (awake_any _ (HEw.out.below (keep_trans HB1.out hb2))).mono ?_; rintro e w3 ⟨rfl, hb3⟩))
            go_ret
            exact ⟨rfl, keep_trans HB.out (keep_trans HB1.out (keep_trans hb2 hb3))⟩
          | true =>
            rw [encVal_ok hv] at HEnc
            have HGd := Lib.hid (show x.good from ⟨hsb, hv⟩)
            have hEl := (encL_le HM.out.hi hsb).1
            have HJ := Lib.hid (show S (cat (ms.take k)) ++ S (encL (msgOf x.id x.m x.ss)) = S (cat (ms.take (k + 1))) from by
              rw [append_S, S_list, S_list, HX.out]; rfl)
            obtain ⟨T, hT⟩ : ∃ T, S (encL (msgOf x.id x.m x.ss)) = T := ⟨_, rfl⟩
            have hTs : T.size ≤ 100100 := by rw [← hT, S_size]; exact hEl
            obtain ⟨U, hU⟩ : ∃ U, S (cat (ms.take k)) = U := ⟨_, rfl⟩
            have hUs : U.size ≤ 700000 := by rw [← hU, S_size]; exact HLe.out
            rw [hT] at HEnc HJ
            rw [hU] at HJ ⊢
            have n3 : ¬ 9223372036854775807 < U.size + T.size := by omega
            clear hT hU hEl hv
            go_wp2_with (go_at_call 10; refine (HEnc.out _ HB1.out hsb).mono ?_; rintro e w2 ⟨rfl, hb2⟩)
            go_roundw
            case rel =>
              refine ⟨k + 1, by go_num, by rw [HN.out]; omega, congrArg Value.string HJ.out, ?_, keep_trans HB.out (keep_trans HB1.out hb2)⟩
              intro y hy
              rw [HT.out] at hy
              rcases List.mem_append.1 hy with h | h
              · exact HG.out y h
              · simp at h; subst h; exact HGd.out
            case measure => simp [intOf]; omega
      · have hd0 : decide ((k : Int) < (N : Int)) = false := by simp; omega
        have he : ms.take k = ms := List.take_of_length_le (by rw [HN.out]; omega)
        have HAll := Lib.hid (show ∀ x ∈ ms, x.good ∧ inR x.id from fun x hx => ⟨HG.out x (by rw [he]; exact hx), HIn.out x hx⟩)
        rw [he] at HLe
        rw [he]
        obtain ⟨F, hF⟩ : ∃ F, S (cat ms) = F := ⟨_, rfl⟩
        have hFl : F.data.toList = cat ms := by rw [← hF, S_list]
        have hFs : F.size ≤ 700000 := by rw [← hF, S_size]; exact HLe.out
        obtain ⟨K, hK⟩ : ∃ K, C % (F.size + 1) = K := ⟨_, rfl⟩
        have hKF : K ≤ F.size := by
          have := Nat.mod_lt C (show F.size + 1 > 0 by omega)
          omega
        have hmod : (C : Int).tmod ((F.size : Int) + 1) = (K : Int) := by
          have := tmod_nat C (F.size + 1)
          rw [hK] at this
          exact this
        have z1 : ((F.size : Int) + 1 == 0) = false := by rw [beq_eq_false_iff_ne]; omega
        have z2 : ¬ (F.size : Int) + 1 = 0 := by omega
        have h6' : ms.length ≤ 6 := by rw [HN.out]; exact h6
        have HSt := Lib.hid (fun (k : Nat) (b : Bool) (hv : Value) (wr : World) (h : St2 w ms K k b hv wr) (hk : k < ms.length) => step2 h hk HAll.out h6' F hFl)
        have H0 := Lib.hid (show St2 w ms K 0 false (.string (F.extract 0 K)) wr from ⟨Nat.zero_le _, HB.out, Nat.zero_le _, congrArg Value.string (S_ext (by rw [ext_list, S_list, hFl]; simp [cat]))⟩)
        rw [hF]
        clear hF hFl hK he HG HIn HLe
        go_wp2
        go_loopw [9, 10, 11] (fun hv lv iv wr => ∃ (k : Nat) (b : Bool), iv = .int .i64 k ∧ lv = .bool b ∧ St2 w ms K k b hv wr) (fun _ lv iv _ => 2 * (N - (intOf iv).toNat) + (match lv with | .bool true => 0 | _ => 1))
        case atStart => exact ⟨0, false, rfl, rfl, H0.out⟩
        case round =>
          obtain ⟨k2, b, rfl, rfl, hst⟩ := hrel
          by_cases hlt2 : k2 < N
          · have hkl : k2 < ms.length := by rw [HN.out]; exact hlt2
            obtain ⟨X, rfl, hXs, hcase⟩ := HSt.out k2 b _ wr hst hkl
            obtain ⟨a, hAA, a0, a1, a2, hM⟩ := HR.out.below hst.2.1 k2 ms[k2] (List.getElem?_eq_getElem hkl)
            have hgd := HAll.out ms[k2] (List.getElem_mem hkl)
            have HB2 := Lib.hid hst.2.1
            clear hst
            subst hAA
            generalize ms[k2] = x at a0 a1 a2 hM hcase hgd
            have HE2 := Lib.hid (HE.out.below HB2.out)
            have hk2N : (k2 : Int) < (N : Int) := by omega
            rcases hcase with ⟨R, hX, hnext⟩ | ⟨hbf, j, hj, hX, hnext⟩
            · have hp := E_pos hgd.1 hgd.2
              have hnX : x.E.length ≤ X.size := by rw [Lib.size_eq, hX, List.length_append]; omega
              have HDec := Lib.hid (dec_whole HE2.out hgd.1 hgd.2 X R hX (by omega))
              have HNx := Lib.hid hnext
              have hss := (short_facts hgd.1.1).2.1
              have HSame := Lib.hid (fun A' c' W hr hr' => same_true x.id x.m A' x.A c' x.c x.ss W (by omega) hr hr')
              obtain ⟨n, hn⟩ : ∃ n, x.E.length = n := ⟨_, rfl⟩
              obtain ⟨L, hL⟩ : ∃ L, x.ss.length = L := ⟨_, rfl⟩
              rw [hn] at HDec HNx hp hnX
              rw [hL] at HDec HSame a2
              have HA := Lib.hid (And.intro a0 (And.intro a1 a2))
              have HMr := Lib.hid hM
              clear hn hL hss hgd hM hX hnext a0 a1 a2
              have a0 := HA.out.1
              have d1 : decide ((n : Int) < 1) = false := by simp; omega
              have d2 : decide ((X.size : Int) < (n : Int)) = false := by simp; omega
              have d3 : decide (X.size < n) = false := by simp; omega
              have d4 : decide (n = 0) = false := by simp; omega
              go_upto_region 18 with (go_at_call 12; refine HDec.out.mono ?_; rintro e w1 ⟨⟨A1, c1, rfl, hr1⟩, hb1⟩)
              obtain ⟨W1, hW1⟩ : ∃ W1 : World, w1.alloc (.cells #[.int .i64 x.id, .string x.m, .slice A1 L c1] 24) = W1 := ⟨_, rfl⟩
              rw [hW1]
              have HB3 := Lib.hid (show Below wr.heap.size wr W1 by rw [← hW1]; exact keep_trans hb1 (keep_alloc _ _))
              have HK3 := Lib.hid (show W1.heap[w1.heap.size]? = some (.cells #[.int .i64 x.id, .string x.m, .slice A1 L c1] 24 (0, 0)) by rw [← hW1]; exact heap_alloc_new _ _)
              have HR3 := Lib.hid (show RdS W1 W1.heap.size A1 x.ss by rw [← hW1]; exact hr1.keepB (keep_alloc _ _))
              have HD3 := Lib.hid (show Below W1.heap.size W1 W1.drew from (Below.refl _ _).drew)
              clear hb1 hr1 hW1 a0
              obtain ⟨q0, q1, q2, -⟩ := three_keep HK3.out HD3.out
              have HBd := Lib.hid (keep_trans HB3.out HD3.out)
              have a0 := (HBd.out.cell (cell_lt' HA.out.1)).trans HA.out.1
              have a1 := (HBd.out.cell (cell_lt' HA.out.2.1)).trans HA.out.2.1
              have a2 := (HBd.out.cell (cell_lt' HA.out.2.2)).trans HA.out.2.2
              have HS1 := Lib.hid (HSame.out A1 c1 W1.drew (HR3.out.keepB HD3.out) (HMr.out.below HBd.out).hr)
              go_upto_region 21 with fail
              go_cut [100] from 54 to 105 (fun q wx => q = .bool false ∧ Below W1.heap.size W1 wx)
              case first =>
                go_region_held3 (fun w' => w'.cell? (a.add (k2 * 3)) = some (.int .i64 x.id) ∧ w'.cell? ⟨(a.add (k2 * 3)).block, (a.add (k2 * 3)).off + 1, none⟩ = some (.string x.m) ∧ w'.cell? ⟨(a.add (k2 * 3)).block, (a.add (k2 * 3)).off + 2, none⟩ = some (.slice x.A L x.c) ∧ w'.cell? ⟨w1.heap.size, 0, none⟩ = some (.int .i64 x.id) ∧ w'.cell? ⟨w1.heap.size, 1, none⟩ = some (.string x.m) ∧ w'.cell? ⟨w1.heap.size, 2, none⟩ = some (.slice A1 L c1))
                  (first | (refine ⟨?_, ?_, ?_, ?_, ?_, ?_⟩ <;> assumption) | go_keep)
                  (first | (go_at_call 14; refine HS1.out.mono ?_; rintro e w2 ⟨rfl, hb2⟩; obtain ⟨q0, q1, q2, -⟩ := three_keep HK3.out (keep_trans HD3.out hb2); have a0 := ((keep_trans HBd.out hb2).cell (cell_lt' HA.out.1)).trans HA.out.1; have a1 := ((keep_trans HBd.out hb2).cell (cell_lt' HA.out.2.1)).trans HA.out.2.1; have a2 := ((keep_trans HBd.out hb2).cell (cell_lt' HA.out.2.2)).trans HA.out.2.2))
                all_goals (go_wp2_with fail; go_meet)
                all_goals exact ⟨rfl, (Below.refl _ _).drew.trans hb2⟩
              case rest =>
                obtain ⟨rfl, hbx⟩ := hcut
                clear q0 q1 q2 a0 a1 a2
                go_wp2
                go_roundw
                case rel => exact ⟨k2 + 1, b, by go_num, rfl, HNx.out _ (keep_trans HB2.out (keep_trans HB3.out hbx))⟩
                case measure => cases b <;> simp [intOf] <;> omega
            · subst hbf
              have HDec := Lib.hid (dec_part HE2.out hgd.1 j hj X hX (by omega))
              have HNx := Lib.hid hnext
              have hG : (F.extract K F.size).size ≤ 700000 := by
                rw [Lib.size_eq, ext_list, List.length_drop, List.length_take, ← Lib.size_eq]; omega
              have n3 : ¬ 9223372036854775807 < X.size + (F.extract K F.size).size := by omega
              have n4 : ¬ 9223372036854775807 < X.size + (F.size - K) := by omega
              clear hgd hM hX hnext a0 a1 a2 hj
              go_wp2_with (go_at_call 12; refine HDec.out.mono ?_; rintro e w1 ⟨rfl, hb1⟩)
              go_roundw
              case rel => exact ⟨k2, true, rfl, rfl, HNx.out _ (keep_trans HB2.out (keep_trans hb1 (keep_alloc _ _)))⟩
              case measure => simp [intOf]
          · have hd2 : decide ((k2 : Int) < (N : Int)) = false := by simp; omega
            obtain ⟨hk2, hb, hm⟩ := hst
            have hk2' : ms.length ≤ k2 := by rw [HN.out]; omega
            have HE2 := Lib.hid (HE.out.below hb)
            have HB2 := Lib.hid hb
            clear hb
            cases b with
            | true =>
              simp only at hm
              rw [List.drop_eq_nil_of_le hk2', cat_nil, S_nil] at hm
              subst hm
              go_wp2_with (go_at_call 9; refine (awake_any _ HE2.out).mono ?_; rintro e w1 ⟨rfl, hb1⟩)
              go_ret
              exact ⟨rfl, keep_trans HB2.out hb1⟩
            | false =>
              simp only at hm
              obtain ⟨-, rfl⟩ := hm
              rw [List.drop_eq_nil_of_le hk2', cat_nil, List.take_nil, S_nil]
              go_wp2_with (go_at_call 9; refine (awake_any _ HE2.out).mono ?_; rintro e w1 ⟨rfl, hb1⟩)
              go_ret
              exact ⟨rfl, keep_trans HB2.out hb1⟩
  · have hd : (6 : Int) < (ms.length : Int) := by omega
    go_enter Tryz.func7, Tryz.ntmps7
    go_wp2_with (go_at_call 9; refine (awake_any _ HE.out).mono ?_; rintro e w1 ⟨rfl, hb1⟩)
    go_ret
    exact ⟨rfl, hb1⟩
end Go.Proofs.YthooajbhiikbfaaGreatDoor

