/- A part of the proofs of the statements of emendatelaw55 (layer protocol): header of the reference. Conditions: those that stand in each theorem, no other. -/
import Derived.Test.YthooajbhiikbfaaGreatDoorEmO
import Derived.Test.YthooajbhiikbfaaGreatDoorEmHdr2
namespace Go.Proofs.YthooajbhiikbfaaGreatDoor
open Go Go.RowKit Em

def refH (l : Bytes) : Int × Int := match hdr l with | .more => (-1, 0) | .bad => (-2, 0) | .ok n rest => (((l.length - rest.length : Nat) : Int), (n : Int))
theorem refH_more {l : Bytes} (h : hdr l = .more) : refH l = (-1, 0) := by unfold refH; rw [h]
theorem refH_bad {l : Bytes} (h : hdr l = .bad) : refH l = (-2, 0) := by unfold refH; rw [h]
theorem refH_ok {l : Bytes} {n : Nat} {r : Bytes} (h : hdr l = .ok n r) : refH l = (((l.length - r.length : Nat) : Int), (n : Int)) := by unfold refH; rw [h]

def preB : ByteArray := ⟨#[67, 111, 110, 116, 101, 110, 116, 45, 76, 101, 110, 103, 116, 104, 58, 32]⟩
def crlfB : ByteArray := ⟨#[13, 10, 13, 10]⟩
theorem preB_list : preB.data.toList = pre := rfl
theorem crlfB_list : crlfB.data.toList = crlf := rfl

theorem ret_ii {a b c d : Int} (h : (a, b) = (c, d)) : Ending.returned (.tuple #[.int .i64 a, .int .i64 b]) = .returned (.tuple #[.int .i64 c, .int .i64 d]) := by
  injection h with h1 h2; rw [h1, h2]

theorem begins_is (s t : ByteArray) (b : Bool) (h : t.data.toList.isPrefixOf s.data.toList = b) (w : World) :
    Calls Tryz.prog 39 #[.string s, .string t] w fun e w' => e = .returned (.bool b) ∧ w = w' := by
  rw [← h]; exact begins_any s t w

set_option maxRecDepth 100000 in
set_option maxHeartbeats 400000 in
theorem headerR_short (s : ByteArray) (hs : s.size < 16) (w : World) :
    Calls Tryz.prog 26 #[.string s] w fun e w' => e = .returned (.tuple #[.int .i64 (refH s.data.toList).1, .int .i64 (refH s.data.toList).2]) ∧ w = w' := by
  have hl : s.data.toList.length < 16 := by rw [← Lib.size_eq]; exact hs
  cases hp : s.data.toList.isPrefixOf pre with
  | true =>
    have hb := Lib.hid (begins_is preB s true hp w)
    have hr : refH s.data.toList = (-1, 0) := refH_more (by unfold hdr; rw [if_pos hl, hp]; rfl)
    unfold preB at hb
    rw [hr]
    clear hp hl hr
    go_enter Tryz.func26, Tryz.ntmps26
    go_wp2_with (go_at_call 39; refine hb.out.mono ?_; rintro e w1 ⟨rfl, rfl⟩)
    go_ret2
    exact ⟨rfl, rfl⟩
  | false =>
    have hb := Lib.hid (begins_is preB s false hp w)
    have hr : refH s.data.toList = (-2, 0) := refH_bad (by unfold hdr; rw [if_pos hl, hp]; rfl)
    unfold preB at hb
    rw [hr]
    clear hp hl hr
    go_enter Tryz.func26, Tryz.ntmps26
    go_wp2_with (go_at_call 39; refine hb.out.mono ?_; rintro e w1 ⟨rfl, rfl⟩)
    go_ret2
    exact ⟨rfl, rfl⟩

set_option maxRecDepth 100000 in
set_option maxHeartbeats 400000 in
theorem headerR_not (s : ByteArray) (hs : 16 ≤ s.size) (hx : s.size ≤ 140737488355328) (hp : pre.isPrefixOf s.data.toList = false) (w : World) :
    Calls Tryz.prog 26 #[.string s] w fun e w' => e = .returned (.tuple #[.int .i64 (refH s.data.toList).1, .int .i64 (refH s.data.toList).2]) ∧ w = w' := by
  have hl : ¬ s.data.toList.length < 16 := by rw [← Lib.size_eq]; omega
  have hb := Lib.hid (begins_is s preB false hp w)
  have hr : refH s.data.toList = (-2, 0) := refH_bad (by unfold hdr; rw [if_neg hl, hp]; rfl)
  unfold preB at hb
  rw [hr]
  clear hp hl hr
  go_enter Tryz.func26, Tryz.ntmps26
  go_wp2_with (go_at_call 39; refine hb.out.mono ?_; rintro e w1 ⟨rfl, rfl⟩)
  go_ret2
  exact ⟨rfl, rfl⟩

def hdrX (n : Nat) (rest : Bytes) : H := if rest.length < 4 then (if rest.isPrefixOf crlf then .more else .bad) else if crlf.isPrefixOf rest then .ok n (rest.drop 4) else .bad
theorem hdrT_exitX (n : Nat) (rest : Bytes) (hn : n ≤ 100000) (hr : ∀ c, rest.head? = some c → digB c = false) : hdrT (Lib.decDigits n ++ rest) = hdrX n rest := hdrT_exit n rest hn hr

/-- the state of the header's scan -/
def HSt (t : Bytes) (j n : Nat) : Prop := (j = 0 ∧ n = 0) ∨ (1 ≤ j ∧ t.take j = Lib.decDigits n)

theorem HSt.split {t : Bytes} {j n : Nat} (h : HSt t j n) (hj : 1 ≤ j) : t = Lib.decDigits n ++ t.drop j := by
  rcases h with ⟨h, _⟩ | ⟨_, h⟩
  · omega
  · rw [← h, List.take_append_drop]
theorem HSt.zero {t : Bytes} {j : Nat} (h : HSt t j 0) (hj : 1 ≤ j) (hjl : j < t.length) (hd : digB (t.getD j 0) = true) : hdrT t = .bad := by
  have h1 : t.take j = [48] := by
    rcases h with ⟨h, _⟩ | ⟨_, h⟩
    · omega
    · rw [h, decDigits_small (by omega)]; rfl
  have hj1 : j = 1 := by
    have := congrArg List.length h1
    rw [List.length_take] at this; simp at this; omega
  subst hj1
  match t, hjl with
  | a :: b :: r, _ =>
    simp at h1 hd
    subst h1
    exact hdrT_zero b r hd
theorem HSt.step {t : Bytes} {j n : Nat} (h : HSt t j n) (hn : 1 ≤ j → 1 ≤ n) (hjl : j < t.length) (d : Nat) (hd : d ≤ 9) (he : (t.getD j 0).toNat = 48 + d) : t.take (j + 1) = Lib.decDigits (10 * n + d) := by
  have e : t.take (j + 1) = t.take j ++ [UInt8.ofNat (48 + d)] := by
    rw [List.take_succ_eq_append_getElem hjl]
    congr 2
    rw [List.getD_eq_getElem?_getD, List.getElem?_eq_getElem hjl, Option.getD_some] at he
    apply UInt8.toNat_inj.1; rw [he, digit_toNat (by omega)]
  rw [e]
  rcases h with ⟨rfl, rfl⟩ | ⟨h1, h⟩
  · rw [decDigits_small (by omega)]; simp
  · have := hn h1
    rw [h, decDigits_big (u := 10 * n + d) (by omega)]
    have e1 : (10 * n + d) / 10 = n := by omega
    have e2 : (10 * n + d) % 10 = d := by omega
    rw [e1, e2]

structure HEnv (s : ByteArray) (t : Bytes) : Prop where
  t_ : t = s.data.toList.drop 16
  len : t.length + 16 = s.size
  h : hdr s.data.toList = hdrT t

theorem HEnv.at_ {s : ByteArray} {t : Bytes} (E : HEnv s t) (j k : Nat) (hk : k = 16 + j) (h : k < s.size) : t.getD j 0 = s[k] := by
  subst hk; rw [E.t_, drop_getD, getD_at s _ h]
theorem HEnv.rest {s : ByteArray} {t : Bytes} (E : HEnv s t) (j k : Nat) (hk : k = 16 + j) : t.drop j = s.data.toList.drop k := by
  subst hk; rw [E.t_, List.drop_drop]
theorem hdB {s : ByteArray} {k : Nat} (h : k < s.size) (hd : digB s[k] = false) : ∀ c, (s.data.toList.drop k).head? = some c → digB c = false := by
  intro c hc
  rw [List.head?_drop] at hc
  have h2 : k < s.data.toList.length := by rw [← Lib.size_eq]; exact h
  rw [List.getElem?_eq_getElem h2] at hc
  injection hc with hc
  rw [← hc]; exact hd
theorem digB_int (c : UInt8) : digB c = (decide ((48:Int) ≤ (c.toNat : Int)) && decide ((c.toNat : Int) ≤ 57)) := by
  unfold digB; rw [Bool.eq_iff_iff]; simp; omega

theorem ext_end (s : ByteArray) (k : Nat) : (s.extract k s.size).data.toList = s.data.toList.drop k := by
  rw [ext_list, Lib.size_eq, List.take_length]

set_option maxRecDepth 100000 in
set_option maxHeartbeats 4000000 in
theorem headerR_yes (s : ByteArray) (hs : 16 ≤ s.size) (hx : s.size ≤ 140737488355328) (hp : pre.isPrefixOf s.data.toList = true) (w : World) :
    Calls Tryz.prog 26 #[.string s] w fun e w' => e = .returned (.tuple #[.int .i64 (refH s.data.toList).1, .int .i64 (refH s.data.toList).2]) ∧ w = w' := by
  have hb := Lib.hid (begins_is s preB true hp w)
  have E : HEnv s (s.data.toList.drop 16) := ⟨rfl, by rw [List.length_drop, ← Lib.size_eq]; omega, by
    unfold hdr; rw [if_neg (by rw [← Lib.size_eq]; omega), hp, if_pos rfl]⟩
  obtain ⟨t, ht⟩ : ∃ t, s.data.toList.drop 16 = t := ⟨_, rfl⟩
  rw [ht] at E
  obtain ⟨P, hP⟩ : ∃ P, refH s.data.toList = P := ⟨_, rfl⟩
  obtain ⟨p1, p2⟩ := P
  rw [hP]
  have hlen := E.len
  have HE := Lib.hid E
  have HP := Lib.hid hP
  have HMore := Lib.hid (show hdrT t = .more → (p1, p2) = (-1, 0) from fun h => by rw [← HP.out]; exact refH_more (by rw [HE.out.h, h]))
  have HBad := Lib.hid (show hdrT t = .bad → (p1, p2) = (-2, 0) from fun h => by rw [← HP.out]; exact refH_bad (by rw [HE.out.h, h]))
  unfold preB at hb
  clear hp E ht hP
  go_enter Tryz.func26, Tryz.ntmps26
  go_wp2_with (go_at_call 39; refine hb.out.mono ?_; rintro e w1 ⟨rfl, rfl⟩)
  go_loop [4, 5] (fun a m => ∃ j n k : Nat, k = 16 + j ∧ k ≤ s.size ∧ a = .int .i64 k ∧ m = .int .i64 n ∧ n ≤ 100000 ∧ HSt t j n) (fun a _ => s.size - (intOf a).toNat)
  case atStart => exact ⟨0, 0, 16, rfl, hs, rfl, rfl, by omega, .inl ⟨rfl, rfl⟩⟩
  case round =>
    obtain ⟨j, n, k, hkj, hk, rfl, rfl, hn, hst⟩ := hrel
    have HK := Lib.hid hkj
    have hk1 : k ≤ 16 + j := by omega
    have hk2 : 16 + j ≤ k := by omega
    have HS := Lib.hid hst
    clear hst hkj
    by_cases hlt : k < s.size
    · have HG := Lib.hid (HE.out.at_ j k HK.out hlt)
      have hjl := Lib.hid (show j < t.length by omega)
      have HD := Lib.hid (digB_int (s[k]'hlt))
      by_cases c1 : (48 : Int) ≤ ((s[k]'hlt).toNat : Int)
      · by_cases c2 : ((s[k]'hlt).toNat : Int) ≤ 57
        · have HDt := Lib.hid (show digB (t.getD j 0) = true by rw [HG.out, HD.out]; simp [c1, c2])
          by_cases z1 : 1 ≤ j ∧ n = 0
          · obtain ⟨z1, z2⟩ := z1
            subst z2
            have HB := Lib.hid (HBad.out (HS.out.zero z1 hjl.out HDt.out))
            have hd16 : decide ((16 : Int) < (k : Int)) = true := by simp; omega
            go_wp2
            go_ret2
            exact ⟨ret_ii HB.out.symm, rfl⟩
          · have hnz : 1 ≤ j → 1 ≤ n := fun h => by
              rcases Nat.eq_zero_or_pos n with h0 | h0
              · exact absurd ⟨h, h0⟩ z1
              · exact h0
            obtain ⟨d, hd⟩ : ∃ d : Nat, (s[k]'hlt).toNat = 48 + d := ⟨(s[k]'hlt).toNat - 48, by omega⟩
            have hd9 : d ≤ 9 := by omega
            have HT := Lib.hid (HS.out.step hnz hjl.out d hd9 (by rw [HG.out, hd]))
            have HDD := Lib.hid hd
            have hdi : ((s[k]'hlt).toNat : Int) - 48 = (d : Int) := by omega
            clear hd hnz
            have hg : (decide ((16 : Int) < (k : Int)) && ((n : Int) == 0)) = false := by
              rw [Bool.and_eq_false_iff]
              by_cases hj0 : 1 ≤ j
              · right; rw [beq_eq_false_iff_ne]; intro h; exact z1 ⟨hj0, by omega⟩
              · left; simp; omega
            by_cases hj0 : 1 ≤ j
            · have hd16 : decide ((16 : Int) < (k : Int)) = true := by simp; omega
              have hnn : ((n : Int) == 0) = false := by rw [beq_eq_false_iff_ne]; intro h; exact z1 ⟨hj0, by omega⟩
              clear hg z1
              by_cases hgr : 100000 < 10 * n + d
              · have HB := Lib.hid (HBad.out (hdrT_great t (j + 1) (10 * n + d) (by omega) HT.out hjl.out hgr))
                go_wp2
                go_ret2
                exact ⟨ret_ii HB.out.symm, rfl⟩
              · go_wp2
                go_round
                case rel => exact ⟨j + 1, 10 * n + d, k + 1, by omega, by omega, by go_num, by go_num, by omega, .inr ⟨by omega, HT.out⟩⟩
                case measure => simp [intOf]; omega
            · have hd16 : decide ((16 : Int) < (k : Int)) = false := by simp; omega
              clear hg z1
              by_cases hgr : 100000 < 10 * n + d
              · have HB := Lib.hid (HBad.out (hdrT_great t (j + 1) (10 * n + d) (by omega) HT.out hjl.out hgr))
                go_wp2
                go_ret2
                exact ⟨ret_ii HB.out.symm, rfl⟩
              · go_wp2
                go_round
                case rel => exact ⟨j + 1, 10 * n + d, k + 1, by omega, by omega, by go_num, by go_num, by omega, .inr ⟨by omega, HT.out⟩⟩
                case measure => simp [intOf]; omega
        · have HDf := Lib.hid (show digB (s[k]'hlt) = false by rw [HD.out]; simp [c2])
          have HR := Lib.hid (HE.out.rest j k HK.out)
          have HHd := Lib.hid (hdB hlt HDf.out)
          have hex : (s.extract k s.size).toList.isEmpty = false := by
            rw [Lib.toList_data, ext_end]
            cases hq : s.data.toList.drop k with
            | nil => rw [List.drop_eq_nil_iff, ← Lib.size_eq] at hq; omega
            | cons a b => rfl
          by_cases hj0 : 1 ≤ j
          · have h16 : ((k : Int) == 16) = false := by rw [beq_eq_false_iff_ne]; omega
            have HX := Lib.hid (show hdrT t = hdrX n (s.data.toList.drop k) by rw [HS.out.split hj0, HR.out]; exact hdrT_exitX n _ hn HHd.out)
            have hl4 : (s.data.toList.drop k).length = s.size - k := by rw [List.length_drop, ← Lib.size_eq]
            have HL4 := Lib.hid hl4
            clear hl4
            cases hp1 : crlf.isPrefixOf (s.data.toList.drop k) with
            | true =>
              have hge : 4 ≤ s.size - k := by
                rw [List.isPrefixOf_iff_prefix] at hp1
                have := hp1.length_le; rw [HL4.out] at this; exact this
              have HM := Lib.hid (show (p1, p2) = ((k : Int) + 4, (n : Int)) by
                rw [← HP.out, refH_ok (n := n) (r := (s.data.toList.drop k).drop 4) (by rw [HE.out.h, HX.out, hdrX, if_neg (by rw [HL4.out]; omega), hp1, if_pos rfl])]
                rw [List.length_drop, HL4.out, ← Lib.size_eq]
                congr 1; omega)
              have hB := Lib.hid (begins_is (s.extract k s.size) crlfB true (by rw [ext_end]; exact hp1) w)
              unfold crlfB at hB
              clear hp1
              go_wp2_with (go_at_call 39; refine hB.out.mono ?_; rintro e w1 ⟨rfl, rfl⟩)
              go_ret2
              exact ⟨ret_ii HM.out.symm, rfl⟩
            | false =>
              have hB := Lib.hid (begins_is (s.extract k s.size) crlfB false (by rw [ext_end]; exact hp1) w)
              unfold crlfB at hB
              cases hp2 : (s.data.toList.drop k).isPrefixOf crlf with
              | true =>
                have hB2 := Lib.hid (begins_is crlfB (s.extract k s.size) true (by rw [ext_end]; exact hp2) w)
                unfold crlfB at hB2
                have hlt4 : s.size - k < 4 := by
                  rcases Nat.lt_or_ge (s.size - k) 4 with h | h
                  · exact h
                  · exfalso
                    rw [List.isPrefixOf_iff_prefix] at hp2
                    have h4 := hp2.length_le
                    rw [HL4.out] at h4
                    have : s.data.toList.drop k = crlf := hp2.eq_of_length (by rw [HL4.out]; have : crlf.length = 4 := rfl; omega)
                    rw [this] at hp1
                    exact absurd hp1 (by decide)
                have HM := Lib.hid (show (p1, p2) = (-1, 0) from HMore.out (by rw [HX.out, hdrX, if_pos (by rw [HL4.out]; exact hlt4), hp2, if_pos rfl]))
                clear hp1 hp2
                go_wp2_with (first | (go_at_call 39; refine hB.out.mono ?_; rintro e w1 ⟨rfl, rfl⟩; refine Hid.out ?_))
                refine Lib.hid ?_
                go_wp2_with (go_at_call 39; refine hB2.out.mono ?_; rintro e w1 ⟨rfl, rfl⟩)
                go_ret2
                exact ⟨ret_ii HM.out.symm, rfl⟩
              | false =>
                have hB2 := Lib.hid (begins_is crlfB (s.extract k s.size) false (by rw [ext_end]; exact hp2) w)
                unfold crlfB at hB2
                have HM := Lib.hid (show (p1, p2) = (-2, 0) from HBad.out (by rw [HX.out, hdrX, hp1, hp2]; simp))
                clear hp1 hp2
                go_wp2_with (first | (go_at_call 39; refine hB.out.mono ?_; rintro e w1 ⟨rfl, rfl⟩; refine Hid.out ?_))
                refine Lib.hid ?_
                go_wp2_with (go_at_call 39; refine hB2.out.mono ?_; rintro e w1 ⟨rfl, rfl⟩)
                go_ret2
                exact ⟨ret_ii HM.out.symm, rfl⟩
          · have h16 : ((k : Int) == 16) = true := by rw [beq_iff_eq]; omega
            have HM := Lib.hid (show (p1, p2) = (-2, 0) from HBad.out (by
              have h0 : t = s.data.toList.drop k := by have := HR.out; rwa [show j = 0 by omega, List.drop_zero] at this
              rw [h0, hdrT_none _ HHd.out, if_neg]
              rw [List.drop_eq_nil_iff, ← Lib.size_eq]; omega))
            go_wp2
            go_ret2
            exact ⟨ret_ii HM.out.symm, rfl⟩
      · have HDf := Lib.hid (show digB (s[k]'hlt) = false by rw [HD.out]; simp [c1])
        have HR := Lib.hid (HE.out.rest j k HK.out)
        have HHd := Lib.hid (hdB hlt HDf.out)
        have hex : (s.extract k s.size).toList.isEmpty = false := by
          rw [Lib.toList_data, ext_end]
          cases hq : s.data.toList.drop k with
          | nil => rw [List.drop_eq_nil_iff, ← Lib.size_eq] at hq; omega
          | cons a b => rfl
        by_cases hj0 : 1 ≤ j
        · have h16 : ((k : Int) == 16) = false := by rw [beq_eq_false_iff_ne]; omega
          have HX := Lib.hid (show hdrT t = hdrX n (s.data.toList.drop k) by rw [HS.out.split hj0, HR.out]; exact hdrT_exitX n _ hn HHd.out)
          have hl4 : (s.data.toList.drop k).length = s.size - k := by rw [List.length_drop, ← Lib.size_eq]
          have HL4 := Lib.hid hl4
          clear hl4
          cases hp1 : crlf.isPrefixOf (s.data.toList.drop k) with
          | true =>
            have hge : 4 ≤ s.size - k := by
              rw [List.isPrefixOf_iff_prefix] at hp1
              have := hp1.length_le; rw [HL4.out] at this; exact this
            have HM := Lib.hid (show (p1, p2) = ((k : Int) + 4, (n : Int)) by
              rw [← HP.out, refH_ok (n := n) (r := (s.data.toList.drop k).drop 4) (by rw [HE.out.h, HX.out, hdrX, if_neg (by rw [HL4.out]; omega), hp1, if_pos rfl])]
              rw [List.length_drop, HL4.out, ← Lib.size_eq]
              congr 1; omega)
            have hB := Lib.hid (begins_is (s.extract k s.size) crlfB true (by rw [ext_end]; exact hp1) w)
            unfold crlfB at hB
            clear hp1
            go_wp2_with (go_at_call 39; refine hB.out.mono ?_; rintro e w1 ⟨rfl, rfl⟩)
            go_ret2
            exact ⟨ret_ii HM.out.symm, rfl⟩
          | false =>
            have hB := Lib.hid (begins_is (s.extract k s.size) crlfB false (by rw [ext_end]; exact hp1) w)
            unfold crlfB at hB
            cases hp2 : (s.data.toList.drop k).isPrefixOf crlf with
            | true =>
              have hB2 := Lib.hid (begins_is crlfB (s.extract k s.size) true (by rw [ext_end]; exact hp2) w)
              unfold crlfB at hB2
              have hlt4 : s.size - k < 4 := by
                rcases Nat.lt_or_ge (s.size - k) 4 with h | h
                · exact h
                · exfalso
                  rw [List.isPrefixOf_iff_prefix] at hp2
                  have h4 := hp2.length_le
                  rw [HL4.out] at h4
                  have : s.data.toList.drop k = crlf := hp2.eq_of_length (by rw [HL4.out]; have : crlf.length = 4 := rfl; omega)
                  rw [this] at hp1
                  exact absurd hp1 (by decide)
              have HM := Lib.hid (show (p1, p2) = (-1, 0) from HMore.out (by rw [HX.out, hdrX, if_pos (by rw [HL4.out]; exact hlt4), hp2, if_pos rfl]))
              clear hp1 hp2
              go_wp2_with (first | (go_at_call 39; refine hB.out.mono ?_; rintro e w1 ⟨rfl, rfl⟩; refine Hid.out ?_))
              refine Lib.hid ?_
              go_wp2_with (go_at_call 39; refine hB2.out.mono ?_; rintro e w1 ⟨rfl, rfl⟩)
              go_ret2
              exact ⟨ret_ii HM.out.symm, rfl⟩
            | false =>
              have hB2 := Lib.hid (begins_is crlfB (s.extract k s.size) false (by rw [ext_end]; exact hp2) w)
              unfold crlfB at hB2
              have HM := Lib.hid (show (p1, p2) = (-2, 0) from HBad.out (by rw [HX.out, hdrX, hp1, hp2]; simp))
              clear hp1 hp2
              go_wp2_with (first | (go_at_call 39; refine hB.out.mono ?_; rintro e w1 ⟨rfl, rfl⟩; refine Hid.out ?_))
              refine Lib.hid ?_
              go_wp2_with (go_at_call 39; refine hB2.out.mono ?_; rintro e w1 ⟨rfl, rfl⟩)
              go_ret2
              exact ⟨ret_ii HM.out.symm, rfl⟩
        · have h16 : ((k : Int) == 16) = true := by rw [beq_iff_eq]; omega
          have HM := Lib.hid (show (p1, p2) = (-2, 0) from HBad.out (by
            have h0 : t = s.data.toList.drop k := by have := HR.out; rwa [show j = 0 by omega, List.drop_zero] at this
            rw [h0, hdrT_none _ HHd.out, if_neg]
            rw [List.drop_eq_nil_iff, ← Lib.size_eq]; omega))
          go_wp2
          go_ret2
          exact ⟨ret_ii HM.out.symm, rfl⟩
    · have hkk := Lib.hid (show k = s.size by omega)
      have HR := Lib.hid (show t.drop j = [] by rw [List.drop_eq_nil_iff]; omega)
      have HM := Lib.hid (show (p1, p2) = (-1, 0) from HMore.out (by
        by_cases hj0 : 1 ≤ j
        · rw [HS.out.split hj0, HR.out, hdrT_exit n [] hn (by simp)]; simp
        · have h0 : t = [] := by have := HR.out; rwa [show j = 0 by omega, List.drop_zero] at this
          rw [h0, hdrT_none [] (by simp)]; rfl))
      have hd : decide ((k : Int) < (s.size : Int)) = false := by simp; omega
      have hex : (s.extract k s.size).toList.isEmpty = true := by
        rw [Lib.toList_data, ext_end, hkk.out, Lib.size_eq, List.drop_length]; rfl
      go_wp2
      go_ret2
      exact ⟨ret_ii HM.out.symm, rfl⟩
end Go.Proofs.YthooajbhiikbfaaGreatDoor
