/- A part of the proofs of the statements of emendatelaw55 (layer protocol): the reference's number. Conditions: those that stand in each theorem, no other. -/
import Derived.Test.YthooajbhiikbfaaGreatDoorEmI
namespace Go.Proofs.YthooajbhiikbfaaGreatDoor
open Go Go.RowKit Em

def NumRBad (w : World) (e : Ending) (w' : World) : Prop :=
  ∃ n : Int, e = .returned (.tuple #[.int .i64 n, .bool false]) ∧ Below w.heap.size w w'

theorem wrap_w (n : Int) : wrap64 n = w64 n := by unfold wrap64 w64; rfl
theorem drop_getD (l : Bytes) (a j : Nat) : (l.drop a).getD j 0 = l.getD (a + j) 0 := by
  simp [List.getD_eq_getElem?_getD]
theorem accL_take (l : Bytes) (k : Nat) (hk : k < l.length) : accL 0 (l.take (k + 1)) = accN (accL 0 (l.take k)) (l.getD k 0) := by
  unfold accL
  rw [List.take_succ_eq_append_getElem hk, List.foldl_append, List.getD_eq_getElem?_getD, List.getElem?_eq_getElem hk]; rfl
theorem all_dig_take (l : Bytes) (k : Nat) (hk : k < l.length) (h : (l.take k).all isDig = true) (hb : isDig (l.getD k 0) = true) : (l.take (k + 1)).all isDig = true := by
  rw [List.take_succ_eq_append_getElem hk, List.all_append, h]
  rw [List.getD_eq_getElem?_getD, List.getElem?_eq_getElem hk] at hb
  simp at hb
  simp [hb]
theorem all_dig_bad (l : Bytes) (k : Nat) (hk : k < l.length) (hb : isDig (l.getD k 0) = false) : l.all isDig = false := by
  cases h : l.all isDig with
  | false => rfl
  | true =>
    rw [List.all_eq_true] at h
    rw [List.getD_eq_getElem?_getD, List.getElem?_eq_getElem hk, Option.getD_some, h _ (List.getElem_mem hk)] at hb
    cases hb
theorem accL_inR0 (l : Bytes) : inR (accL 0 l) := accL_inR l 0 (by unfold inR; omega)

/-- What is known of the string: its digits are b, behind a bytes. -/
structure NumEnv (s : ByteArray) (a : Nat) (b : Bytes) : Prop where
  at_ : ∀ j (h : a + j < s.size), b.getD j 0 = s[a + j]
  len : b.length + a = s.size

theorem NumEnv.of (s : ByteArray) (a : Nat) (h : a ≤ s.size) : NumEnv s a (s.data.toList.drop a) where
  at_ := fun j h => by rw [drop_getD, getD_at s (a + j) h]
  len := by rw [List.length_drop, ← Lib.size_eq]; omega

theorem NumEnv.dig {s : ByteArray} {a : Nat} {b : Bytes} (E : NumEnv s a b) (j i : Nat) (hi : i = a + j) (h : i < s.size) :
    isDig (b.getD j 0) = (!(decide ((s[i].toNat : Int) < 48)) && !(decide ((57:Int) < (s[i].toNat : Int)))) := by
  subst hi; rw [E.at_ j h]; rfl
theorem NumEnv.step {s : ByteArray} {a : Nat} {b : Bytes} (E : NumEnv s a b) (j i : Nat) (hi : i = a + j) (h : i < s.size) :
    accL 0 (b.take (j + 1)) = wrap64 (wrap64 (10 * accL 0 (b.take j)) - ((s[i].toNat : Int) - 48)) := by
  subst hi; rw [accL_take b j (by have := E.len; omega), E.at_ j h]; unfold accN; rw [wrap_w, wrap_w]

theorem hd_not (s : ByteArray) (hs : 1 ≤ s.size) (h : s.data.toList.getD 0 0 ≠ 45) : ¬ s.data.toList.head? = some 45 := by
  cases hl : s.data.toList with
  | nil => have := Lib.size_eq s; rw [hl] at this; simp only [List.length_nil] at this; omega
  | cons c r => rw [hl] at h; simpa using h
theorem hd_yes (s : ByteArray) (hs : 1 ≤ s.size) (h : s.data.toList.getD 0 0 = 45) : s.data.toList.head? = some 45 := by
  cases hl : s.data.toList with
  | nil => have := Lib.size_eq s; rw [hl] at this; simp only [List.length_nil] at this; omega
  | cons c r => rw [hl] at h; simpa using h

theorem refOk_len {s : ByteArray} (h : 20 < s.size) : refOk s.data.toList = false := by
  unfold refOk; rw [← Lib.size_eq]; simp [Nat.not_le.2 h]

set_option maxRecDepth 100000 in
set_option maxHeartbeats 1000000 in
theorem numberR_minus (s : ByteArray) (hs : 1 ≤ s.size) (h45 : s.data.toList.getD 0 0 = 45) (h20 : s.size ≤ 20) (hne : 1 < s.size) (w : World) :
    Calls Tryz.prog 72 #[.string s] w fun e w' => if refOk s.data.toList = true then (e = .returned (.tuple #[.int .i64 (refVal s.data.toList), .bool true]) ∧ Below w.heap.size w w') else NumRBad w e w' := by
  have hhd := hd_yes s hs h45
  have hbody : numBody s.data.toList = s.data.toList.drop 1 := by unfold numBody; rw [if_pos hhd]; simp
  have hval : refVal s.data.toList = accL 0 (s.data.toList.drop 1) := by unfold refVal; rw [if_pos hhd]; rw [hbody]
  have hb0 : ((s[0].toNat : Int) == 45) = true := by
    rw [← getD_at s 0 (by omega)]
    rw [h45]; rfl
  have hl2 : s.data.toList.length = s.size := (Lib.size_eq s).symm
  have hok : refOk s.data.toList = ((s.data.toList.drop 1).all isDig && (Lib.itoa (refVal s.data.toList) == s.data.toList)) := by
    unfold refOk
    rw [hbody, hl2]
    have h1 : ¬ s.data.toList.drop 1 = [] := by rw [List.drop_eq_nil_iff, hl2]; omega
    simp only [ne_eq, h1, h20, not_false_eq_true, decide_true, Bool.true_and]
  have E := NumEnv.of s 1 (by omega)
  have hne2 : ((s.size : Int) == 1) = false := by rw [beq_eq_false_iff_ne]; omega
  obtain ⟨b, hbe⟩ : ∃ b, s.data.toList.drop 1 = b := ⟨_, rfl⟩
  rw [hbe] at hval hok E
  obtain ⟨v, hv⟩ : ∃ v, refVal s.data.toList = v := ⟨_, rfl⟩
  have hvr : inR v := by rw [← hv]; exact refVal_inR _
  rw [hv] at hval hok ⊢
  have hlE := E.len
  have HE := Lib.hid E
  have HV := Lib.hid hval
  have HO := Lib.hid hok
  clear hbody hhd hl2 hbe hv hval hok h45 E
  obtain ⟨ok, hoke⟩ : ∃ ok, refOk s.data.toList = ok := ⟨_, rfl⟩
  rw [hoke] at HO ⊢
  clear hoke
  go_enter Tryz.func72, Tryz.ntmps72
  go_wp2
  go_loop [4, 5] (fun t i => ∃ j k : Nat, k = 1 + j ∧ j ≤ b.length ∧ i = .int .i64 k ∧ t = .int .i64 (accL 0 (b.take j)) ∧ (b.take j).all isDig = true) (fun _ i => s.size - (intOf i).toNat)
  case atStart => exact ⟨0, 1, rfl, Nat.zero_le _, rfl, by simp [accL], by simp⟩
  case round =>
    obtain ⟨j, i, hi, hj, rfl, rfl, hall⟩ := hrel
    have HA := Lib.hid hall
    have HI' := Lib.hid hi
    have hi1 : i ≤ 1 + j := by omega
    have hi2 : 1 + j ≤ i := by omega
    clear hall hi
    by_cases hlt : i < s.size
    · have HD := Lib.hid (HE.out.dig j i HI'.out hlt)
      have HS := Lib.hid (HE.out.step j i HI'.out hlt)
      have hjb : j < b.length := by omega
      obtain ⟨acc, hacc⟩ : ∃ acc, accL 0 (b.take j) = acc := ⟨_, rfl⟩
      rw [hacc] at HS ⊢
      clear hacc
      by_cases h1 : (s[i].toNat : Int) < 48
      · have HF := Lib.hid (show ok = false from by rw [HO.out, all_dig_bad b j hjb (by rw [HD.out]; simp [h1])]; rfl)
        have hf := HF.out
        subst hf
        go_wp2
        go_ret2
        exact ⟨_, rfl, Below.refl _ _⟩
      · by_cases h2 : (57 : Int) < (s[i].toNat : Int)
        · have HF := Lib.hid (show ok = false from by rw [HO.out, all_dig_bad b j hjb (by rw [HD.out]; simp [h2])]; rfl)
          have hf := HF.out
          subst hf
          go_wp2
          go_ret2
          exact ⟨_, rfl, Below.refl _ _⟩
        · have HT := Lib.hid (all_dig_take b j hjb HA.out (by rw [HD.out]; simp [h1, h2]))
          go_wp2
          go_round
          case rel => exact ⟨j + 1, i + 1, by omega, by omega, by go_num, by rw [HS.out], HT.out⟩
          case measure => simp [intOf]; omega
    · have hjl : b.length ≤ j := by omega
      have HB := Lib.hid (show b.take j = b from List.take_of_length_le hjl)
      rw [HB.out]
      have hD := HA.out
      rw [HB.out] at hD
      have HO2 := Lib.hid (show ok = (Lib.itoa v == s.data.toList) from by rw [HO.out, hD, Bool.true_and])
      have HI := Lib.hid (integer_any v hvr w)
      have hv := HV.out
      subst hv
      clear hD
      by_cases hq : (Lib.itoa (accL 0 b) == s.data.toList) = true
      · have hs : S (Lib.itoa (accL 0 b)) = s := by rw [beq_iff_eq] at hq; rw [hq]
        have hokt : ok = true := by rw [HO2.out, hq]
        subst hokt
        rw [hs] at HI
        clear hq hs
        go_wp2_with (go_at_call 45; refine HI.out.mono ?_; rintro e w1 ⟨rfl, hb1⟩)
        go_ret2
        exact ⟨rfl, hb1⟩
      · have hokf : ok = false := by rw [HO2.out]; simpa using hq
        subst hokf
        obtain ⟨T, hT⟩ : ∃ T : ByteArray, S (Lib.itoa (accL 0 b)) = T := ⟨_, rfl⟩
        have hts : (T.toList == s.toList) = false := by
          rw [← hT, Lib.toList_data, Lib.toList_data, S_list]; simpa using hq
        rw [hT] at HI
        clear hq hT
        go_wp2_with (go_at_call 45; refine HI.out.mono ?_; rintro e w1 ⟨rfl, hb1⟩)
        go_ret2
        exact ⟨_, rfl, hb1⟩

set_option maxRecDepth 100000 in
set_option maxHeartbeats 1000000 in
theorem numberR_plus (s : ByteArray) (hs : 1 ≤ s.size) (h45 : s.data.toList.getD 0 0 ≠ 45) (h20 : s.size ≤ 20) (hne : 0 < s.size) (w : World) :
    Calls Tryz.prog 72 #[.string s] w fun e w' => if refOk s.data.toList = true then (e = .returned (.tuple #[.int .i64 (refVal s.data.toList), .bool true]) ∧ Below w.heap.size w w') else NumRBad w e w' := by
  have hhd := hd_not s hs h45
  have hbody : numBody s.data.toList = s.data.toList.drop 0 := by unfold numBody; rw [if_neg hhd]; simp
  have hval : refVal s.data.toList = w64 (-(accL 0 (s.data.toList.drop 0))) := by unfold refVal; rw [if_neg hhd]; rw [hbody]
  have hb0 : ((s[0].toNat : Int) == 45) = false := by
    rw [← getD_at s 0 (by omega)]
    have : ¬ (s.data.toList.getD 0 0).toNat = 45 := fun h => h45 (by apply UInt8.toNat_inj.1; rw [h]; rfl)
    rw [beq_eq_false_iff_ne]; omega
  have hl2 : s.data.toList.length = s.size := (Lib.size_eq s).symm
  have hok : refOk s.data.toList = ((s.data.toList.drop 0).all isDig && (Lib.itoa (refVal s.data.toList) == s.data.toList)) := by
    unfold refOk
    rw [hbody, hl2]
    have h1 : ¬ s.data.toList.drop 0 = [] := by rw [List.drop_eq_nil_iff, hl2]; omega
    simp only [ne_eq, h1, h20, not_false_eq_true, decide_true, Bool.true_and]
  have E := NumEnv.of s 0 (by omega)
  have hne2 : ((s.size : Int) == 0) = false := by rw [beq_eq_false_iff_ne]; omega
  obtain ⟨b, hbe⟩ : ∃ b, s.data.toList.drop 0 = b := ⟨_, rfl⟩
  rw [hbe] at hval hok E
  obtain ⟨v, hv⟩ : ∃ v, refVal s.data.toList = v := ⟨_, rfl⟩
  have hvr : inR v := by rw [← hv]; exact refVal_inR _
  rw [hv] at hval hok ⊢
  have hlE := E.len
  have HE := Lib.hid E
  have HV := Lib.hid hval
  have HO := Lib.hid hok
  clear hbody hhd hl2 hbe hv hval hok h45 E
  obtain ⟨ok, hoke⟩ : ∃ ok, refOk s.data.toList = ok := ⟨_, rfl⟩
  rw [hoke] at HO ⊢
  clear hoke
  go_enter Tryz.func72, Tryz.ntmps72
  go_wp2
  go_loop [4, 5] (fun t i => ∃ j k : Nat, k = 0 + j ∧ j ≤ b.length ∧ i = .int .i64 k ∧ t = .int .i64 (accL 0 (b.take j)) ∧ (b.take j).all isDig = true) (fun _ i => s.size - (intOf i).toNat)
  case atStart => exact ⟨0, 0, rfl, Nat.zero_le _, rfl, by simp [accL], by simp⟩
  case round =>
    obtain ⟨j, i, hi, hj, rfl, rfl, hall⟩ := hrel
    have HA := Lib.hid hall
    have HI' := Lib.hid hi
    have hi1 : i ≤ 0 + j := by omega
    have hi2 : 0 + j ≤ i := by omega
    clear hall hi
    by_cases hlt : i < s.size
    · have HD := Lib.hid (HE.out.dig j i HI'.out hlt)
      have HS := Lib.hid (HE.out.step j i HI'.out hlt)
      have hjb : j < b.length := by omega
      obtain ⟨acc, hacc⟩ : ∃ acc, accL 0 (b.take j) = acc := ⟨_, rfl⟩
      rw [hacc] at HS ⊢
      clear hacc
      by_cases h1 : (s[i].toNat : Int) < 48
      · have HF := Lib.hid (show ok = false from by rw [HO.out, all_dig_bad b j hjb (by rw [HD.out]; simp [h1])]; rfl)
        have hf := HF.out
        subst hf
        go_wp2
        go_ret2
        exact ⟨_, rfl, Below.refl _ _⟩
      · by_cases h2 : (57 : Int) < (s[i].toNat : Int)
        · have HF := Lib.hid (show ok = false from by rw [HO.out, all_dig_bad b j hjb (by rw [HD.out]; simp [h2])]; rfl)
          have hf := HF.out
          subst hf
          go_wp2
          go_ret2
          exact ⟨_, rfl, Below.refl _ _⟩
        · have HT := Lib.hid (all_dig_take b j hjb HA.out (by rw [HD.out]; simp [h1, h2]))
          go_wp2
          go_round
          case rel => exact ⟨j + 1, i + 1, by omega, by omega, by go_num, by rw [HS.out], HT.out⟩
          case measure => simp [intOf]; omega
    · have hjl : b.length ≤ j := by omega
      have HB := Lib.hid (show b.take j = b from List.take_of_length_le hjl)
      rw [HB.out]
      have hD := HA.out
      rw [HB.out] at hD
      have HO2 := Lib.hid (show ok = (Lib.itoa v == s.data.toList) from by rw [HO.out, hD, Bool.true_and])
      have HI := Lib.hid (integer_any v hvr w)
      have hv := HV.out
      rw [← wrap_w] at hv; subst hv
      clear hD
      by_cases hq : (Lib.itoa (wrap64 (-(accL 0 b))) == s.data.toList) = true
      · have hs : S (Lib.itoa (wrap64 (-(accL 0 b)))) = s := by rw [beq_iff_eq] at hq; rw [hq]
        have hokt : ok = true := by rw [HO2.out, hq]
        subst hokt
        rw [hs] at HI
        clear hq hs
        go_wp2_with (go_at_call 45; refine HI.out.mono ?_; rintro e w1 ⟨rfl, hb1⟩)
        go_ret2
        exact ⟨rfl, hb1⟩
      · have hokf : ok = false := by rw [HO2.out]; simpa using hq
        subst hokf
        obtain ⟨T, hT⟩ : ∃ T : ByteArray, S (Lib.itoa (wrap64 (-(accL 0 b)))) = T := ⟨_, rfl⟩
        have hts : (T.toList == s.toList) = false := by
          rw [← hT, Lib.toList_data, Lib.toList_data, S_list]; simpa using hq
        rw [hT] at HI
        clear hq hT
        go_wp2_with (go_at_call 45; refine HI.out.mono ?_; rintro e w1 ⟨rfl, hb1⟩)
        go_ret2
        exact ⟨_, rfl, hb1⟩
end Go.Proofs.YthooajbhiikbfaaGreatDoor
