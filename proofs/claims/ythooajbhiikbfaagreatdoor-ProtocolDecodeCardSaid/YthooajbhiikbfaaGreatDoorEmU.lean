/- A part of the proofs of the statements of emendatelaw55 (layer protocol): header. Conditions: those that stand in each theorem, no other. -/
import Derived.Test.YthooajbhiikbfaaGreatDoorEmT
import Derived.Deep.DeepCutAuto
import Derived.Deep.CutBlock
namespace Go.Proofs.YthooajbhiikbfaaGreatDoor
open Go Go.RowKit Em

/-- what header returns -/
def HdrPost (l : Bytes) (w : World) (e : Ending) (w' : World) : Prop :=
  match hdr l with
  | .more => ∃ t : ByteArray, e = .returned (.tuple #[.int .i64 0, .string t, .bool false, .bool true]) ∧ Below w.heap.size w w'
  | .bad => ∃ (n : Int) (t : ByteArray), e = .returned (.tuple #[.int .i64 n, .string t, .bool false, .bool false]) ∧ Below w.heap.size w w'
  | .ok n r => e = .returned (.tuple #[.int .i64 n, .string (S r), .bool true, .bool false]) ∧ Below w.heap.size w w'
theorem HdrPost.more {l : Bytes} {w w' : World} {t : ByteArray} (h : hdr l = .more) (hb : Below w.heap.size w w') : HdrPost l w (.returned (.tuple #[.int .i64 0, .string t, .bool false, .bool true])) w' := by
  unfold HdrPost; rw [h]; exact ⟨t, rfl, hb⟩
theorem HdrPost.bad {l : Bytes} {w w' : World} {n : Int} {t : ByteArray} (h : hdr l = .bad) (hb : Below w.heap.size w w') : HdrPost l w (.returned (.tuple #[.int .i64 n, .string t, .bool false, .bool false])) w' := by
  unfold HdrPost; rw [h]; exact ⟨n, t, rfl, hb⟩
theorem HdrPost.good {l : Bytes} {w w' : World} {n : Nat} {r : Bytes} (h : hdr l = .ok n r) (hb : Below w.heap.size w w') : HdrPost l w (.returned (.tuple #[.int .i64 n, .string (S r), .bool true, .bool false])) w' := by
  unfold HdrPost; rw [h]; exact ⟨rfl, hb⟩

theorem results_tmp4 {fn : Func} {t u v x : Tmp} (h : fn.results = #[.tmp t, .tmp u, .tmp v, .tmp x]) (tmps : Array Value) (P : Program) (w : World) :
    (results fn tmps).run P w = .ok (.tuple #[tmps.getD t undef, tmps.getD u undef, tmps.getD v undef, tmps.getD x undef]) w := by simp [results, h]

theorem hasPrefix_is (s p : ByteArray) (b : Bool) (h : p.data.toList.isPrefixOf s.data.toList = b) (w : World) :
    Calls Tryz.prog 34 #[.string s, .string p] w fun e w' => e = .returned (.bool b) ∧ w = w' := by
  refine (Tryz.strings_HasPrefix s p w).mono ?_
  rintro e w' ⟨rfl, rfl⟩
  unfold Lib.hasPrefix; rw [h]; exact ⟨rfl, rfl⟩
theorem cutPrefix_no (s p : ByteArray) (h : p.data.toList.isPrefixOf s.data.toList = false) (w : World) :
    Calls Tryz.prog 35 #[.string s, .string p] w fun e w' => e = .returned (.tuple #[.string s, .bool false]) ∧ w = w' := by
  refine (Tryz.strings_CutPrefix s p w).mono ?_
  rintro e w' ⟨rfl, rfl⟩
  unfold Lib.trimPrefix Lib.hasPrefix; rw [h]; exact ⟨rfl, rfl⟩
theorem cutPrefix_yes (s p : ByteArray) (t : Bytes) (h : p.data.toList.isPrefixOf s.data.toList = true) (ht : s.data.toList.drop p.size = t) (w : World) :
    Calls Tryz.prog 35 #[.string s, .string p] w fun e w' => e = .returned (.tuple #[.string (S t), .bool true]) ∧ w = w' := by
  refine (Tryz.strings_CutPrefix s p w).mono ?_
  rintro e w' ⟨rfl, rfl⟩
  unfold Lib.trimPrefix Lib.hasPrefix; rw [h, if_pos rfl, ← Lib.size_eq, ht]; exact ⟨rfl, rfl⟩

set_option maxRecDepth 100000 in
set_option maxHeartbeats 400000 in
theorem header_short (s : ByteArray) (hs : s.size < 16) (w : World) :
    Calls Tryz.prog 24 #[.string s] w (HdrPost s.data.toList w) := by
  have hl : s.data.toList.length < 16 := by rw [← Lib.size_eq]; exact hs
  cases hp : s.data.toList.isPrefixOf pre with
  | true =>
    have hb := Lib.hid (hasPrefix_is preB s true hp w)
    have HP := Lib.hid (show hdr s.data.toList = .more by unfold hdr; rw [if_pos hl, hp]; rfl)
    unfold preB at hb
    clear hp hl
    go_enter Tryz.func24, Tryz.ntmps24
    go_wp2_with (go_at_call 34; refine hb.out.mono ?_; rintro e w1 ⟨rfl, rfl⟩)
    refine bodyPost_ret (results_tmp4 rfl _ _ _) rfl ?_
    exact HdrPost.more HP.out (Below.refl _ _)
  | false =>
    have hb := Lib.hid (hasPrefix_is preB s false hp w)
    have HP := Lib.hid (show hdr s.data.toList = .bad by unfold hdr; rw [if_pos hl, hp]; rfl)
    unfold preB at hb
    clear hp hl
    go_enter Tryz.func24, Tryz.ntmps24
    go_wp2_with (go_at_call 34; refine hb.out.mono ?_; rintro e w1 ⟨rfl, rfl⟩)
    refine bodyPost_ret (results_tmp4 rfl _ _ _) rfl ?_
    exact HdrPost.bad HP.out (Below.refl _ _)

set_option maxRecDepth 100000 in
set_option maxHeartbeats 400000 in
theorem header_not (s : ByteArray) (hs : 16 ≤ s.size) (hx : s.size ≤ 90000000) (hp : pre.isPrefixOf s.data.toList = false) (w : World) :
    Calls Tryz.prog 24 #[.string s] w (HdrPost s.data.toList w) := by
  have hl : ¬ s.data.toList.length < 16 := by rw [← Lib.size_eq]; omega
  have hb := Lib.hid (cutPrefix_no s preB hp w)
  have HP := Lib.hid (show hdr s.data.toList = .bad by unfold hdr; rw [if_neg hl, hp]; rfl)
  unfold preB at hb
  clear hp hl
  go_enter Tryz.func24, Tryz.ntmps24
  go_wp2_with (go_at_call 35; refine hb.out.mono ?_; rintro e w1 ⟨rfl, rfl⟩)
  refine bodyPost_ret (results_tmp4 rfl _ _ _) rfl ?_
  exact HdrPost.bad HP.out (Below.refl _ _)

theorem decimal_n (s : ByteArray) (hs : s.size ≤ 90000000) {x : Bytes} (hx : s.data.toList = x) {n : Int} (ho : num? x = some n) (w : World) (hE : Env w) :
    Calls Tryz.prog 36 #[.string s] w fun e w' => e = .returned (.tuple #[.int .i64 n, .bool true]) ∧ Below w.heap.size w w' :=
  decimal_ok s n (by rw [hx]; exact ho) (by omega) w hE
theorem decimal_z (s : ByteArray) (hs : s.size ≤ 90000000) {x : Bytes} (hx : s.data.toList = x) (ho : num? x = none) (w : World) (hE : Env w) :
    Calls Tryz.prog 36 #[.string s] w (DecBad w) :=
  decimal_bad s (by rw [hx]; exact ho) (by omega) w hE

/-- behind the prefix: the digits and what follows -/
structure UEnv (s : ByteArray) (T : ByteArray) (K : Nat) : Prop where
  hp : pre.isPrefixOf s.data.toList = true
  hd : s.data.toList.drop 16 = T.data.toList
  sz : T.size + 16 = s.size
  lt : s.size ≤ 90000000
  k_ : dg T.data.toList = K
  kl : K ≤ T.size
  k6 : K ≤ 6
  in_ : ∀ j (hj : j < T.size), j < K → digB (T[j]'hj) = true
  out_ : ∀ (hj : K < T.size), K < 6 → digB (T[K]'hj) = false
  h : hdr s.data.toList = hdrT T.data.toList

theorem UEnv.of (s : ByteArray) (hs : 16 ≤ s.size) (hx : s.size ≤ 90000000) (hp : pre.isPrefixOf s.data.toList = true) : ∃ T K, UEnv s T K := by
  obtain ⟨t, ht⟩ : ∃ t, s.data.toList.drop 16 = t := ⟨_, rfl⟩
  have hhd : hdr s.data.toList = hdrT t := by
    unfold hdr; rw [if_neg (by rw [← Lib.size_eq]; omega), hp, if_pos rfl, ht]
  have htl : t.length + 16 = s.size := by rw [← ht, List.length_drop, ← Lib.size_eq]; omega
  have hTl : (S t).data.toList = t := S_list t
  have hTs : (S t).size = t.length := S_size t
  refine ⟨S t, dg t, hp, by rw [hTl]; exact ht, by rw [hTs]; exact htl, hx, by rw [hTl], by rw [hTs]; exact dg_le t, by unfold dg; omega, fun j hj hjk => ?_, fun hj h6 => ?_, by rw [hTl]; exact hhd⟩
  · rw [← getD_at (S t) j hj, hTl]; exact dg_in t hjk
  · rw [← getD_at (S t) _ hj, hTl]; exact dg_out t (by rw [← hTs]; exact hj) h6

theorem UEnv.call {s T : ByteArray} {K : Nat} (E : UEnv s T K) (w : World) :
    Calls Tryz.prog 35 #[.string s, .string ⟨#[67, 111, 110, 116, 101, 110, 116, 45, 76, 101, 110, 103, 116, 104, 58, 32]⟩] w fun e w' => e = .returned (.tuple #[.string T, .bool true]) ∧ w = w' :=
  cutPrefix_yes s preB T.data.toList E.hp E.hd w
theorem UEnv.cut {s T : ByteArray} {K : Nat} (_ : UEnv s T K) : (T.extract 0 K).data.toList = T.data.toList.take K := by rw [ext_list]; simp
theorem UEnv.cuts {s T : ByteArray} {K : Nat} (E : UEnv s T K) : (T.extract 0 K).size ≤ 90000000 := by
  rw [Lib.size_eq, E.cut, List.length_take]; have := E.sz; have := E.lt; have := E.kl; omega
theorem UEnv.rest {s T : ByteArray} {K : Nat} (_ : UEnv s T K) : (T.extract K T.size).data.toList = T.data.toList.drop K := ext_end T K
theorem UEnv.rests {s T : ByteArray} {K : Nat} (E : UEnv s T K) : (T.extract K T.size).size = T.size - K := by rw [Lib.size_eq, E.rest, List.length_drop, ← Lib.size_eq]

set_option maxRecDepth 100000 in
set_option maxHeartbeats 1000000 in
theorem header_z1 (s T : ByteArray) (K : Nat) (E : UEnv s T K) (hK : K = 0) (h0 : T.data.toList = []) (w : World) (hE : Env w) :
    Calls Tryz.prog 24 #[.string s] w (HdrPost s.data.toList w) := by
  have hb := Lib.hid (E.call w)
  have HIN := Lib.hid E.in_
  have HOUT := Lib.hid E.out_
  have hKl := E.kl
  have hK6 := E.k6
  have hTs : T.size ≤ 90000000 := by have := E.sz; have := E.lt; omega
  have hs16 : ¬ s.size < 16 := by have := E.sz; omega
  have HP := Lib.hid (show hdr s.data.toList = .more by rw [E.h, hdrT_dg0 _ (by rw [E.k_]; exact hK), if_pos h0])
  have hem : T.toList.isEmpty = true := by rw [Lib.toList_data, h0]; rfl
  have HK0 := Lib.hid (show ((K : Int) == 0) = true by rw [beq_iff_eq]; omega)
  clear h0 hK
  clear E
  go_enter Tryz.func24, Tryz.ntmps24
  go_upto_block 0 with (go_at_call 35; refine hb.out.mono ?_; rintro e w1 ⟨rfl, rfl⟩)
  go_cut [7] (fun i wx => i = .int .i64 K ∧ wx = w)
  case first =>
    go_wp2
    go_loop [7] (fun i => ∃ k : Nat, k ≤ K ∧ i = .int .i64 k) (fun i => K - (intOf i).toNat)
    case atStart => exact ⟨0, Nat.zero_le _, rfl⟩
    case round =>
      obtain ⟨k, hk, rfl⟩ := hrel
      by_cases hlt : k < K
      · have hkT : k < T.size := by omega
        have hd := HIN.out k hkT hlt
        rw [digB_int] at hd
        simp only [Bool.and_eq_true, decide_eq_true_eq] at hd
        obtain ⟨hd1, hd2⟩ := hd
        go_wp2
        go_round
        case rel => exact ⟨k + 1, by omega, by go_num⟩
        case measure => (simp [intOf]; try omega)
      · have hkK : k = K := by omega
        subst hkK
        by_cases hkT : k < T.size
        · by_cases h6 : k < 6
          · have hd := HOUT.out hkT h6
            rw [digB_int] at hd
            by_cases c1 : (48 : Int) ≤ ((T[k]'hkT).toNat : Int)
            · have c2 : ¬ ((T[k]'hkT).toNat : Int) ≤ 57 := by
                intro c2; rw [decide_eq_true c1, decide_eq_true c2] at hd; cases hd
              clear hd
              go_wp2
              go_meet
              exact ⟨rfl, rfl⟩
            · clear hd
              go_wp2
              go_meet
              exact ⟨rfl, rfl⟩
          · have h6' : k = 6 := by omega
            by_cases c1 : (48 : Int) ≤ ((T[k]'hkT).toNat : Int)
            · by_cases c2 : ((T[k]'hkT).toNat : Int) ≤ 57
              · clear h6'
                go_wp2
                go_meet
                exact ⟨rfl, rfl⟩
              · clear h6'
                go_wp2
                go_meet
                exact ⟨rfl, rfl⟩
            · clear h6'
              go_wp2
              go_meet
              exact ⟨rfl, rfl⟩
        · have hdk : decide ((k : Int) < (T.size : Int)) = false := decide_eq_false (by omega)
          go_wp2
          go_meet
          exact ⟨rfl, rfl⟩
  case rest =>
    obtain ⟨rfl, rfl⟩ := hcut
    have hk0 := HK0.out
    go_wp2
    refine bodyPost_ret (results_tmp4 rfl _ _ _) rfl ?_
    exact HdrPost.more HP.out (Below.refl _ _)

set_option maxRecDepth 100000 in
set_option maxHeartbeats 1000000 in
theorem header_z2 (s T : ByteArray) (K : Nat) (E : UEnv s T K) (hK : K = 0) (h0 : T.data.toList ≠ []) (w : World) (hE : Env w) :
    Calls Tryz.prog 24 #[.string s] w (HdrPost s.data.toList w) := by
  have hb := Lib.hid (E.call w)
  have HIN := Lib.hid E.in_
  have HOUT := Lib.hid E.out_
  have hKl := E.kl
  have hK6 := E.k6
  have hTs : T.size ≤ 90000000 := by have := E.sz; have := E.lt; omega
  have hs16 : ¬ s.size < 16 := by have := E.sz; omega
  have HP := Lib.hid (show hdr s.data.toList = .bad by rw [E.h, hdrT_dg0 _ (by rw [E.k_]; exact hK), if_neg h0])
  have hem : T.toList.isEmpty = false := by
    rw [Lib.toList_data]
    cases hq : T.data.toList with
    | nil => exact absurd hq h0
    | cons a b => rfl
  have HK0 := Lib.hid (show ((K : Int) == 0) = true by rw [beq_iff_eq]; omega)
  clear h0 hK
  clear E
  go_enter Tryz.func24, Tryz.ntmps24
  go_upto_block 0 with (go_at_call 35; refine hb.out.mono ?_; rintro e w1 ⟨rfl, rfl⟩)
  go_cut [7] (fun i wx => i = .int .i64 K ∧ wx = w)
  case first =>
    go_wp2
    go_loop [7] (fun i => ∃ k : Nat, k ≤ K ∧ i = .int .i64 k) (fun i => K - (intOf i).toNat)
    case atStart => exact ⟨0, Nat.zero_le _, rfl⟩
    case round =>
      obtain ⟨k, hk, rfl⟩ := hrel
      by_cases hlt : k < K
      · have hkT : k < T.size := by omega
        have hd := HIN.out k hkT hlt
        rw [digB_int] at hd
        simp only [Bool.and_eq_true, decide_eq_true_eq] at hd
        obtain ⟨hd1, hd2⟩ := hd
        go_wp2
        go_round
        case rel => exact ⟨k + 1, by omega, by go_num⟩
        case measure => (simp [intOf]; try omega)
      · have hkK : k = K := by omega
        subst hkK
        by_cases hkT : k < T.size
        · by_cases h6 : k < 6
          · have hd := HOUT.out hkT h6
            rw [digB_int] at hd
            by_cases c1 : (48 : Int) ≤ ((T[k]'hkT).toNat : Int)
            · have c2 : ¬ ((T[k]'hkT).toNat : Int) ≤ 57 := by
                intro c2; rw [decide_eq_true c1, decide_eq_true c2] at hd; cases hd
              clear hd
              go_wp2
              go_meet
              exact ⟨rfl, rfl⟩
            · clear hd
              go_wp2
              go_meet
              exact ⟨rfl, rfl⟩
          · have h6' : k = 6 := by omega
            by_cases c1 : (48 : Int) ≤ ((T[k]'hkT).toNat : Int)
            · by_cases c2 : ((T[k]'hkT).toNat : Int) ≤ 57
              · clear h6'
                go_wp2
                go_meet
                exact ⟨rfl, rfl⟩
              · clear h6'
                go_wp2
                go_meet
                exact ⟨rfl, rfl⟩
            · clear h6'
              go_wp2
              go_meet
              exact ⟨rfl, rfl⟩
        · have hdk : decide ((k : Int) < (T.size : Int)) = false := decide_eq_false (by omega)
          go_wp2
          go_meet
          exact ⟨rfl, rfl⟩
  case rest =>
    obtain ⟨rfl, rfl⟩ := hcut
    have hk0 := HK0.out
    go_wp2
    refine bodyPost_ret (results_tmp4 rfl _ _ _) rfl ?_
    exact HdrPost.bad HP.out (Below.refl _ _)

set_option maxRecDepth 100000 in
set_option maxHeartbeats 1000000 in
theorem header_none (s T : ByteArray) (K : Nat) (E : UEnv s T K) (hK : 1 ≤ K) (hn : num? (T.data.toList.take K) = none) (w : World) (hE : Env w) :
    Calls Tryz.prog 24 #[.string s] w (HdrPost s.data.toList w) := by
  have hb := Lib.hid (E.call w)
  have HIN := Lib.hid E.in_
  have HOUT := Lib.hid E.out_
  have hKl := E.kl
  have hK6 := E.k6
  have hTs : T.size ≤ 90000000 := by have := E.sz; have := E.lt; omega
  have hs16 : ¬ s.size < 16 := by have := E.sz; omega
  have hh := hdrT_dg T.data.toList (by rw [E.k_]; exact hK)
  rw [E.k_] at hh
  have hk0 : ((K : Int) == 0) = false := by rw [beq_eq_false_iff_ne]; omega
  rw [hn] at hh
  have HP := Lib.hid (show hdr s.data.toList = .bad by rw [E.h, hh])
  have HD := Lib.hid (fun W hW => decimal_z (T.extract 0 K) E.cuts E.cut hn W hW)
  clear hh hn
  clear E
  go_enter Tryz.func24, Tryz.ntmps24
  go_upto_block 0 with (go_at_call 35; refine hb.out.mono ?_; rintro e w1 ⟨rfl, rfl⟩)
  go_cut [7] (fun i wx => i = .int .i64 K ∧ wx = w)
  case first =>
    go_wp2
    go_loop [7] (fun i => ∃ k : Nat, k ≤ K ∧ i = .int .i64 k) (fun i => K - (intOf i).toNat)
    case atStart => exact ⟨0, Nat.zero_le _, rfl⟩
    case round =>
      obtain ⟨k, hk, rfl⟩ := hrel
      by_cases hlt : k < K
      · have hkT : k < T.size := by omega
        have hd := HIN.out k hkT hlt
        rw [digB_int] at hd
        simp only [Bool.and_eq_true, decide_eq_true_eq] at hd
        obtain ⟨hd1, hd2⟩ := hd
        go_wp2
        go_round
        case rel => exact ⟨k + 1, by omega, by go_num⟩
        case measure => (simp [intOf]; try omega)
      · have hkK : k = K := by omega
        subst hkK
        by_cases hkT : k < T.size
        · by_cases h6 : k < 6
          · have hd := HOUT.out hkT h6
            rw [digB_int] at hd
            by_cases c1 : (48 : Int) ≤ ((T[k]'hkT).toNat : Int)
            · have c2 : ¬ ((T[k]'hkT).toNat : Int) ≤ 57 := by
                intro c2; rw [decide_eq_true c1, decide_eq_true c2] at hd; cases hd
              clear hd
              go_wp2
              go_meet
              exact ⟨rfl, rfl⟩
            · clear hd
              go_wp2
              go_meet
              exact ⟨rfl, rfl⟩
          · have h6' : k = 6 := by omega
            by_cases c1 : (48 : Int) ≤ ((T[k]'hkT).toNat : Int)
            · by_cases c2 : ((T[k]'hkT).toNat : Int) ≤ 57
              · clear h6'
                go_wp2
                go_meet
                exact ⟨rfl, rfl⟩
              · clear h6'
                go_wp2
                go_meet
                exact ⟨rfl, rfl⟩
            · clear h6'
              go_wp2
              go_meet
              exact ⟨rfl, rfl⟩
        · have hdk : decide ((k : Int) < (T.size : Int)) = false := decide_eq_false (by omega)
          go_wp2
          go_meet
          exact ⟨rfl, rfl⟩
  case rest =>
    obtain ⟨rfl, rfl⟩ := hcut
    go_wp2_with (go_at_call 36; refine (HD.out _ hE).mono ?_; rintro e w1 ⟨n, rfl, hb1⟩)
    refine bodyPost_ret (results_tmp4 rfl _ _ _) rfl ?_
    exact HdrPost.bad HP.out hb1

set_option maxRecDepth 100000 in
set_option maxHeartbeats 1000000 in
theorem header_great (s T : ByteArray) (K : Nat) (E : UEnv s T K) (hK : 1 ≤ K) (n : Nat) (hn : num? (T.data.toList.take K) = some (n : Int)) (hg : 100000 < n) (w : World) (hE : Env w) :
    Calls Tryz.prog 24 #[.string s] w (HdrPost s.data.toList w) := by
  have hb := Lib.hid (E.call w)
  have HIN := Lib.hid E.in_
  have HOUT := Lib.hid E.out_
  have hKl := E.kl
  have hK6 := E.k6
  have hTs : T.size ≤ 90000000 := by have := E.sz; have := E.lt; omega
  have hs16 : ¬ s.size < 16 := by have := E.sz; omega
  have hh := hdrT_dg T.data.toList (by rw [E.k_]; exact hK)
  rw [E.k_] at hh
  have hk0 : ((K : Int) == 0) = false := by rw [beq_eq_false_iff_ne]; omega
  rw [hn] at hh
  simp only at hh
  rw [if_pos (by omega)] at hh
  have HP := Lib.hid (show hdr s.data.toList = .bad by rw [E.h, hh])
  have HD := Lib.hid (fun W hW => decimal_n (T.extract 0 K) E.cuts E.cut hn W hW)
  clear hh hn
  clear E
  go_enter Tryz.func24, Tryz.ntmps24
  go_upto_block 0 with (go_at_call 35; refine hb.out.mono ?_; rintro e w1 ⟨rfl, rfl⟩)
  go_cut [7] (fun i wx => i = .int .i64 K ∧ wx = w)
  case first =>
    go_wp2
    go_loop [7] (fun i => ∃ k : Nat, k ≤ K ∧ i = .int .i64 k) (fun i => K - (intOf i).toNat)
    case atStart => exact ⟨0, Nat.zero_le _, rfl⟩
    case round =>
      obtain ⟨k, hk, rfl⟩ := hrel
      by_cases hlt : k < K
      · have hkT : k < T.size := by omega
        have hd := HIN.out k hkT hlt
        rw [digB_int] at hd
        simp only [Bool.and_eq_true, decide_eq_true_eq] at hd
        obtain ⟨hd1, hd2⟩ := hd
        go_wp2
        go_round
        case rel => exact ⟨k + 1, by omega, by go_num⟩
        case measure => (simp [intOf]; try omega)
      · have hkK : k = K := by omega
        subst hkK
        by_cases hkT : k < T.size
        · by_cases h6 : k < 6
          · have hd := HOUT.out hkT h6
            rw [digB_int] at hd
            by_cases c1 : (48 : Int) ≤ ((T[k]'hkT).toNat : Int)
            · have c2 : ¬ ((T[k]'hkT).toNat : Int) ≤ 57 := by
                intro c2; rw [decide_eq_true c1, decide_eq_true c2] at hd; cases hd
              clear hd
              go_wp2
              go_meet
              exact ⟨rfl, rfl⟩
            · clear hd
              go_wp2
              go_meet
              exact ⟨rfl, rfl⟩
          · have h6' : k = 6 := by omega
            by_cases c1 : (48 : Int) ≤ ((T[k]'hkT).toNat : Int)
            · by_cases c2 : ((T[k]'hkT).toNat : Int) ≤ 57
              · clear h6'
                go_wp2
                go_meet
                exact ⟨rfl, rfl⟩
              · clear h6'
                go_wp2
                go_meet
                exact ⟨rfl, rfl⟩
            · clear h6'
              go_wp2
              go_meet
              exact ⟨rfl, rfl⟩
        · have hdk : decide ((k : Int) < (T.size : Int)) = false := decide_eq_false (by omega)
          go_wp2
          go_meet
          exact ⟨rfl, rfl⟩
  case rest =>
    obtain ⟨rfl, rfl⟩ := hcut
    go_wp2_with (go_at_call 36; refine (HD.out _ hE).mono ?_; rintro e w1 ⟨rfl, hb1⟩)
    refine bodyPost_ret (results_tmp4 rfl _ _ _) rfl ?_
    exact HdrPost.bad HP.out hb1

set_option maxRecDepth 100000 in
set_option maxHeartbeats 1000000 in
theorem header_m1 (s T : ByteArray) (K : Nat) (E : UEnv s T K) (hK : 1 ≤ K) (n : Nat) (hn : num? (T.data.toList.take K) = some (n : Int)) (hg : n ≤ 100000) (h4 : T.size - K < 4) (hq : (T.data.toList.drop K).isPrefixOf crlf = true) (w : World) (hE : Env w) :
    Calls Tryz.prog 24 #[.string s] w (HdrPost s.data.toList w) := by
  have hb := Lib.hid (E.call w)
  have HIN := Lib.hid E.in_
  have HOUT := Lib.hid E.out_
  have hKl := E.kl
  have hK6 := E.k6
  have hTs : T.size ≤ 90000000 := by have := E.sz; have := E.lt; omega
  have hs16 : ¬ s.size < 16 := by have := E.sz; omega
  have hh := hdrT_dg T.data.toList (by rw [E.k_]; exact hK)
  rw [E.k_] at hh
  have hk0 : ((K : Int) == 0) = false := by rw [beq_eq_false_iff_ne]; omega
  rw [hn] at hh
  simp only at hh
  rw [if_neg (by omega), Int.toNat_natCast] at hh
  unfold hdrX at hh
  have hrl : (T.data.toList.drop K).length = T.size - K := by rw [List.length_drop, ← Lib.size_eq]
  rw [hrl] at hh
  obtain ⟨r, hr⟩ : ∃ r, T.extract K T.size = r := ⟨_, rfl⟩
  have hrest := E.rest
  have hrs := E.rests
  rw [hr] at hrest hrs
  have HD := Lib.hid (fun W hW => decimal_n (T.extract 0 K) E.cuts E.cut hn W hW)
  have HR := Lib.hid hr
  rw [if_pos h4, hq] at hh
  have h4' : r.size < 4 := by omega
  have HP := Lib.hid (show hdr s.data.toList = .more by rw [E.h, hh]; rfl)
  have HF := Lib.hid (fun W => hasPrefix_is crlfB r true (by rw [hrest]; exact hq) W)
  unfold crlfB at HF
  clear hrest hrs hh hn hrl hq hr
  clear E
  go_enter Tryz.func24, Tryz.ntmps24
  go_upto_block 0 with (go_at_call 35; refine hb.out.mono ?_; rintro e w1 ⟨rfl, rfl⟩)
  go_cut [7] (fun i wx => i = .int .i64 K ∧ wx = w)
  case first =>
    go_wp2
    go_loop [7] (fun i => ∃ k : Nat, k ≤ K ∧ i = .int .i64 k) (fun i => K - (intOf i).toNat)
    case atStart => exact ⟨0, Nat.zero_le _, rfl⟩
    case round =>
      obtain ⟨k, hk, rfl⟩ := hrel
      by_cases hlt : k < K
      · have hkT : k < T.size := by omega
        have hd := HIN.out k hkT hlt
        rw [digB_int] at hd
        simp only [Bool.and_eq_true, decide_eq_true_eq] at hd
        obtain ⟨hd1, hd2⟩ := hd
        go_wp2
        go_round
        case rel => exact ⟨k + 1, by omega, by go_num⟩
        case measure => (simp [intOf]; try omega)
      · have hkK : k = K := by omega
        subst hkK
        by_cases hkT : k < T.size
        · by_cases h6 : k < 6
          · have hd := HOUT.out hkT h6
            rw [digB_int] at hd
            by_cases c1 : (48 : Int) ≤ ((T[k]'hkT).toNat : Int)
            · have c2 : ¬ ((T[k]'hkT).toNat : Int) ≤ 57 := by
                intro c2; rw [decide_eq_true c1, decide_eq_true c2] at hd; cases hd
              clear hd
              go_wp2
              go_meet
              exact ⟨rfl, rfl⟩
            · clear hd
              go_wp2
              go_meet
              exact ⟨rfl, rfl⟩
          · have h6' : k = 6 := by omega
            by_cases c1 : (48 : Int) ≤ ((T[k]'hkT).toNat : Int)
            · by_cases c2 : ((T[k]'hkT).toNat : Int) ≤ 57
              · clear h6'
                go_wp2
                go_meet
                exact ⟨rfl, rfl⟩
              · clear h6'
                go_wp2
                go_meet
                exact ⟨rfl, rfl⟩
            · clear h6'
              go_wp2
              go_meet
              exact ⟨rfl, rfl⟩
        · have hdk : decide ((k : Int) < (T.size : Int)) = false := decide_eq_false (by omega)
          go_wp2
          go_meet
          exact ⟨rfl, rfl⟩
  case rest =>
    obtain ⟨rfl, rfl⟩ := hcut
    go_wp2_with (first | (go_at_call 36; refine (HD.out _ hE).mono ?_; rintro e w1 ⟨rfl, hb1⟩) | (go_at_call 34; rw [HR.out]; refine (HF.out _).mono ?_; rintro e w2 ⟨rfl, rfl⟩))
    refine bodyPost_ret (results_tmp4 rfl _ _ _) rfl ?_
    exact HdrPost.more HP.out hb1

set_option maxRecDepth 100000 in
set_option maxHeartbeats 1000000 in
theorem header_m2 (s T : ByteArray) (K : Nat) (E : UEnv s T K) (hK : 1 ≤ K) (n : Nat) (hn : num? (T.data.toList.take K) = some (n : Int)) (hg : n ≤ 100000) (h4 : T.size - K < 4) (hq : (T.data.toList.drop K).isPrefixOf crlf = false) (w : World) (hE : Env w) :
    Calls Tryz.prog 24 #[.string s] w (HdrPost s.data.toList w) := by
  have hb := Lib.hid (E.call w)
  have HIN := Lib.hid E.in_
  have HOUT := Lib.hid E.out_
  have hKl := E.kl
  have hK6 := E.k6
  have hTs : T.size ≤ 90000000 := by have := E.sz; have := E.lt; omega
  have hs16 : ¬ s.size < 16 := by have := E.sz; omega
  have hh := hdrT_dg T.data.toList (by rw [E.k_]; exact hK)
  rw [E.k_] at hh
  have hk0 : ((K : Int) == 0) = false := by rw [beq_eq_false_iff_ne]; omega
  rw [hn] at hh
  simp only at hh
  rw [if_neg (by omega), Int.toNat_natCast] at hh
  unfold hdrX at hh
  have hrl : (T.data.toList.drop K).length = T.size - K := by rw [List.length_drop, ← Lib.size_eq]
  rw [hrl] at hh
  obtain ⟨r, hr⟩ : ∃ r, T.extract K T.size = r := ⟨_, rfl⟩
  have hrest := E.rest
  have hrs := E.rests
  rw [hr] at hrest hrs
  have HD := Lib.hid (fun W hW => decimal_n (T.extract 0 K) E.cuts E.cut hn W hW)
  have HR := Lib.hid hr
  rw [if_pos h4, hq] at hh
  have h4' : r.size < 4 := by omega
  have HP := Lib.hid (show hdr s.data.toList = .bad by rw [E.h, hh]; rfl)
  have HF := Lib.hid (fun W => hasPrefix_is crlfB r false (by rw [hrest]; exact hq) W)
  unfold crlfB at HF
  clear hrest hrs hh hn hrl hq hr
  clear E
  go_enter Tryz.func24, Tryz.ntmps24
  go_upto_block 0 with (go_at_call 35; refine hb.out.mono ?_; rintro e w1 ⟨rfl, rfl⟩)
  go_cut [7] (fun i wx => i = .int .i64 K ∧ wx = w)
  case first =>
    go_wp2
    go_loop [7] (fun i => ∃ k : Nat, k ≤ K ∧ i = .int .i64 k) (fun i => K - (intOf i).toNat)
    case atStart => exact ⟨0, Nat.zero_le _, rfl⟩
    case round =>
      obtain ⟨k, hk, rfl⟩ := hrel
      by_cases hlt : k < K
      · have hkT : k < T.size := by omega
        have hd := HIN.out k hkT hlt
        rw [digB_int] at hd
        simp only [Bool.and_eq_true, decide_eq_true_eq] at hd
        obtain ⟨hd1, hd2⟩ := hd
        go_wp2
        go_round
        case rel => exact ⟨k + 1, by omega, by go_num⟩
        case measure => (simp [intOf]; try omega)
      · have hkK : k = K := by omega
        subst hkK
        by_cases hkT : k < T.size
        · by_cases h6 : k < 6
          · have hd := HOUT.out hkT h6
            rw [digB_int] at hd
            by_cases c1 : (48 : Int) ≤ ((T[k]'hkT).toNat : Int)
            · have c2 : ¬ ((T[k]'hkT).toNat : Int) ≤ 57 := by
                intro c2; rw [decide_eq_true c1, decide_eq_true c2] at hd; cases hd
              clear hd
              go_wp2
              go_meet
              exact ⟨rfl, rfl⟩
            · clear hd
              go_wp2
              go_meet
              exact ⟨rfl, rfl⟩
          · have h6' : k = 6 := by omega
            by_cases c1 : (48 : Int) ≤ ((T[k]'hkT).toNat : Int)
            · by_cases c2 : ((T[k]'hkT).toNat : Int) ≤ 57
              · clear h6'
                go_wp2
                go_meet
                exact ⟨rfl, rfl⟩
              · clear h6'
                go_wp2
                go_meet
                exact ⟨rfl, rfl⟩
            · clear h6'
              go_wp2
              go_meet
              exact ⟨rfl, rfl⟩
        · have hdk : decide ((k : Int) < (T.size : Int)) = false := decide_eq_false (by omega)
          go_wp2
          go_meet
          exact ⟨rfl, rfl⟩
  case rest =>
    obtain ⟨rfl, rfl⟩ := hcut
    go_wp2_with (first | (go_at_call 36; refine (HD.out _ hE).mono ?_; rintro e w1 ⟨rfl, hb1⟩) | (go_at_call 34; rw [HR.out]; refine (HF.out _).mono ?_; rintro e w2 ⟨rfl, rfl⟩))
    refine bodyPost_ret (results_tmp4 rfl _ _ _) rfl ?_
    exact HdrPost.bad HP.out hb1

set_option maxRecDepth 100000 in
set_option maxHeartbeats 1000000 in
theorem header_m3 (s T : ByteArray) (K : Nat) (E : UEnv s T K) (hK : 1 ≤ K) (n : Nat) (hn : num? (T.data.toList.take K) = some (n : Int)) (hg : n ≤ 100000) (h4 : ¬ T.size - K < 4) (hq : crlf.isPrefixOf (T.data.toList.drop K) = true) (w : World) (hE : Env w) :
    Calls Tryz.prog 24 #[.string s] w (HdrPost s.data.toList w) := by
  have hb := Lib.hid (E.call w)
  have HIN := Lib.hid E.in_
  have HOUT := Lib.hid E.out_
  have hKl := E.kl
  have hK6 := E.k6
  have hTs : T.size ≤ 90000000 := by have := E.sz; have := E.lt; omega
  have hs16 : ¬ s.size < 16 := by have := E.sz; omega
  have hh := hdrT_dg T.data.toList (by rw [E.k_]; exact hK)
  rw [E.k_] at hh
  have hk0 : ((K : Int) == 0) = false := by rw [beq_eq_false_iff_ne]; omega
  rw [hn] at hh
  simp only at hh
  rw [if_neg (by omega), Int.toNat_natCast] at hh
  unfold hdrX at hh
  have hrl : (T.data.toList.drop K).length = T.size - K := by rw [List.length_drop, ← Lib.size_eq]
  rw [hrl] at hh
  obtain ⟨r, hr⟩ : ∃ r, T.extract K T.size = r := ⟨_, rfl⟩
  have hrest := E.rest
  have hrs := E.rests
  rw [hr] at hrest hrs
  have HD := Lib.hid (fun W hW => decimal_n (T.extract 0 K) E.cuts E.cut hn W hW)
  have HR := Lib.hid hr
  rw [if_neg h4, hq] at hh
  have h4' : ¬ r.size < 4 := by omega
  obtain ⟨r4, hr4⟩ : ∃ r4, (T.data.toList.drop K).drop 4 = r4 := ⟨_, rfl⟩
  rw [hr4] at hh
  have HP := Lib.hid (show hdr s.data.toList = .ok n r4 by rw [E.h, hh]; rfl)
  have HF := Lib.hid (fun W => cutPrefix_yes r crlfB r4 (by rw [hrest]; exact hq) (by rw [hrest]; exact hr4) W)
  unfold crlfB at HF
  clear hr4
  clear hrest hrs hh hn hrl hq hr
  clear E
  go_enter Tryz.func24, Tryz.ntmps24
  go_upto_block 0 with (go_at_call 35; refine hb.out.mono ?_; rintro e w1 ⟨rfl, rfl⟩)
  go_cut [7] (fun i wx => i = .int .i64 K ∧ wx = w)
  case first =>
    go_wp2
    go_loop [7] (fun i => ∃ k : Nat, k ≤ K ∧ i = .int .i64 k) (fun i => K - (intOf i).toNat)
    case atStart => exact ⟨0, Nat.zero_le _, rfl⟩
    case round =>
      obtain ⟨k, hk, rfl⟩ := hrel
      by_cases hlt : k < K
      · have hkT : k < T.size := by omega
        have hd := HIN.out k hkT hlt
        rw [digB_int] at hd
        simp only [Bool.and_eq_true, decide_eq_true_eq] at hd
        obtain ⟨hd1, hd2⟩ := hd
        go_wp2
        go_round
        case rel => exact ⟨k + 1, by omega, by go_num⟩
        case measure => (simp [intOf]; try omega)
      · have hkK : k = K := by omega
        subst hkK
        by_cases hkT : k < T.size
        · by_cases h6 : k < 6
          · have hd := HOUT.out hkT h6
            rw [digB_int] at hd
            by_cases c1 : (48 : Int) ≤ ((T[k]'hkT).toNat : Int)
            · have c2 : ¬ ((T[k]'hkT).toNat : Int) ≤ 57 := by
                intro c2; rw [decide_eq_true c1, decide_eq_true c2] at hd; cases hd
              clear hd
              go_wp2
              go_meet
              exact ⟨rfl, rfl⟩
            · clear hd
              go_wp2
              go_meet
              exact ⟨rfl, rfl⟩
          · have h6' : k = 6 := by omega
            by_cases c1 : (48 : Int) ≤ ((T[k]'hkT).toNat : Int)
            · by_cases c2 : ((T[k]'hkT).toNat : Int) ≤ 57
              · clear h6'
                go_wp2
                go_meet
                exact ⟨rfl, rfl⟩
              · clear h6'
                go_wp2
                go_meet
                exact ⟨rfl, rfl⟩
            · clear h6'
              go_wp2
              go_meet
              exact ⟨rfl, rfl⟩
        · have hdk : decide ((k : Int) < (T.size : Int)) = false := decide_eq_false (by omega)
          go_wp2
          go_meet
          exact ⟨rfl, rfl⟩
  case rest =>
    obtain ⟨rfl, rfl⟩ := hcut
    go_wp2_with (first | (go_at_call 36; refine (HD.out _ hE).mono ?_; rintro e w1 ⟨rfl, hb1⟩) | (go_at_call 35; rw [HR.out]; refine (HF.out _).mono ?_; rintro e w2 ⟨rfl, rfl⟩))
    refine bodyPost_ret (results_tmp4 rfl _ _ _) rfl ?_
    exact HdrPost.good HP.out hb1

set_option maxRecDepth 100000 in
set_option maxHeartbeats 1000000 in
theorem header_m4 (s T : ByteArray) (K : Nat) (E : UEnv s T K) (hK : 1 ≤ K) (n : Nat) (hn : num? (T.data.toList.take K) = some (n : Int)) (hg : n ≤ 100000) (h4 : ¬ T.size - K < 4) (hq : crlf.isPrefixOf (T.data.toList.drop K) = false) (w : World) (hE : Env w) :
    Calls Tryz.prog 24 #[.string s] w (HdrPost s.data.toList w) := by
  have hb := Lib.hid (E.call w)
  have HIN := Lib.hid E.in_
  have HOUT := Lib.hid E.out_
  have hKl := E.kl
  have hK6 := E.k6
  have hTs : T.size ≤ 90000000 := by have := E.sz; have := E.lt; omega
  have hs16 : ¬ s.size < 16 := by have := E.sz; omega
  have hh := hdrT_dg T.data.toList (by rw [E.k_]; exact hK)
  rw [E.k_] at hh
  have hk0 : ((K : Int) == 0) = false := by rw [beq_eq_false_iff_ne]; omega
  rw [hn] at hh
  simp only at hh
  rw [if_neg (by omega), Int.toNat_natCast] at hh
  unfold hdrX at hh
  have hrl : (T.data.toList.drop K).length = T.size - K := by rw [List.length_drop, ← Lib.size_eq]
  rw [hrl] at hh
  obtain ⟨r, hr⟩ : ∃ r, T.extract K T.size = r := ⟨_, rfl⟩
  have hrest := E.rest
  have hrs := E.rests
  rw [hr] at hrest hrs
  have HD := Lib.hid (fun W hW => decimal_n (T.extract 0 K) E.cuts E.cut hn W hW)
  have HR := Lib.hid hr
  rw [if_neg h4, hq] at hh
  have h4' : ¬ r.size < 4 := by omega
  have HP := Lib.hid (show hdr s.data.toList = .bad by rw [E.h, hh]; rfl)
  have HF := Lib.hid (fun W => cutPrefix_no r crlfB (by rw [hrest]; exact hq) W)
  unfold crlfB at HF
  clear hrest hrs hh hn hrl hq hr
  clear E
  go_enter Tryz.func24, Tryz.ntmps24
  go_upto_block 0 with (go_at_call 35; refine hb.out.mono ?_; rintro e w1 ⟨rfl, rfl⟩)
  go_cut [7] (fun i wx => i = .int .i64 K ∧ wx = w)
  case first =>
    go_wp2
    go_loop [7] (fun i => ∃ k : Nat, k ≤ K ∧ i = .int .i64 k) (fun i => K - (intOf i).toNat)
    case atStart => exact ⟨0, Nat.zero_le _, rfl⟩
    case round =>
      obtain ⟨k, hk, rfl⟩ := hrel
      by_cases hlt : k < K
      · have hkT : k < T.size := by omega
        have hd := HIN.out k hkT hlt
        rw [digB_int] at hd
        simp only [Bool.and_eq_true, decide_eq_true_eq] at hd
        obtain ⟨hd1, hd2⟩ := hd
        go_wp2
        go_round
        case rel => exact ⟨k + 1, by omega, by go_num⟩
        case measure => (simp [intOf]; try omega)
      · have hkK : k = K := by omega
        subst hkK
        by_cases hkT : k < T.size
        · by_cases h6 : k < 6
          · have hd := HOUT.out hkT h6
            rw [digB_int] at hd
            by_cases c1 : (48 : Int) ≤ ((T[k]'hkT).toNat : Int)
            · have c2 : ¬ ((T[k]'hkT).toNat : Int) ≤ 57 := by
                intro c2; rw [decide_eq_true c1, decide_eq_true c2] at hd; cases hd
              clear hd
              go_wp2
              go_meet
              exact ⟨rfl, rfl⟩
            · clear hd
              go_wp2
              go_meet
              exact ⟨rfl, rfl⟩
          · have h6' : k = 6 := by omega
            by_cases c1 : (48 : Int) ≤ ((T[k]'hkT).toNat : Int)
            · by_cases c2 : ((T[k]'hkT).toNat : Int) ≤ 57
              · clear h6'
                go_wp2
                go_meet
                exact ⟨rfl, rfl⟩
              · clear h6'
                go_wp2
                go_meet
                exact ⟨rfl, rfl⟩
            · clear h6'
              go_wp2
              go_meet
              exact ⟨rfl, rfl⟩
        · have hdk : decide ((k : Int) < (T.size : Int)) = false := decide_eq_false (by omega)
          go_wp2
          go_meet
          exact ⟨rfl, rfl⟩
  case rest =>
    obtain ⟨rfl, rfl⟩ := hcut
    go_wp2_with (first | (go_at_call 36; refine (HD.out _ hE).mono ?_; rintro e w1 ⟨rfl, hb1⟩) | (go_at_call 35; rw [HR.out]; refine (HF.out _).mono ?_; rintro e w2 ⟨rfl, rfl⟩))
    refine bodyPost_ret (results_tmp4 rfl _ _ _) rfl ?_
    exact HdrPost.bad HP.out hb1

theorem header_any (s : ByteArray) (hx : s.size ≤ 90000000) (w : World) (hE : Env w) :
    Calls Tryz.prog 24 #[.string s] w (HdrPost s.data.toList w) := by
  by_cases h16 : s.size < 16
  · exact header_short s h16 w
  · cases hp : pre.isPrefixOf s.data.toList with
    | false => exact header_not s (by omega) hx hp w
    | true =>
      obtain ⟨T, K, E⟩ := UEnv.of s (by omega) hx hp
      rcases Nat.eq_zero_or_pos K with hK | hK
      · by_cases h0 : T.data.toList = []
        · exact header_z1 s T K E hK h0 w hE
        · exact header_z2 s T K E hK h0 w hE
      · cases hn : num? (T.data.toList.take K) with
        | none => exact header_none s T K E hK hn w hE
        | some z =>
          obtain ⟨n, rfl, _⟩ := num?_digits (ds := T.data.toList.take K) (fun c hc => by
            rw [← E.k_, tw_take _ (by unfold dg; omega)] at hc
            exact tw_dig _ c (List.mem_of_mem_take hc)) hn
          by_cases hg : 100000 < n
          · exact header_great s T K E hK n hn hg w hE
          · by_cases h4 : T.size - K < 4
            · cases hq : (T.data.toList.drop K).isPrefixOf crlf with
              | true => exact header_m1 s T K E hK n hn (by omega) h4 hq w hE
              | false => exact header_m2 s T K E hK n hn (by omega) h4 hq w hE
            · cases hq : crlf.isPrefixOf (T.data.toList.drop K) with
              | true => exact header_m3 s T K E hK n hn (by omega) h4 hq w hE
              | false => exact header_m4 s T K E hK n hn (by omega) h4 hq w hE
end Go.Proofs.YthooajbhiikbfaaGreatDoor
