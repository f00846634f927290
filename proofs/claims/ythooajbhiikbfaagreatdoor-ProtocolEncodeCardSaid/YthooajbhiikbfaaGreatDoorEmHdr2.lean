/- A part of the proofs of the statements of emendatelaw55 (layer protocol): more on headers. Conditions: those that stand in each theorem, no other. -/
import Derived.Test.YthooajbhiikbfaaGreatDoorEmHdr
namespace Em
open Go.Lib

theorem dec_take (n j : Nat) (h1 : 1 ≤ j) (h2 : j ≤ (decDigits n).length) : ∃ m : Nat, (decDigits n).take j = decDigits m ∧ m ≤ n := by
  induction n using Nat.strongRecOn with
  | _ n ih =>
    by_cases hsm : n < 10
    · rw [decDigits_small hsm] at h2 ⊢
      have : j = 1 := by simp at h2; omega
      subst this
      exact ⟨n, by rw [decDigits_small hsm]; rfl, Nat.le_refl _⟩
    · by_cases hj3 : j ≤ (decDigits (n / 10)).length
      · rw [decDigits_big hsm, List.take_append_of_le_length hj3]
        obtain ⟨m, hm, hle⟩ := ih (n / 10) (by omega) hj3
        exact ⟨m, hm, by omega⟩
      · refine ⟨n, ?_, Nat.le_refl _⟩
        rw [List.take_of_length_le]
        rw [decDigits_big hsm] at h2 ⊢
        simp at h2 ⊢; omega

theorem parse_any (u acc : Nat) : ∃ k, ∀ r, (decDigits u).foldl (fun a c => a * 10 + (c.toNat - 48)) r = r * 10 ^ k + u := by
  induction u using Nat.strongRecOn generalizing acc with
  | _ u ih =>
    by_cases h : u < 10
    · refine ⟨1, fun r => ?_⟩
      rw [decDigits_small h]; simp only [List.foldl_cons, List.foldl_nil, digit_toNat h]; omega
    · obtain ⟨k, hk⟩ := ih (u / 10) (by omega) acc
      refine ⟨k + 1, fun r => ?_⟩
      have hm : u % 10 < 10 := Nat.mod_lt _ (by omega)
      rw [decDigits_big h, List.foldl_append, hk r]
      simp only [List.foldl_cons, List.foldl_nil, digit_toNat hm]
      rw [Nat.pow_succ, ← Nat.mul_assoc]; omega
theorem decDigits_inj {a b : Nat} (h : decDigits a = decDigits b) : a = b := by
  obtain ⟨k, hk⟩ := parse_any a 0
  obtain ⟨k', hk'⟩ := parse_any b 0
  have h1 := hk 0
  have h2 := hk' 0
  rw [h] at h1
  rw [h1] at h2
  omega

theorem head_ne (k : Nat) (h : 1 ≤ k) : (decDigits k).head? ≠ some 48 := by
  induction k using Nat.strongRecOn with
  | _ k ih =>
    by_cases hs : k < 10
    · rw [decDigits_small hs]
      simp only [List.head?_cons, ne_eq, Option.some.injEq]
      intro e
      have := congrArg UInt8.toNat e
      rw [digit_toNat hs] at this
      have e2 : (48 : UInt8).toNat = 48 := rfl
      omega
    · have := ih (k / 10) (by omega) (by omega)
      rw [decDigits_big hs]
      cases hd : decDigits (k / 10) with
      | nil => exact absurd hd (decDigits_ne _)
      | cons c r => rw [hd] at this; simpa using this

theorem num?_digits {ds : Bytes} {n : Int} (hd : ∀ c ∈ ds, digB c = true) (h : num? ds = some n) : ∃ m : Nat, n = m ∧ ds = decDigits m := by
  obtain ⟨e, _⟩ := num?_some.1 h
  have h0 := dig_nonneg hd e
  obtain ⟨m, rfl⟩ : ∃ m : Nat, n = m := ⟨n.toNat, by omega⟩
  exact ⟨m, rfl, by rw [e, itoa_nonneg]⟩

theorem tw_dig (t : Bytes) : ∀ c ∈ t.takeWhile digB, digB c = true := fun c hc => by
  have := List.all_takeWhile (p := digB) (l := t); rw [List.all_eq_true] at this; exact this c hc

theorem hdrT_bad {t : Bytes} (h1 : t.takeWhile digB ≠ []) (h : ∀ m : Nat, num? (t.takeWhile digB) = some (m : Int) → 100000 < m) : hdrT t = .bad := by
  unfold hdrT
  simp only [if_neg h1]
  cases hn : num? (t.takeWhile digB) with
  | none => rfl
  | some n =>
    obtain ⟨m, rfl, _⟩ := num?_digits (tw_dig t) hn
    have := h m hn
    simp only
    rw [if_pos (by omega)]

/-- a leading zero -/
theorem hdrT_zero (c : UInt8) (r : Bytes) (hc : digB c = true) : hdrT (48 :: c :: r) = .bad := by
  have e : (48 :: c :: r).takeWhile digB = 48 :: c :: r.takeWhile digB := by
    rw [List.takeWhile_cons_of_pos (by decide), List.takeWhile_cons_of_pos hc]
  refine hdrT_bad (by rw [e]; simp) fun m hm => ?_
  rw [e] at hm
  have hd : ∀ x ∈ 48 :: c :: r.takeWhile digB, digB x = true := by rw [← e]; exact tw_dig _
  obtain ⟨k, hk, hk2⟩ := num?_digits hd hm
  exfalso
  rcases Nat.eq_zero_or_pos k with h0 | h0
  · subst h0
    rw [decDigits_small (by omega)] at hk2
    simp at hk2
  · have := head_ne k h0
    rw [← hk2] at this
    simp at this

/-- too great -/
theorem hdrT_great (t : Bytes) (j n : Nat) (hj : 1 ≤ j) (h : t.take j = decDigits n) (hjl : j ≤ t.length) (hn : 100000 < n) : hdrT t = .bad := by
  have hall : ∀ c ∈ t.take j, digB c = true := by
    rw [h, ← itoa_nonneg]; exact itoa_dig n
  have e : t.takeWhile digB = t.take j ++ (t.drop j).takeWhile digB := by
    conv => lhs; rw [← List.take_append_drop j t]
    rw [List.takeWhile_append_of_pos hall]
  have hne : t.take j ≠ [] := by rw [h]; exact decDigits_ne n
  refine hdrT_bad (by rw [e]; simp [hne]) fun m hm => ?_
  obtain ⟨k, hk, hk2⟩ := num?_digits (tw_dig t) hm
  rw [e] at hk2
  have hl : (t.take j).length = j := by rw [List.length_take]; omega
  obtain ⟨m', hm', hle⟩ := dec_take k j hj (by rw [← hk2, List.length_append, hl]; omega)
  rw [← hk2, List.take_append_of_le_length (by omega), List.take_of_length_le (by omega), h] at hm'
  have := decDigits_inj hm'
  omega

/-- behind the digits -/
theorem hdrT_exit (n : Nat) (rest : Bytes) (hn : n ≤ 100000) (hr : ∀ c, rest.head? = some c → digB c = false) :
    hdrT (decDigits n ++ rest) = if rest.length < 4 then (if rest.isPrefixOf crlf then .more else .bad) else if crlf.isPrefixOf rest then .ok n (rest.drop 4) else .bad := by
  have hd : ∀ c ∈ decDigits n, digB c = true := by rw [← itoa_nonneg]; exact itoa_dig n
  obtain ⟨e1, e2⟩ := takeWhile_append_stop digB (decDigits n) rest hd hr
  unfold hdrT
  simp only [e1, e2, if_neg (decDigits_ne n)]
  have hnum : num? (decDigits n) = some (n : Int) := by rw [← itoa_nonneg]; exact num?_itoa ⟨by omega, by omega⟩
  rw [hnum]
  simp only
  rw [if_neg (by omega)]
  simp

theorem hdrT_none (t : Bytes) (hr : ∀ c, t.head? = some c → digB c = false) : hdrT t = if t = [] then .more else .bad := by
  have := takeWhile_append_stop digB [] t (by simp) hr
  rw [List.nil_append] at this
  unfold hdrT
  simp only [this.1, if_true]
end Em
