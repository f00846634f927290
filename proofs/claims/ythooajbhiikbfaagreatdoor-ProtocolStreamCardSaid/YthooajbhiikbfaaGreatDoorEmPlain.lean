/- A part of the proofs of the statements of emendatelaw55 (layer protocol): decimal forms of integers. Conditions: those that stand in each theorem, no other. -/
import Derived.Lib.AtoiAll
import Derived.Lib.ItoaLen
import Derived.Lib.IndexMore
namespace Em
open Go.Lib

abbrev Bytes := List UInt8

def inR (n : Int) : Prop := -9223372036854775808 ≤ n ∧ n ≤ 9223372036854775807

theorem decDigits_small {u : Nat} (h : u < 10) : decDigits u = [UInt8.ofNat (48 + u)] := by rw [decDigits, dif_pos h]
theorem decDigits_big {u : Nat} (h : ¬ u < 10) : decDigits u = decDigits (u / 10) ++ [UInt8.ofNat (48 + u % 10)] := by rw [decDigits, dif_neg h]

theorem digit_toNat {d : Nat} (h : d < 10) : (UInt8.ofNat (48 + d)).toNat = 48 + d := by
  rw [UInt8.toNat_ofNat']; omega

theorem decDigits_ne (u : Nat) : decDigits u ≠ [] := by
  by_cases h : u < 10
  · rw [decDigits_small h]; simp
  · rw [decDigits_big h]; simp

theorem decDigits_digit (u : Nat) : ∀ c ∈ decDigits u, 48 ≤ c.toNat ∧ c.toNat ≤ 57 := by
  induction u using Nat.strongRecOn with
  | _ u ih =>
    by_cases h : u < 10
    · rw [decDigits_small h]; intro c hc
      have hc := List.mem_singleton.1 hc
      rw [hc, digit_toNat h]; omega
    · rw [decDigits_big h]; intro c hc
      rcases List.mem_append.1 hc with hc | hc
      · exact ih (u / 10) (by omega) c hc
      · have hc := List.mem_singleton.1 hc
        have hm : u % 10 < 10 := Nat.mod_lt _ (by omega)
        rw [hc, digit_toNat hm]; omega

theorem parseUint10_append (l r : Bytes) : ∀ acc, parseUint10 acc (l ++ r) = match parseUint10 acc l with | .ok v => parseUint10 v r | x => x := by
  induction l with
  | nil => intro acc; rfl
  | cons c t ih =>
    intro acc
    simp only [List.cons_append, parseUint10]
    by_cases h1 : 48 ≤ c.toNat ∧ c.toNat ≤ 57
    · rw [if_pos h1, if_pos h1]
      by_cases h2 : 1844674407370955162 ≤ acc
      · rw [if_pos h2, if_pos h2]
      · rw [if_neg h2, if_neg h2]
        by_cases h3 : 18446744073709551616 ≤ acc * 10 + (c.toNat - 48)
        · rw [if_pos h3, if_pos h3]
        · rw [if_neg h3, if_neg h3]; exact ih _
    · rw [if_neg h1, if_neg h1]

theorem parseUint10_decDigits (u : Nat) (h : u < 18446744073709551616) : parseUint10 0 (decDigits u) = .ok u := by
  induction u using Nat.strongRecOn with
  | _ u ih =>
    by_cases h1 : u < 10
    · rw [decDigits_small h1]
      simp only [parseUint10, digit_toNat h1]
      rw [if_pos (by omega), if_neg (by omega), if_neg (by omega)]
      congr 1; omega
    · rw [decDigits_big h1, parseUint10_append, ih (u / 10) (by omega) (by omega)]
      have hm : u % 10 < 10 := Nat.mod_lt _ (by omega)
      simp only [parseUint10, digit_toNat hm]
      rw [if_pos (by omega), if_neg (by omega), if_neg (by omega)]
      congr 1; omega

theorem itoa_ne (n : Int) : itoa n ≠ [] := by
  unfold itoa; split
  · simp
  · exact decDigits_ne _

theorem atoiAll_itoa (n : Int) (h : inR n) : atoiAll (itoa n) = .ok n := by
  obtain ⟨h0, h1⟩ := h
  by_cases hn : n < 0
  · unfold itoa; rw [if_pos hn]
    have hp := parseUint10_decDigits n.natAbs (by omega)
    have hne := decDigits_ne n.natAbs
    unfold atoiAll
    simp only [show (45 : UInt8).toNat = 45 from rfl]
    simp only [or_true, if_true, parseMag, if_neg hne, hp, not_true, false_and, if_false, true_and]
    rw [if_neg (by omega)]
    congr 1; omega
  · unfold itoa; rw [if_neg hn]
    have hp := parseUint10_decDigits n.toNat (by omega)
    have hd := decDigits_digit n.toNat
    cases he : decDigits n.toNat with
    | nil => exact absurd he (decDigits_ne _)
    | cons c r =>
      rw [he] at hp hd
      have hc := hd c (by simp)
      unfold atoiAll
      have e1 : ¬ (c.toNat = 43 ∨ c.toNat = 45) := by intro h; rcases h with h | h <;> (rw [h] at hc; omega)
      have e2 : ¬ c.toNat = 45 := by intro h; rw [h] at hc; omega
      have e3 : parseMag (c :: r) = .ok n.toNat := by unfold parseMag; rw [if_neg (List.cons_ne_nil c r), hp]
      have e4 : ¬ 9223372036854775808 ≤ n.toNat := by omega
      have e5 : (if c.toNat = 43 ∨ c.toNat = 45 then r else c :: r) = c :: r := if_neg e1
      simp only []
      rw [e5, e3]
      simp only [e2, not_false_eq_true, true_and, false_and, if_false, e4]
      congr 1; omega

/-- The integer whose decimal form s is. -/
def num? (s : Bytes) : Option Int :=
  match atoiAll s with
  | .ok v => if itoa v = s then some v else none
  | _ => none

theorem atoiAll_inR {s : Bytes} {v : Int} (h : atoiAll s = .ok v) : inR v := by
  unfold atoiAll at h
  split at h
  · cases h
  · simp only at h
    split at h
    · cases h
    · cases h
    · split at h
      · cases h
      · split at h
        · cases h
        · injection h with h
          subst h
          unfold inR
          split <;> omega

theorem num?_some {s : Bytes} {n : Int} : num? s = some n ↔ (s = itoa n ∧ inR n) := by
  constructor
  · intro h
    unfold num? at h
    split at h
    · rename_i v hv
      split at h
      · rename_i he
        injection h with h; subst h
        exact ⟨he.symm, atoiAll_inR hv⟩
      · cases h
    · cases h
  · rintro ⟨rfl, h⟩
    unfold num?
    rw [atoiAll_itoa n h]
    simp

theorem num?_itoa {n : Int} (h : inR n) : num? (itoa n) = some n := num?_some.2 ⟨rfl, h⟩

theorem itoa_inj {a b : Int} (ha : inR a) (hb : inR b) (h : itoa a = itoa b) : a = b := by
  have h1 := num?_itoa ha
  rw [h, num?_itoa hb] at h1
  injection h1 with h1; exact h1.symm

/-- the bytes of a decimal form: a sign or a digit -/
theorem itoa_mem (n : Int) : ∀ c ∈ itoa n, c.toNat = 45 ∨ (48 ≤ c.toNat ∧ c.toNat ≤ 57) := by
  unfold itoa
  split
  · intro c hc
    rcases List.mem_cons.1 hc with rfl | hc
    · left; rfl
    · right; exact decDigits_digit _ c hc
  · intro c hc; right; exact decDigits_digit _ c hc

end Em
