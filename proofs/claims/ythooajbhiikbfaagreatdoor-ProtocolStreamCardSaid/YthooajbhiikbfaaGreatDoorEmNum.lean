/- A part of the proofs of the statements of emendatelaw55 (layer protocol): how the reference reads numbers. Conditions: those that stand in each theorem, no other. -/
import Derived.Test.YthooajbhiikbfaaGreatDoorEmPlain
namespace Em
open Go.Lib

def w64 (n : Int) : Int := (n + 9223372036854775808) % 18446744073709551616 - 9223372036854775808
theorem w64_in {n : Int} (h : inR n) : w64 n = n := by unfold inR at h; unfold w64; omega
theorem w64_inR (n : Int) : inR (w64 n) := by unfold inR w64; omega

def isDig (c : UInt8) : Bool := !(decide ((c.toNat : Int) < 48)) && !(decide (57 < (c.toNat : Int)))
/-- the loop of the reference: negative numbers reach further -/
def accN (n : Int) (c : UInt8) : Int := w64 (w64 (10 * n) - ((c.toNat : Int) - 48))
def accL (n : Int) (l : Bytes) : Int := l.foldl accN n

def numBody (s : Bytes) : Bytes := if s.head? = some 45 then s.tail else s
/-- what number(s) of the reference computes where all are digits -/
def refVal (s : Bytes) : Int := if s.head? = some 45 then accL 0 (numBody s) else w64 (-(accL 0 (numBody s)))

theorem accL_decDigits (u : Nat) (h : u ≤ 9223372036854775808) : accL 0 (decDigits u) = -(u : Int) := by
  induction u using Nat.strongRecOn with
  | _ u ih =>
    by_cases h1 : u < 10
    · rw [decDigits_small h1]
      simp only [accL, List.foldl_cons, List.foldl_nil, accN, digit_toNat h1]
      unfold w64; omega
    · rw [decDigits_big h1]
      have := ih (u / 10) (by omega) (by omega)
      unfold accL at this ⊢
      have hm : u % 10 < 10 := Nat.mod_lt _ (by omega)
      rw [List.foldl_append, this]
      simp only [List.foldl_cons, List.foldl_nil, accN, digit_toNat hm]
      unfold w64; omega

theorem nDigits_le19 (u : Nat) (h : u ≤ 9223372036854775808) : nDigits u ≤ 19 := by
  rcases Nat.eq_zero_or_pos u with rfl | h1
  · rw [nDigits_small (by omega)]; omega
  · have hmono : ∀ (k v : Nat), v < 10 ^ (k + 1) → nDigits v ≤ k + 1 := by
      intro k
      induction k with
      | zero => intro v hv; rw [nDigits_small (by simpa using hv)]; omega
      | succ k ih =>
        intro v hv
        by_cases hs : v < 10
        · rw [nDigits_small hs]; omega
        · rw [nDigits_big hs]
          have := ih (v / 10) (by rw [Nat.pow_succ] at hv; omega)
          omega
    have := hmono 18 u (by have : (10:Nat) ^ (18 + 1) = 10000000000000000000 := by decide
                           omega)
    exact this

theorem itoa_len20 {n : Int} (h : inR n) : (itoa n).length ≤ 20 := by
  obtain ⟨h0, h1⟩ := h
  by_cases hneg : n < 0
  · obtain ⟨u, rfl⟩ : ∃ u : Nat, n = -(u : Int) := ⟨n.natAbs, by omega⟩
    rw [itoa_neg u (by omega), List.length_cons, decDigits_length]
    have := nDigits_le19 u (by omega)
    omega
  · obtain ⟨u, rfl⟩ : ∃ u : Nat, n = u := ⟨n.toNat, by omega⟩
    rw [itoa_nonneg, decDigits_length]
    have := nDigits_le19 u (by omega)
    omega

theorem head_decDigits (u : Nat) : (decDigits u).head? ≠ some 45 := by
  cases h : decDigits u with
  | nil => simp
  | cons c r =>
    have := decDigits_digit u c (by rw [h]; simp)
    simp only [List.head?_cons, ne_eq, Option.some.injEq]
    intro e; subst e; simp at this

theorem refVal_itoa {n : Int} (h : inR n) : refVal (itoa n) = n := by
  obtain ⟨h0, h1⟩ := h
  unfold refVal numBody
  by_cases hneg : n < 0
  · obtain ⟨u, rfl⟩ : ∃ u : Nat, n = -(u : Int) := ⟨n.natAbs, by omega⟩
    rw [itoa_neg u (by omega)]
    simp only [List.head?_cons, if_true, List.tail_cons]
    exact accL_decDigits u (by omega)
  · obtain ⟨u, rfl⟩ : ∃ u : Nat, n = u := ⟨n.toNat, by omega⟩
    rw [itoa_nonneg, if_neg (head_decDigits u), if_neg (head_decDigits u), accL_decDigits u (by omega)]
    rw [w64_in ⟨by omega, by omega⟩]; omega

theorem numBody_itoa (n : Int) : numBody (itoa n) ≠ [] ∧ (numBody (itoa n)).all isDig = true := by
  have key : ∀ u : Nat, (decDigits u).all isDig = true := by
    intro u; rw [List.all_eq_true]; intro c hc
    have := decDigits_digit u c hc
    unfold isDig; simp; omega
  unfold numBody
  by_cases hneg : n < 0
  · obtain ⟨u, rfl⟩ : ∃ u : Nat, n = -(u : Int) := ⟨n.natAbs, by omega⟩
    rw [itoa_neg u (by omega)]
    simp only [List.head?_cons, if_true, List.tail_cons]
    exact ⟨decDigits_ne u, key u⟩
  · obtain ⟨u, rfl⟩ : ∃ u : Nat, n = u := ⟨n.toNat, by omega⟩
    rw [itoa_nonneg, if_neg (head_decDigits u)]
    exact ⟨decDigits_ne u, key u⟩

/-- does the reference take s as a number? -/
def refOk (s : Bytes) : Bool := numBody s ≠ [] && s.length ≤ 20 && (numBody s).all isDig && (itoa (refVal s) == s)

theorem accL_inR (l : Bytes) : ∀ n, inR n → inR (accL n l) := by
  induction l with
  | nil => intro n h; exact h
  | cons c r ih => intro n h; exact ih _ (w64_inR _)

theorem refVal_inR (s : Bytes) : inR (refVal s) := by
  unfold refVal
  split
  · exact accL_inR _ 0 (by unfold inR; omega)
  · exact w64_inR _

theorem num?_ref (s : Bytes) : num? s = if refOk s then some (refVal s) else none := by
  by_cases h : refOk s = true
  · rw [if_pos h]
    unfold refOk at h
    simp only [Bool.and_eq_true, beq_iff_eq] at h
    exact num?_some.2 ⟨h.2.symm, refVal_inR s⟩
  · rw [if_neg h]
    cases hn : num? s with
    | none => rfl
    | some n =>
      obtain ⟨rfl, hr⟩ := num?_some.1 hn
      exfalso; apply h
      unfold refOk
      obtain ⟨b1, b2⟩ := numBody_itoa n
      rw [refVal_itoa hr]
      simp [b1, b2, itoa_len20 hr]

/-- the scan of DecodeEvent in the reference: the numbers so far, the bytes of the next, what is left -/
def scan : Bytes → List Int → Bytes → Option (List Int × Bytes)
  | [], l, _ => some (l, [])
  | c :: r, l, cur =>
    if l.length = 7 then some (l, c :: r)
    else if (l.length < 6 ∧ c = 32) ∨ (l.length = 6 ∧ c = 58) then
      match num? cur with
      | none => none
      | some n => scan r (l ++ [n]) []
    else scan r l (cur ++ [c])

theorem scan_skip (a : Bytes) : ∀ (r : Bytes) (l : List Int) (cur : Bytes), l.length < 6 → (32 : UInt8) ∉ a → scan (a ++ 32 :: r) l cur = match num? (cur ++ a) with | none => none | some n => scan r (l ++ [n]) [] := by
  induction a with
  | nil =>
    intro r l cur hl _
    rw [List.nil_append, scan, if_neg (by omega), if_pos (.inl ⟨hl, rfl⟩), List.append_nil]
  | cons c t ih =>
    intro r l cur hl ha
    simp only [List.mem_cons, not_or] at ha
    rw [List.cons_append, scan, if_neg (by omega), if_neg, ih r l (cur ++ [c]) hl ha.2]
    · simp
    · rintro (⟨_, e⟩ | ⟨e, _⟩)
      · exact ha.1 e.symm
      · omega

/-- the digits of zero -/
theorem itoa_zero : itoa 0 = [48] := by
  have : (0 : Int) = ((0 : Nat) : Int) := rfl
  rw [this, itoa_nonneg, decDigits_small (by omega)]; rfl
theorem num?_zero : num? [48] = some 0 := by rw [← itoa_zero]; exact num?_itoa ⟨by omega, by omega⟩

def zeros : Bytes := [32, 48, 32, 48, 32, 48, 32, 48, 32, 48, 32, 48, 58]

theorem scan_zeros (s : Bytes) (hs : (32 : UInt8) ∉ s) : scan (s ++ zeros) [] [] = match num? s with | none => none | some n => some ([n, 0, 0, 0, 0, 0, 0], []) := by
  unfold zeros
  rw [scan_skip s _ [] [] (by simp) hs]
  simp only [List.nil_append]
  cases num? s with
  | none => rfl
  | some n =>
    simp [scan, num?_zero]

end Em
