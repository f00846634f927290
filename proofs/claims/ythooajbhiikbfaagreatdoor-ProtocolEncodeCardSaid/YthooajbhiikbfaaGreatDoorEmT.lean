/- A part of the proofs of the statements of emendatelaw55 (layer protocol): digits of a header. Conditions: those that stand in each theorem, no other. -/
import Derived.Test.YthooajbhiikbfaaGreatDoorEmS
namespace Go.Proofs.YthooajbhiikbfaaGreatDoor
open Go Go.RowKit Em

theorem dec_len6 (m : Nat) (h : m ≤ 100000) : (Lib.decDigits m).length ≤ 6 := by
  by_cases h1 : m < 10
  · rw [decDigits_small h1]; simp
  · rw [decDigits_big h1, List.length_append]
    by_cases h2 : m / 10 < 10
    · rw [decDigits_small h2]; simp
    · rw [decDigits_big h2, List.length_append]
      by_cases h3 : m / 10 / 10 < 10
      · rw [decDigits_small h3]; simp
      · rw [decDigits_big h3, List.length_append]
        by_cases h4 : m / 10 / 10 / 10 < 10
        · rw [decDigits_small h4]; simp
        · rw [decDigits_big h4, List.length_append]
          by_cases h5 : m / 10 / 10 / 10 / 10 < 10
          · rw [decDigits_small h5]; simp
          · rw [decDigits_big h5, List.length_append, decDigits_small (by omega)]; simp

theorem hdrX_dig {n : Nat} {c : UInt8} {r : Bytes} (hc : digB c = true) : hdrX n (c :: r) = .bad := by
  unfold hdrX
  have h13 : c ≠ 13 := by rintro rfl; exact absurd hc (by decide)
  have e1 : (c :: r).isPrefixOf crlf = false := by
    rw [Bool.eq_false_iff]; intro h
    rw [List.isPrefixOf_iff_prefix] at h
    obtain ⟨z, hz⟩ := h
    simp [crlf] at hz
    exact h13 hz.1
  have e2 : crlf.isPrefixOf (c :: r) = false := by
    rw [Bool.eq_false_iff]; intro h
    rw [List.isPrefixOf_iff_prefix] at h
    obtain ⟨z, hz⟩ := h
    simp [crlf] at hz
    exact h13 hz.1.symm
  rw [e1, e2]; simp

/-- the digits at the head: their number, six at most -/
def dg (t : Bytes) : Nat := min 6 (t.takeWhile digB).length

theorem dg_le (t : Bytes) : dg t ≤ t.length := by
  unfold dg
  have := (List.takeWhile_prefix digB (l := t)).length_le
  omega
theorem tw_take (t : Bytes) {k : Nat} (h : k ≤ (t.takeWhile digB).length) : t.take k = (t.takeWhile digB).take k := by
  obtain ⟨z, hz⟩ := List.takeWhile_prefix digB (l := t)
  conv => lhs; rw [← hz]
  rw [List.take_append_of_le_length h]

theorem hdrT_dg (t : Bytes) (h : 1 ≤ dg t) : hdrT t = match num? (t.take (dg t)) with
    | none => .bad
    | some n => if 100000 < n then .bad else hdrX n.toNat (t.drop (dg t)) := by
  have hne : t.takeWhile digB ≠ [] := by intro e; unfold dg at h; rw [e] at h; simp at h
  by_cases h6 : (t.takeWhile digB).length ≤ 6
  · have hk : dg t = (t.takeWhile digB).length := by unfold dg; omega
    have e1 : t.take (dg t) = t.takeWhile digB := by rw [tw_take t (by omega), hk, List.take_length]
    have e2 : t.drop (dg t) = t.dropWhile digB := by
      have h3 : (t.takeWhile digB ++ t.dropWhile digB).drop (t.takeWhile digB).length = t.dropWhile digB := List.drop_left
      rw [← takeDrop digB t] at h3
      rw [hk, h3]
    rw [e1, e2]
    unfold hdrT hdrX
    simp only [if_neg hne]
    cases num? (t.takeWhile digB) <;> rfl
  · have hk : dg t = 6 := by unfold dg; omega
    have hbad : hdrT t = .bad := by
      refine hdrT_bad hne fun m hm => ?_
      obtain ⟨m', hm', hd⟩ := num?_digits (tw_dig t) hm
      rcases Nat.lt_or_ge 100000 m with h | h
      · exact h
      · have e : m = m' := by omega
        subst e
        have := dec_len6 m h
        rw [← hd] at this; omega
    rw [hbad, hk]
    cases num? (t.take 6) with
    | none => rfl
    | some n =>
      simp only
      split
      · rfl
      · have h7 : 6 < (t.takeWhile digB).length := by omega
        obtain ⟨z, hz⟩ := List.takeWhile_prefix digB (l := t)
        have hl : 6 < t.length := by rw [← hz, List.length_append]; omega
        rw [List.drop_eq_getElem_cons hl, hdrX_dig]
        have : t[6] = (t.takeWhile digB)[6] := by
          have e : t[6]? = (t.takeWhile digB)[6]? := by
            conv => lhs; rw [← hz]
            rw [List.getElem?_append_left h7]
          rw [List.getElem?_eq_getElem hl, List.getElem?_eq_getElem h7] at e
          injection e
        rw [this]
        exact tw_dig t _ (List.getElem_mem h7)
theorem hdrT_dg0 (t : Bytes) (h : dg t = 0) : hdrT t = if t = [] then .more else .bad := by
  have hne : t.takeWhile digB = [] := by
    unfold dg at h
    exact List.eq_nil_of_length_eq_zero (by omega)
  unfold hdrT; simp only [hne, if_true]

theorem dg_in (t : Bytes) {j : Nat} (hj : j < dg t) : digB (t.getD j 0) = true := by
  have h : j < (t.takeWhile digB).length := by unfold dg at hj; omega
  obtain ⟨z, hz⟩ := List.takeWhile_prefix digB (l := t)
  rw [List.getD_eq_getElem?_getD]
  conv => lhs; rw [← hz]
  rw [List.getElem?_append_left h, List.getElem?_eq_getElem h]
  exact tw_dig t _ (List.getElem_mem h)
theorem dg_out (t : Bytes) (h : dg t < t.length) (h6 : dg t < 6) : digB (t.getD (dg t) 0) = false := by
  have hk : dg t = (t.takeWhile digB).length := by unfold dg at h6 ⊢; omega
  have := takeDrop digB t
  cases hd : t.dropWhile digB with
  | nil => rw [hd, List.append_nil] at this; rw [hk, ← this] at h; omega
  | cons c r =>
    have hc := List.head_dropWhile_not digB (by rw [hd]; simp : t.dropWhile digB ≠ [])
    simp only [hd, List.head_cons] at hc
    have h4 : t[dg t]? = some c := by
      have h5 : (t.takeWhile digB ++ c :: r)[(t.takeWhile digB).length]? = some c := by
        rw [List.getElem?_append_right (Nat.le_refl _)]; simp
      rw [← hd, ← takeDrop digB t, ← hk] at h5
      exact h5
    rw [List.getD_eq_getElem?_getD, h4]
    exact hc
end Go.Proofs.YthooajbhiikbfaaGreatDoor
