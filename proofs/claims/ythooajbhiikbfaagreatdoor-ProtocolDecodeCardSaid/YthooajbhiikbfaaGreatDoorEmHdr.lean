/- A part of the proofs of the statements of emendatelaw55 (layer protocol): headers; what a decoding finds; an encoding is decoded, a proper prefix is not. Conditions: those that stand in each theorem, no other. -/
import Derived.Test.YthooajbhiikbfaaGreatDoorEmMsg
namespace Em
open Go.Lib

def digB (c : UInt8) : Bool := 48 ≤ c.toNat && c.toNat ≤ 57

/-- what a header is found to be -/
inductive H where
  | more
  | bad
  | ok (n : Nat) (rest : Bytes)

/-- behind "Content-Length: " -/
def hdrT (t : Bytes) : H :=
  let ds := t.takeWhile digB
  let rest := t.dropWhile digB
  if ds = [] then (if t = [] then .more else .bad)
  else match num? ds with
    | none => .bad
    | some n => if 100000 < n then .bad
      else if rest.length < 4 then (if rest.isPrefixOf crlf then .more else .bad)
      else if crlf.isPrefixOf rest then .ok n.toNat (rest.drop 4) else .bad

def hdr (s : Bytes) : H :=
  if s.length < 16 then (if s.isPrefixOf pre then .more else .bad)
  else if pre.isPrefixOf s then hdrT (s.drop 16) else .bad

/-- what stands at the beginning of a stream -/
inductive R where
  | more
  | bad
  | ok (m : Msg) (n : Nat)

def dec (s : Bytes) : R :=
  match hdr s with
  | .more => .more
  | .bad => .bad
  | .ok n rest =>
    if rest.length < n then .more
    else match parse (rest.take n) with
      | none => .bad
      | some m => .ok m (s.length - rest.length + n)

theorem takeWhile_append_stop {α : Type} (p : α → Bool) (l r : List α) (hl : ∀ c ∈ l, p c = true) (hr : ∀ c, r.head? = some c → p c = false) :
    (l ++ r).takeWhile p = l ∧ (l ++ r).dropWhile p = r := by
  induction l with
  | nil =>
    cases r with
    | nil => simp
    | cons c t => have := hr c rfl; simp [this]
  | cons c t ih =>
    have hc := hl c (by simp)
    have := ih (fun d hd => hl d (by simp [hd]))
    simp [hc, this.1, this.2]

theorem itoa_dig (n : Nat) : ∀ c ∈ itoa (n : Int), digB c = true := by
  intro c hc
  rw [itoa_nonneg] at hc
  have := decDigits_digit n c hc
  unfold digB
  simp only [Bool.and_eq_true, decide_eq_true_eq]
  omega

theorem hdrT_header (n : Nat) (hn : n ≤ 100000) (r : Bytes) : hdrT (itoa n ++ (crlf ++ r)) = .ok n r := by
  obtain ⟨e1, e2⟩ := takeWhile_append_stop digB (itoa n) (crlf ++ r) (itoa_dig n) (by intro c hc; simp [crlf] at hc; subst hc; rfl)
  unfold hdrT
  simp only [e1, e2, if_neg (itoa_ne n), num?_itoa (n := (n : Int)) ⟨by omega, by omega⟩]
  rw [if_neg (by omega), if_neg (by simp [crlf]), if_pos (by simp [crlf, List.isPrefixOf])]
  simp [crlf]

theorem isPrefixOf_append (p r : Bytes) : p.isPrefixOf (p ++ r) = true := by
  rw [List.isPrefixOf_iff_prefix]; exact List.prefix_append p r

theorem hdr_header (n : Nat) (hn : n ≤ 100000) (r : Bytes) : hdr (header n ++ r) = .ok n r := by
  have e : header n ++ r = pre ++ (itoa n ++ (crlf ++ r)) := by simp [header]
  rw [e]
  unfold hdr
  rw [if_neg (by simp [pre]), isPrefixOf_append, if_pos rfl]
  have e2 : List.drop 16 (pre ++ (itoa n ++ (crlf ++ r))) = itoa n ++ (crlf ++ r) := List.drop_left (l₁ := pre)
  rw [e2, hdrT_header n hn r]

theorem prefix_split {p s : Bytes} (h : p.isPrefixOf s = true) : s = p ++ s.drop p.length := by
  rw [List.isPrefixOf_iff_prefix] at h
  obtain ⟨t, rfl⟩ := h
  simp

theorem takeDrop (p : UInt8 → Bool) (t : Bytes) : t = t.takeWhile p ++ t.dropWhile p := List.takeWhile_append_dropWhile.symm

theorem dig_nonneg {ds : Bytes} {n : Int} (hd : ∀ c ∈ ds, digB c = true) (he : ds = itoa n) : 0 ≤ n := by
  rcases Int.lt_or_le n 0 with hneg | h
  · have h2 : (45 : UInt8) ∈ ds := by rw [he]; unfold itoa; rw [if_pos hneg]; simp
    have h3 := hd 45 h2
    exact absurd h3 (by decide)
  · exact h

theorem hdrT_sound {t : Bytes} {n : Nat} {rest : Bytes} (h : hdrT t = .ok n rest) : t = itoa n ++ (crlf ++ rest) ∧ n ≤ 100000 := by
  have ht := takeDrop digB t
  have hd : ∀ c ∈ t.takeWhile digB, digB c = true := fun c hc => by
    have := List.all_takeWhile (p := digB) (l := t); rw [List.all_eq_true] at this; exact this c hc
  unfold hdrT at h
  simp only at h
  generalize t.takeWhile digB = ds at *
  generalize t.dropWhile digB = rs at *
  split at h
  · split at h <;> cases h
  · split at h
    · cases h
    · rename_i m hm
      obtain ⟨e1, e2⟩ := num?_some.1 hm
      split at h
      · cases h
      · rename_i hle
        split at h
        · split at h <;> cases h
        · split at h
          · rename_i hp
            simp only [H.ok.injEq] at h
            obtain ⟨rfl, rfl⟩ := h
            have hnn := dig_nonneg hd e1
            refine ⟨?_, by omega⟩
            rw [Int.toNat_of_nonneg hnn, ← e1, ht]
            congr 1
            exact prefix_split hp
          · cases h

theorem hdr_sound {s : Bytes} {n : Nat} {rest : Bytes} (h : hdr s = .ok n rest) : s = header n ++ rest ∧ n ≤ 100000 := by
  unfold hdr at h
  split at h
  · split at h <;> cases h
  · split at h
    · rename_i hp
      obtain ⟨e, hn⟩ := hdrT_sound h
      refine ⟨?_, hn⟩
      have := prefix_split hp
      have e16 : pre.length = 16 := rfl
      rw [e16, e] at this
      rw [this]; simp [header]
    · cases h

theorem header_length (n : Nat) : (header n).length = 20 + (itoa n).length := by simp [header, pre, crlf]; omega

/-- a proper prefix of a header -/
theorem hdr_prefix (n k : Nat) (hn : n ≤ 100000) (hk : k < (header n).length) : hdr ((header n).take k) = .more := by
  unfold hdr
  have hl : ((header n).take k).length = k := by rw [List.length_take]; omega
  rw [hl]
  by_cases h16 : k < 16
  · rw [if_pos h16]
    have : (header n).take k = pre.take k := by
      unfold header; rw [List.take_append_of_le_length (by simp [pre]; omega)]
    rw [this, if_pos]
    rw [List.isPrefixOf_iff_prefix]; exact List.take_prefix k pre
  · rw [if_neg h16]
    obtain ⟨j, rfl⟩ : ∃ j, k = 16 + j := ⟨k - 16, by omega⟩
    have e : (header n).take (16 + j) = pre ++ (itoa n ++ crlf).take j := by
      unfold header
      have := List.take_length_add_append (l₁ := pre) (l₂ := itoa n ++ crlf) (i := j)
      exact this
    rw [e, isPrefixOf_append, if_pos rfl]
    have e2 : List.drop 16 (pre ++ (itoa n ++ crlf).take j) = (itoa n ++ crlf).take j := List.drop_left (l₁ := pre)
    rw [e2]
    have hj : j < (itoa (n : Int)).length + 4 := by rw [header_length] at hk; omega
    by_cases hj2 : j ≤ (itoa (n : Int)).length
    · rw [List.take_append_of_le_length hj2]
      have hd : ∀ c ∈ (itoa (n : Int)).take j, digB c = true := fun c hc => itoa_dig n c (List.mem_of_mem_take hc)
      obtain ⟨e3, e4⟩ := takeWhile_append_stop digB ((itoa (n : Int)).take j) [] hd (by simp)
      rw [List.append_nil] at e3 e4
      unfold hdrT
      simp only [e3, e4]
      by_cases hj0 : (itoa (n : Int)).take j = []
      · rw [if_pos hj0, if_pos hj0]
      · rw [if_neg hj0]
        have hlen : 1 ≤ j := by
          rcases Nat.eq_zero_or_pos j with rfl | h
          · simp at hj0
          · exact h
        obtain ⟨m, hm, hmn⟩ : ∃ m : Nat, (itoa (n : Int)).take j = itoa (m : Int) ∧ m ≤ n := by
          rw [itoa_nonneg]
          clear e e2 e3 e4 hd hj0 hj hl hk h16
          rw [itoa_nonneg] at hj2
          induction n using Nat.strongRecOn with
          | _ n ih =>
            by_cases hsm : n < 10
            · rw [decDigits_small hsm] at hj2 ⊢
              have : j = 1 := by simp at hj2; omega
              subst this
              exact ⟨n, by rw [itoa_nonneg, decDigits_small hsm]; rfl, Nat.le_refl _⟩
            · rw [decDigits_big hsm] at hj2 ⊢
              by_cases hj3 : j ≤ (decDigits (n / 10)).length
              · rw [List.take_append_of_le_length hj3]
                obtain ⟨m, hm, hle⟩ := ih (n / 10) (by omega) (by omega) hj3
                exact ⟨m, hm, by omega⟩
              · refine ⟨n, ?_, Nat.le_refl _⟩
                rw [itoa_nonneg, decDigits_big hsm, List.take_of_length_le]
                simp at hj2 ⊢; omega
        rw [hm, num?_itoa ⟨by omega, by omega⟩]
        simp only
        rw [if_neg (by omega)]
        rw [if_pos (by simp), if_pos (by simp [List.isPrefixOf])]
    · obtain ⟨i, hi⟩ : ∃ i, j = (itoa (n : Int)).length + i := ⟨j - (itoa (n : Int)).length, by omega⟩
      have e5 : (itoa (n : Int) ++ crlf).take j = itoa (n : Int) ++ crlf.take i := by
        rw [hi]; exact List.take_length_add_append _
      rw [e5]
      have hi4 : i < 4 := by omega
      have hi0 : 0 < i := by omega
      obtain ⟨e3, e4⟩ := takeWhile_append_stop digB (itoa (n : Int)) (crlf.take i) (itoa_dig n) (by
        intro c hc
        have : (crlf.take i).head? = some 13 := by
          rw [List.head?_take]; simp [crlf]; omega
        rw [this] at hc; injection hc with hc; subst hc; rfl)
      unfold hdrT
      simp only [e3, e4, if_neg (itoa_ne n), num?_itoa (n := (n : Int)) ⟨by omega, by omega⟩]
      rw [if_neg (by omega), if_pos (by simp [crlf]; omega), if_pos]
      rw [List.isPrefixOf_iff_prefix]; exact List.take_prefix i crlf

theorem body_length_pos (m : Msg) : 0 < (body m).length := by unfold body; simp; omega

/-- Decoding an encoding, with any bytes behind it. -/
theorem dec_enc (m : Msg) (hv : valid m = true) (hi : inR m.id) (r : Bytes) : dec (encL m ++ r) = .ok m (encL m).length := by
  have hb : (body m).length ≤ 100000 := by
    unfold valid at hv; simp only [Bool.and_eq_true, decide_eq_true_eq] at hv; exact hv.2
  unfold dec encL
  rw [List.append_assoc, hdr_header _ hb]
  simp only
  rw [if_neg (by simp), List.take_left, parse_body m hv hi]
  simp

/-- Decoding a proper prefix of an encoding. -/
theorem dec_prefix (m : Msg) (hv : valid m = true) (k : Nat) (hk : k < (encL m).length) : dec ((encL m).take k) = .more := by
  have hb : (body m).length ≤ 100000 := by
    unfold valid at hv; simp only [Bool.and_eq_true, decide_eq_true_eq] at hv; exact hv.2
  unfold encL at hk ⊢
  by_cases h : k < (header (body m).length).length
  · rw [List.take_append_of_le_length (by omega)]
    unfold dec
    rw [hdr_prefix _ k hb h]
  · obtain ⟨j, rfl⟩ : ∃ j, k = (header (body m).length).length + j := ⟨k - (header (body m).length).length, by omega⟩
    rw [List.take_length_add_append]
    unfold dec
    rw [hdr_header _ hb]
    simp only
    rw [if_pos]
    rw [List.length_take]
    rw [List.length_append] at hk
    omega

/-- What is decoded is an encoding. -/
theorem dec_sound {s : Bytes} {m : Msg} {n : Nat} (h : dec s = .ok m n) :
    valid m = true ∧ inR m.id ∧ n = (encL m).length ∧ s.take n = encL m := by
  unfold dec at h
  split at h
  · cases h
  · cases h
  · rename_i k rest hh
    obtain ⟨e, hk⟩ := hdr_sound hh
    split at h
    · cases h
    · rename_i hlt
      split at h
      · cases h
      · rename_i mm hp
        simp only [R.ok.injEq] at h
        obtain ⟨rfl, rfl⟩ := h
        obtain ⟨b1, b2, b3, b4⟩ := parse_sound hp
        have hbl : (body mm).length = k := by rw [← b1, List.length_take]; omega
        have hv : valid mm = true := by unfold valid; simp [b2, b3, hbl, hk]
        have hn : s.length - rest.length + k = (encL mm).length := by
          rw [e]; unfold encL; rw [hbl]; simp [hbl]
        refine ⟨hv, b4, hn, ?_⟩
        rw [hn, e]
        unfold encL
        rw [hbl, List.length_append, List.take_length_add_append, hbl, b1]

end Em
