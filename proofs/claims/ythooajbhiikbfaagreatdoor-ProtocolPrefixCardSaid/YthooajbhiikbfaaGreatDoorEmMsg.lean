/- A part of the proofs of the statements of emendatelaw55 (layer protocol): the text of a message and how it is read back. Conditions: those that stand in each theorem, no other. -/
import Derived.Test.YthooajbhiikbfaaGreatDoorEmPlain
namespace Em
open Go.Lib

/-- A message. -/
structure Msg where
  id : Int
  meth : Bytes
  args : List Bytes

def pre : Bytes := [67, 111, 110, 116, 101, 110, 116, 45, 76, 101, 110, 103, 116, 104, 58, 32]
def crlf : Bytes := [13, 10, 13, 10]

def small (c : UInt8) : Bool := 97 ≤ c.toNat && c.toNat ≤ 122
def validM (m : Bytes) : Bool := 1 ≤ m.length && m.length ≤ 24 && m.all small

def argL (a : Bytes) : Bytes := itoa a.length ++ 58 :: (a ++ [10])
def argsL (l : List Bytes) : Bytes := (l.map argL).flatten
def body (m : Msg) : Bytes := itoa m.id ++ 32 :: (m.meth ++ 10 :: argsL m.args)
def header (n : Nat) : Bytes := pre ++ (itoa n ++ crlf)
def encL (m : Msg) : Bytes := header (body m).length ++ body m
/-- A message is valid. -/
def valid (m : Msg) : Bool := validM m.meth && m.args.length ≤ 10 && (body m).length ≤ 100000

/-- before and behind the first c -/
def cutB (c : UInt8) : Bytes → Option (Bytes × Bytes)
  | [] => none
  | b :: r => if b = c then some ([], r) else (cutB c r).map fun p => (b :: p.1, p.2)

theorem cutB_some {c : UInt8} : ∀ {s a b : Bytes}, cutB c s = some (a, b) → s = a ++ c :: b ∧ c ∉ a
  | [], a, b, h => by simp [cutB] at h
  | x :: r, a, b, h => by
    unfold cutB at h
    split at h
    · rename_i hx
      simp only [Option.some.injEq, Prod.mk.injEq] at h
      obtain ⟨rfl, rfl⟩ := h
      subst hx; simp
    · rename_i hx
      cases hr : cutB c r with
      | none => rw [hr] at h; simp at h
      | some p =>
        rw [hr] at h
        simp only [Option.map_some, Option.some.injEq, Prod.mk.injEq] at h
        obtain ⟨rfl, rfl⟩ := h
        have := cutB_some (a := p.1) (b := p.2) hr
        refine ⟨by rw [this.1]; rfl, ?_⟩
        simp only [List.mem_cons, not_or]
        exact ⟨fun e => hx e.symm, this.2⟩

theorem cutB_append {c : UInt8} {a : Bytes} (b : Bytes) (h : c ∉ a) : cutB c (a ++ c :: b) = some (a, b) := by
  induction a with
  | nil => simp [cutB]
  | cons x r ih =>
    simp only [List.mem_cons, not_or] at h
    have hx : ¬ x = c := fun e => h.1 e.symm
    simp [cutB, hx, ih h.2]

theorem cutB_none {c : UInt8} : ∀ {s : Bytes}, cutB c s = none ↔ c ∉ s
  | [] => by simp [cutB]
  | x :: r => by
    unfold cutB
    by_cases hx : x = c
    · subst hx; simp
    · rw [if_neg hx]
      have := cutB_none (c := c) (s := r)
      simp only [Option.map_eq_none_iff, List.mem_cons, not_or]
      constructor
      · intro h; exact ⟨fun e => hx e.symm, this.1 h⟩
      · intro h; exact this.2 h.2

/-- the arguments: at most k of them -/
def pargs : Nat → Bytes → Option (List Bytes)
  | _, [] => some []
  | 0, _ :: _ => none
  | k + 1, x :: t =>
    match cutB 58 (x :: t) with
    | none => none
    | some (w, rest) =>
      match num? w with
      | none => none
      | some n => if n < 0 ∨ (rest.length : Int) ≤ n ∨ rest[n.toNat]? ≠ some 10 then none
        else (pargs k (rest.drop (n.toNat + 1))).map (rest.take n.toNat :: ·)

def parse (b : Bytes) : Option Msg :=
  match cutB 32 b with
  | none => none
  | some (w, r) =>
    match num? w with
    | none => none
    | some id =>
      match cutB 10 r with
      | none => none
      | some (m, r2) => if validM m then (pargs 10 r2).map fun l => ⟨id, m, l⟩ else none

theorem notin_itoa {c : UInt8} (n : Int) (h : c.toNat ≠ 45) (h2 : c.toNat < 48 ∨ 57 < c.toNat) : c ∉ itoa n := by
  intro hc
  have := itoa_mem n c hc
  omega

theorem pargs_argsL : ∀ (l : List Bytes) (k : Nat), l.length ≤ k → (∀ a ∈ l, (a.length : Int) ≤ 9223372036854775807) → pargs k (argsL l) = some l
  | [], k, _, _ => by cases k <;> simp [argsL, pargs]
  | a :: l, 0, h, _ => by simp at h
  | a :: l, k + 1, h, hl => by
    have e : argsL (a :: l) = itoa a.length ++ 58 :: (a ++ 10 :: argsL l) := by simp [argsL, argL]
    have hne := itoa_ne (a.length : Int)
    have hcut := cutB_append (c := 58) (a := itoa a.length) (a ++ 10 :: argsL l) (notin_itoa _ (by decide) (by decide))
    rw [e]
    cases hi : itoa (a.length : Int) with
    | nil => exact absurd hi hne
    | cons x t =>
      rw [hi] at hcut
      rw [List.cons_append] at hcut ⊢
      unfold pargs
      rw [hcut]
      have hn : num? (x :: t) = some (a.length : Int) := by
        rw [← hi]; exact num?_itoa ⟨by omega, hl a (by simp)⟩
      simp only [hn, Int.toNat_natCast]
      rw [if_neg (by simp; omega)]
      have e1 : List.drop (a.length + 1) (a ++ 10 :: argsL l) = argsL l := by
        rw [← List.drop_drop, List.drop_left]; rfl
      have e2 : List.take a.length (a ++ 10 :: argsL l) = a := List.take_left
      rw [e1, e2, pargs_argsL l k (by simpa using h) (fun b hb => hl b (by simp [hb]))]
      rfl

theorem pargs_sound : ∀ (k : Nat) (b : Bytes) (l : List Bytes), pargs k b = some l → b = argsL l ∧ l.length ≤ k
  | k, [], l, h => by
    have : l = [] := by cases k <;> simp [pargs] at h <;> exact h
    subst this; simp [argsL]
  | 0, x :: t, l, h => by simp [pargs] at h
  | k + 1, x :: t, l, h => by
    unfold pargs at h
    split at h
    · cases h
    · rename_i w rest hc
      obtain ⟨hs, _⟩ := cutB_some hc
      split at h
      · cases h
      · rename_i n hn
        obtain ⟨hw, hr⟩ := num?_some.1 hn
        split at h
        · cases h
        · rename_i hcond
          simp only [not_or, Decidable.not_not] at hcond
          obtain ⟨h0, h1, h2⟩ := hcond
          cases hp : pargs k (rest.drop (n.toNat + 1)) with
          | none => rw [hp] at h; cases h
          | some l2 =>
            rw [hp] at h
            simp only [Option.map_some, Option.some.injEq] at h
            subst h
            obtain ⟨i1, i2⟩ := pargs_sound k _ _ hp
            refine ⟨?_, by simpa using i2⟩
            have hlen : (rest.take n.toNat).length = n.toNat := by rw [List.length_take]; omega
            have e1 : argsL (rest.take n.toNat :: l2) = itoa (rest.take n.toNat).length ++ 58 :: (rest.take n.toNat ++ 10 :: argsL l2) := by simp [argsL, argL]
            rw [e1, hlen, ← i1, hs, hw, Int.toNat_of_nonneg (by omega)]
            congr 2
            have hlt : n.toNat < rest.length := by omega
            have h3 : rest[n.toNat] = 10 := by
              rw [List.getElem?_eq_getElem hlt] at h2; injection h2
            rw [← h3, List.getElem_cons_drop, List.take_append_drop]

theorem small_ne {m : Bytes} (h : validM m = true) (c : UInt8) (hc : c.toNat < 97) : c ∉ m := by
  intro hm
  unfold validM at h
  simp only [Bool.and_eq_true, List.all_eq_true, decide_eq_true_eq] at h
  have := h.2 c hm
  unfold small at this
  simp only [Bool.and_eq_true, decide_eq_true_eq] at this
  omega

theorem length_argsL_mem {l : List Bytes} {a : Bytes} (h : a ∈ l) : a.length ≤ (argsL l).length := by
  induction l with
  | nil => simp at h
  | cons b t ih =>
    have e : argsL (b :: t) = argL b ++ argsL t := by simp [argsL]
    rw [e, List.length_append]
    rcases List.mem_cons.1 h with rfl | h
    · simp [argL]; omega
    · have := ih h; omega

theorem parse_body (m : Msg) (hv : valid m = true) (hi : inR m.id) : parse (body m) = some m := by
  unfold valid at hv
  simp only [Bool.and_eq_true, decide_eq_true_eq] at hv
  obtain ⟨⟨h1, h2⟩, h3⟩ := hv
  unfold parse body
  rw [cutB_append _ (notin_itoa _ (by decide) (by decide))]
  simp only [num?_itoa hi]
  rw [cutB_append _ (small_ne h1 10 (by decide))]
  simp only [h1, if_true]
  rw [pargs_argsL _ _ h2]
  · rfl
  · intro a ha
    have := length_argsL_mem ha
    have hl : (argsL m.args).length ≤ (body m).length := by unfold body; simp; omega
    omega

theorem parse_sound {b : Bytes} {m : Msg} (h : parse b = some m) : b = body m ∧ validM m.meth = true ∧ m.args.length ≤ 10 ∧ inR m.id := by
  unfold parse at h
  split at h
  · cases h
  · rename_i w r hc
    split at h
    · cases h
    · rename_i id hid
      split at h
      · cases h
      · rename_i mm r2 hc2
        split at h
        · rename_i hv
          cases hp : pargs 10 r2 with
          | none => rw [hp] at h; cases h
          | some l =>
            rw [hp] at h
            simp only [Option.map_some, Option.some.injEq] at h
            subst h
            obtain ⟨i1, i2⟩ := pargs_sound _ _ _ hp
            obtain ⟨j1, j2⟩ := num?_some.1 hid
            obtain ⟨c1, _⟩ := cutB_some hc
            obtain ⟨c2, _⟩ := cutB_some hc2
            refine ⟨?_, hv, i2, j2⟩
            show b = itoa id ++ 32 :: (mm ++ 10 :: argsL l)
            rw [c1, c2, i1, j1]
        · cases h

end Em
