/- A part of the proofs of the statements of emendatelaw55 (layer protocol): events in plain words. Conditions: those that stand in each theorem, no other. -/
import Derived.Test.YthooajbhiikbfaaGreatDoorEmJ
namespace Go.Proofs.YthooajbhiikbfaaGreatDoor
open Go Go.RowKit Em

theorem refOk_nil : refOk [] = false := by simp [refOk, numBody]

set_option maxRecDepth 100000 in
set_option maxHeartbeats 400000 in
theorem numberR_zero (s : ByteArray) (hs : s.size = 0) (w : World) : Calls Tryz.prog 72 #[.string s] w (NumRBad w) := by
  have h0 : s = ⟨#[]⟩ := by
    apply ByteArray.ext
    exact Array.eq_empty_of_size_eq_zero hs
  subst h0
  go_enter Tryz.func72, Tryz.ntmps72
  go_wp2
  go_ret2
  exact ⟨_, rfl, Below.refl _ _⟩

set_option maxRecDepth 100000 in
set_option maxHeartbeats 400000 in
theorem numberR_long (s : ByteArray) (hs : 20 < s.size) (hx : s.size ≤ 140737488355328) (w : World) : Calls Tryz.prog 72 #[.string s] w (NumRBad w) := by
  have hp : 0 < s.size := by omega
  have h1 : ((s.size : Int) == 1) = false := by rw [beq_eq_false_iff_ne]; omega
  have h2 : ((s.size : Int) == 0) = false := by rw [beq_eq_false_iff_ne]; omega
  by_cases hm : ((s[0].toNat : Int) == 45) = true
  · go_enter Tryz.func72, Tryz.ntmps72
    go_wp2
    go_ret2
    exact ⟨_, rfl, Below.refl _ _⟩
  · have hm : ((s[0].toNat : Int) == 45) = false := by simpa using hm
    go_enter Tryz.func72, Tryz.ntmps72
    go_wp2
    go_ret2
    exact ⟨_, rfl, Below.refl _ _⟩

set_option maxRecDepth 100000 in
set_option maxHeartbeats 400000 in
theorem numberR_sign (s : ByteArray) (hs : s.size = 1) (hm : ((s[0]'(by omega)).toNat : Int) = 45) (w : World) : Calls Tryz.prog 72 #[.string s] w (NumRBad w) := by
  have h0 : s = ⟨#[45]⟩ := by
    apply ByteArray.ext
    apply Array.ext
    · exact hs
    · intro i h1 h2
      have : i = 0 := by simp at h2; exact h2
      subst this
      have e : s.data[0] = s[0]'(by omega) := rfl
      have : (s[0]'(by omega)) = 45 := by apply UInt8.toNat_inj.1; have : ((s[0]'(by omega)).toNat : Int) = 45 := hm; simp; omega
      rw [e, this]; rfl
  subst h0
  go_enter Tryz.func72, Tryz.ntmps72
  go_wp2
  go_ret2
  exact ⟨_, rfl, Below.refl _ _⟩

theorem numberR_any (s : ByteArray) (hx : s.size ≤ 140737488355328) (w : World) :
    Calls Tryz.prog 72 #[.string s] w fun e w' => if refOk s.data.toList = true then (e = .returned (.tuple #[.int .i64 (refVal s.data.toList), .bool true]) ∧ Below w.heap.size w w') else NumRBad w e w' := by
  rcases Nat.eq_zero_or_pos s.size with h0 | h0
  · refine (numberR_zero s h0 w).mono fun e w' h => ?_
    rw [if_neg]; exact h
    have : s.data.toList = [] := List.eq_nil_of_length_eq_zero (by rw [← Lib.size_eq]; exact h0)
    rw [this, refOk_nil]; simp
  · by_cases h20 : s.size ≤ 20
    · by_cases h45 : s.data.toList.getD 0 0 = 45
      · by_cases h1 : 1 < s.size
        · exact numberR_minus s h0 h45 h20 h1 w
        · have hs1 : s.size = 1 := by omega
          refine (numberR_sign s hs1 (by rw [← getD_at s 0 h0, h45]; rfl) w).mono fun e w' h => ?_
          rw [if_neg]; exact h
          have : s.data.toList = [45] := by
            have hl : s.data.toList.length = 1 := by rw [← Lib.size_eq]; exact hs1
            match hd : s.data.toList, hl with
            | [c], _ => rw [hd] at h45; simp at h45; rw [h45]
          rw [this]; simp [refOk, numBody]
      · exact numberR_plus s h0 h45 h20 h0 w
    · refine (numberR_long s (by omega) hx w).mono fun e w' h => ?_
      rw [if_neg]; exact h
      rw [refOk_len (by omega)]; simp

theorem numR_ok (s : ByteArray) (n : Int) (h : num? s.data.toList = some n) (hx : s.size ≤ 140737488355328) (w : World) :
    Calls Tryz.prog 72 #[.string s] w fun e w' => e = .returned (.tuple #[.int .i64 n, .bool true]) ∧ Below w.heap.size w w' := by
  rw [num?_ref] at h
  refine (numberR_any s hx w).mono fun e w' hp => ?_
  split at h
  · rename_i hr
    injection h with h
    rw [if_pos hr, h] at hp; exact hp
  · cases h
theorem numR_bad (s : ByteArray) (h : num? s.data.toList = none) (hx : s.size ≤ 140737488355328) (w : World) :
    Calls Tryz.prog 72 #[.string s] w (NumRBad w) := by
  rw [num?_ref] at h
  refine (numberR_any s hx w).mono fun e w' hp => ?_
  split at h
  · cases h
  · rename_i hr
    rw [if_neg hr] at hp; exact hp
end Go.Proofs.YthooajbhiikbfaaGreatDoor
