/- A part of the proofs of the statements of emendatelaw55 (layer protocol): find and begins. Conditions: those that stand in each theorem, no other. -/
import Derived.Test.YthooajbhiikbfaaGreatDoorEmM
namespace Go.Proofs.YthooajbhiikbfaaGreatDoor
open Go Go.RowKit Em

/-- where c stands, from a on -/
def findZ (c : UInt8) (a : Nat) (l : Bytes) : Int := match cutB c (l.drop a) with | some (x, _) => ((a + x.length : Nat) : Int) | none => -1

theorem cutB_at (c : UInt8) (l : Bytes) (k : Nat) (hk : k < l.length) : cutB c (l.drop k) = if l.getD k 0 = c then some ([], l.drop (k + 1)) else (cutB c (l.drop (k + 1))).map fun p => (l.getD k 0 :: p.1, p.2) := by
  have e : l.drop k = l.getD k 0 :: l.drop (k + 1) := by
    rw [List.getD_eq_getElem?_getD, List.getElem?_eq_getElem hk]; exact List.drop_eq_getElem_cons hk
  rw [e, cutB]
theorem findZ_step {c : UInt8} {l : Bytes} {k : Nat} (hk : k < l.length) (hc : l.getD k 0 ≠ c) : findZ c (k + 1) l = findZ c k l := by
  unfold findZ
  rw [cutB_at c l k hk, if_neg hc]
  cases cutB c (l.drop (k + 1)) with
  | none => rfl
  | some p => simp; omega
theorem findZ_hit {c : UInt8} {l : Bytes} {k : Nat} (hk : k < l.length) (hc : l.getD k 0 = c) : findZ c k l = k := by
  unfold findZ; rw [cutB_at c l k hk, if_pos hc]; simp
theorem findZ_end {c : UInt8} {l : Bytes} {k : Nat} (hk : l.length ≤ k) : findZ c k l = -1 := by
  unfold findZ; rw [List.drop_of_length_le hk]; rfl

set_option maxHeartbeats 400000 in
theorem find_any (s : ByteArray) (a : Nat) (c : UInt8) (ha : a ≤ s.size) (hs : s.size ≤ 140737488355328) (w : World) :
    Calls Tryz.prog 40 #[.string s, .int .i64 a, .int .u8 (c.toNat : Int)] w fun e w' => e = .returned (.int .i64 (findZ c a s.data.toList)) ∧ w = w' := by
  obtain ⟨z, hz⟩ : ∃ z, findZ c a s.data.toList = z := ⟨_, rfl⟩
  have hlen : s.data.toList.length = s.size := (Lib.size_eq s).symm
  rw [hz]
  have HL := Lib.hid hlen
  have HZ := Lib.hid hz
  clear hlen hz
  go_enter Tryz.func40, Tryz.ntmps40
  go_wp2
  go_loop [7] (fun i => ∃ k : Nat, a ≤ k ∧ k ≤ s.size ∧ i = .int .i64 k ∧ findZ c k s.data.toList = z) (fun i => s.size - (intOf i).toNat)
  case atStart => exact ⟨a, Nat.le_refl _, ha, rfl, HZ.out⟩
  case round =>
    obtain ⟨k, hak, hk, rfl, hf⟩ := hrel
    have HF := Lib.hid hf
    clear hf
    by_cases hlt : k < s.size
    · have hkl := Lib.hid (show k < s.data.toList.length by rw [HL.out]; exact hlt)
      have HG := Lib.hid (getD_at s k hlt)
      by_cases h1 : (((s[k]'hlt).toNat : Int) == (c.toNat : Int)) = true
      · have HE := Lib.hid (show z = (k : Int) by
          rw [← HF.out]; refine findZ_hit hkl.out ?_
          rw [HG.out]; apply UInt8.toNat_inj.1; rw [beq_iff_eq] at h1; omega)
        go_wp2
        go_ret
        exact ⟨ret_int HE.out.symm, rfl⟩
      · have h1 : (((s[k]'hlt).toNat : Int) == (c.toNat : Int)) = false := by simpa using h1
        have HE := Lib.hid (show findZ c (k + 1) s.data.toList = z by
          rw [← HF.out]; refine findZ_step hkl.out ?_
          rw [HG.out]; intro e; have e2 := congrArg UInt8.toNat e; rw [beq_eq_false_iff_ne] at h1; exact h1 (by exact_mod_cast e2))
        go_wp2
        go_round
        case rel => exact ⟨k + 1, by omega, by omega, by go_num, HE.out⟩
        case measure => simp [intOf]; omega
    · have HE := Lib.hid (show z = -1 by rw [← HF.out]; exact findZ_end (by rw [HL.out]; omega))
      have hd : decide ((k : Int) < (s.size : Int)) = false := by simp; omega
      go_wp2
      go_ret
      exact ⟨ret_int HE.out.symm, rfl⟩

theorem prefix_take (t s : Bytes) : t.isPrefixOf s = (decide (t.length ≤ s.length) && (s.take t.length == t)) := by
  rw [Bool.eq_iff_iff]
  simp only [List.isPrefixOf_iff_prefix, Bool.and_eq_true, decide_eq_true_eq, beq_iff_eq]
  constructor
  · intro h; exact ⟨h.length_le, by rw [List.prefix_iff_eq_take.1 h]; simp⟩
  · rintro ⟨_, h⟩; rw [← h]; exact List.take_prefix _ _

set_option maxHeartbeats 400000 in
theorem begins_any (s t : ByteArray) (w : World) :
    Calls Tryz.prog 39 #[.string s, .string t] w fun e w' => e = .returned (.bool (t.data.toList.isPrefixOf s.data.toList)) ∧ w = w' := by
  have hp := prefix_take t.data.toList s.data.toList
  rw [← Lib.size_eq, ← Lib.size_eq] at hp
  have hx : (s.extract 0 t.size).data.toList = s.data.toList.take t.size := by rw [ext_list]; simp
  obtain ⟨b, hb⟩ : ∃ b, t.data.toList.isPrefixOf s.data.toList = b := ⟨_, rfl⟩
  rw [hb] at hp ⊢
  clear hb
  by_cases h1 : t.size ≤ s.size
  · have hd : decide ((t.size : Int) ≤ (s.size : Int)) = true := by simp; omega
    by_cases h2 : (s.data.toList.take t.size == t.data.toList) = true
    · have hb : b = true := by rw [hp, h2]; simp [h1]
      have he : ((s.extract 0 t.size).toList == t.toList) = true := by rw [Lib.toList_data, Lib.toList_data, hx]; exact h2
      subst hb
      clear hp hx h2
      go_enter Tryz.func39, Tryz.ntmps39
      go_wp2
      go_ret
      exact ⟨rfl, rfl⟩
    · have h2 : (s.data.toList.take t.size == t.data.toList) = false := by simpa using h2
      have hb : b = false := by rw [hp, h2]; simp
      have he : ((s.extract 0 t.size).toList == t.toList) = false := by rw [Lib.toList_data, Lib.toList_data, hx]; exact h2
      subst hb
      clear hp hx h2
      go_enter Tryz.func39, Tryz.ntmps39
      go_wp2
      go_ret
      exact ⟨rfl, rfl⟩
  · have hb : b = false := by rw [hp]; simp [h1]
    have hd : decide ((t.size : Int) ≤ (s.size : Int)) = false := by simp; omega
    subst hb
    clear hp hx
    go_enter Tryz.func39, Tryz.ntmps39
    go_wp2
    go_ret
    exact ⟨rfl, rfl⟩
end Go.Proofs.YthooajbhiikbfaaGreatDoor
