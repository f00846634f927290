/- A part of the proofs of the statements of emendatelaw55 (layer protocol): method of the reference. Conditions: those that stand in each theorem, no other. -/
import Derived.Test.YthooajbhiikbfaaGreatDoorEmD
namespace Go.Proofs.YthooajbhiikbfaaGreatDoor
open Go Go.RowKit Em

theorem validM_false {l : Bytes} {k : Nat} (hk : k < l.length) (hb : small (l.getD k 0) = false) : validM l = false := by
  have := all_small_bad l k hk hb
  unfold validM; rw [this, Bool.and_false]
theorem getD_at (s : ByteArray) (k : Nat) (h : k < s.size) : s.data.toList.getD k 0 = s[k] := by
  have h2 : k < s.data.toList.length := by rw [← Lib.size_eq]; exact h
  rw [List.getD_eq_getElem?_getD, List.getElem?_eq_getElem h2]
  rfl

theorem small_at (s : ByteArray) (k : Nat) (h : k < s.size) : small (s.data.toList.getD k 0) = (!(decide ((s[k].toNat : Int) < 97)) && !(decide ((122:Int) < (s[k].toNat : Int)))) := by
  rw [getD_at s k h]; exact int_small s[k]

set_option maxHeartbeats 400000 in
theorem method_any (s : ByteArray) (w : World) (hs : s.size ≤ 140737488355328) :
    Calls Tryz.prog 21 #[.string s] w fun e w' => e = .returned (.bool (validM s.data.toList)) ∧ w = w' := by
  have HL := Lib.hid (show s.data.toList.length = s.size from (Lib.size_eq s).symm)
  go_enter Tryz.func21, Tryz.ntmps21
  go_wp2
  go_loop [3] (fun i => ∃ k : Nat, k ≤ s.size ∧ i = .int .i64 k ∧ (s.data.toList.take k).all small = true) (fun i => s.size - (intOf i).toNat)
  case atStart => exact ⟨0, Nat.zero_le _, rfl, by simp⟩
  case round =>
    obtain ⟨k, hk, rfl, hall⟩ := hrel
    have HA := Lib.hid hall
    clear hall
    by_cases hlt : k < s.size
    · have HS := Lib.hid (small_at s k hlt)
      by_cases h1 : (s[k].toNat : Int) < 97
      · have HF := Lib.hid (show validM s.data.toList = false from validM_false (k := k) (by rw [HL.out]; exact hlt) (by rw [HS.out]; simp [h1]))
        go_wp2
        go_ret
        exact ⟨ret_bool HF.out.symm, rfl⟩
      · by_cases h2 : (122 : Int) < (s[k].toNat : Int)
        · have HF := Lib.hid (show validM s.data.toList = false from validM_false (k := k) (by rw [HL.out]; exact hlt) (by rw [HS.out]; simp [h2]))
          go_wp2
          go_ret
          exact ⟨ret_bool HF.out.symm, rfl⟩
        · have HT := Lib.hid (all_small_take _ k (by rw [HL.out]; exact hlt) HA.out (by rw [HS.out]; simp [h1, h2]))
          go_wp2
          go_round
          case rel => exact ⟨k + 1, by omega, by go_num, HT.out⟩
          case measure => simp [intOf]; omega
    · have HT := Lib.hid (show s.data.toList.all small = true from by
        have h2 := HA.out
        rw [List.take_of_length_le (by rw [HL.out]; omega)] at h2
        exact h2)
      have HV := Lib.hid (show validM s.data.toList = (decide (1 ≤ s.size) && decide (s.size ≤ 24)) from by
        unfold validM; rw [HL.out, HT.out, Bool.and_true])
      by_cases h1 : (s.size : Int) ≥ 1
      · by_cases h2 : (s.size : Int) ≤ 24
        · go_wp2
          go_ret
          exact ⟨ret_bool (by rw [HV.out]; simp; omega), rfl⟩
        · go_wp2
          go_ret
          exact ⟨ret_bool (by rw [HV.out]; simp; omega), rfl⟩
      · have hd : decide ((1:Int) ≤ (s.size : Int)) = false := by simp; omega
        go_wp2
        go_ret
        exact ⟨ret_bool (by rw [HV.out]; simp; omega), rfl⟩
end Go.Proofs.YthooajbhiikbfaaGreatDoor
