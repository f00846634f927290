/- A part of the proofs of the statements of emendatelaw55 (layer protocol): validMethod. Conditions: those that stand in each theorem, no other. -/
import Derived.Test.YthooajbhiikbfaaGreatDoorProg
import Derived.Test.YthooajbhiikbfaaGreatDoorEmHdr
import Derived.Test.YthooajbhiikbfaaGreatDoorEmNum
import Derived.WalkKit
import Derived.WalkLawsBesides
import Derived.WalkSpells
import Derived.Lib.Hide
import Derived.Lib.ConvBytes
import Derived.Lib.AtoiErrMem
import Derived.Deep.QuietTactic
import Derived.BigQuiet
import Derived.LoopTactic
import Derived.BigCall
import Derived.Outline
namespace Go.Proofs.YthooajbhiikbfaaGreatDoor
open Go Go.RowKit Em

set_option maxHeartbeats 400000 in
theorem validMethod_empty (s : ByteArray) (w : World) (h : s.data.toList = []) :
    Calls Tryz.prog 18 #[.string s] w fun e w' => e = .returned (.bool false) ∧ w = w' := by
  have hx : s.toList.isEmpty = true := by rw [Lib.toList_data, h]; rfl
  go_enter Tryz.func18, Tryz.ntmps18
  go_wp2
  go_ret
  exact ⟨rfl, rfl⟩

set_option maxHeartbeats 400000 in
theorem validMethod_long (s : ByteArray) (w : World) (h : 24 < s.size) :
    Calls Tryz.prog 18 #[.string s] w fun e w' => e = .returned (.bool false) ∧ w = w' := by
  have hx : s.toList.isEmpty = false := by
    rw [Lib.toList_data]
    cases he : s.data.toList with
    | nil => rw [Lib.size_eq, he] at h; simp at h
    | cons a b => rfl
  have h24 : decide ((24:Int) < (s.size : Int)) = true := by simp; omega
  go_enter Tryz.func18, Tryz.ntmps18
  go_wp2
  go_ret
  exact ⟨rfl, rfl⟩

theorem ret_bool {a b : Bool} (h : a = b) : Ending.returned (.bool a) = .returned (.bool b) := by rw [h]

theorem all_small_take (l : Bytes) (k : Nat) (hk : k < l.length) (h : (l.take k).all small = true) (hb : small (l.getD k 0) = true) : (l.take (k + 1)).all small = true := by
  rw [List.take_succ_eq_append_getElem hk, List.all_append, h]
  have e : l.getD k 0 = l[k] := by simp [List.getD, List.getElem?_eq_getElem hk]
  rw [e] at hb
  simp [hb]
theorem all_small_bad (l : Bytes) (k : Nat) (hk : k < l.length) (hb : small (l.getD k 0) = false) : l.all small = false := by
  have e : l.getD k 0 = l[k] := by simp [List.getD, List.getElem?_eq_getElem hk]
  rw [e] at hb
  cases h : l.all small with
  | false => rfl
  | true =>
    rw [List.all_eq_true] at h
    rw [h l[k] (List.getElem_mem hk)] at hb; cases hb

def allSmall (l : Bytes) : Bool := l.all small

theorem int_small (c : UInt8) : small c = (!(decide ((c.toNat : Int) < 97)) && !(decide ((122:Int) < (c.toNat : Int)))) := by
  unfold small
  rw [Bool.eq_iff_iff]; simp; omega

set_option maxHeartbeats 800000 in
theorem validMethod_mid (s : ByteArray) (w : World) (h0 : s.data.toList ≠ []) (h : s.size ≤ 24) :
    Calls Tryz.prog 18 #[.string s] w fun e w' => e = .returned (.bool (allSmall s.data.toList)) ∧ Below w.heap.size w w' := by
  have hlen : s.data.toList.length = s.size := (Lib.size_eq s).symm
  have hx : s.toList.isEmpty = false := by
    rw [Lib.toList_data]
    cases he : s.data.toList with
    | nil => exact absurd he h0
    | cons a b => rfl
  have h24 : decide ((24:Int) < (s.size : Int)) = false := by simp; omega
  have hcv := Lib.run_convert_string_bytes (P := Tryz.prog) w 9 60 5 s (u := .string) Tryz.underlying9 Tryz.underlying60 Tryz.underlying5
  have hcell := Lib.bytesWorld_cell w 5 s
  have hb := Lib.bytesWorld_below w 5 s
  generalize Lib.bytesWorld w 5 s = W1 at hcv hcell hb
  have HC := Lib.hid hcell
  have HL := Lib.hid hlen
  clear hcell hlen h0
  go_enter Tryz.func18, Tryz.ntmps18
  go_wp2
  go_loop [15] (fun i => ∃ k : Nat, k ≤ s.size ∧ i = .int .i64 k ∧ (s.data.toList.take k).all small = true) (fun i => s.size - (intOf i).toNat)
  case atStart => exact ⟨0, Nat.zero_le _, rfl, by simp⟩
  case round =>
    obtain ⟨k, hk, rfl, hall⟩ := hrel
    have HA := Lib.hid hall
    clear hall
    by_cases hlt : k < s.size
    · have hc := HC.out k hlt
      obtain ⟨c, hce⟩ : ∃ c, s.data.toList.getD k 0 = c := ⟨_, rfl⟩
      rw [hce] at hc
      have HE := Lib.hid hce
      clear hce
      have HS := Lib.hid (int_small c)
      by_cases h1 : (c.toNat : Int) < 97
      · have d1 : decide ((c.toNat : Int) < 97) = true := by simpa using h1
        go_wp2
        go_ret
        refine ⟨ret_bool ?_, hb⟩
        unfold allSmall
        rw [all_small_bad _ k (by rw [HL.out]; exact hlt) (by rw [HE.out, HS.out]; simp [d1])]
      · have d1 : decide ((c.toNat : Int) < 97) = false := by simpa using h1
        by_cases h2 : (122 : Int) < (c.toNat : Int)
        · have d2 : decide ((122 : Int) < (c.toNat : Int)) = true := by simpa using h2
          go_wp2
          go_ret
          refine ⟨ret_bool ?_, hb⟩
          unfold allSmall
          rw [all_small_bad _ k (by rw [HL.out]; exact hlt) (by rw [HE.out, HS.out]; simp [d1, d2])]
        · have d2 : decide ((122 : Int) < (c.toNat : Int)) = false := by simpa using h2
          go_wp2
          go_round
          case rel => exact ⟨k + 1, by omega, by go_num, all_small_take _ k (by rw [HL.out]; exact hlt) HA.out (by rw [HE.out, HS.out]; simp [d1, d2])⟩
          case measure => simp [intOf]; omega
    · go_wp2
      go_ret
      refine ⟨ret_bool ?_, hb⟩
      have : k = s.size := by omega
      have h2 := HA.out
      rw [List.take_of_length_le (by rw [HL.out]; omega)] at h2
      unfold allSmall
      rw [h2]

theorem validMethod_any (s : ByteArray) (w : World) :
    Calls Tryz.prog 18 #[.string s] w fun e w' => e = .returned (.bool (validM s.data.toList)) ∧ Below w.heap.size w w' := by
  have hlen : s.data.toList.length = s.size := (Lib.size_eq s).symm
  by_cases h0 : s.data.toList = []
  · refine (validMethod_empty s w h0).mono ?_
    rintro e w' ⟨rfl, rfl⟩
    refine ⟨ret_bool ?_, Below.refl _ _⟩
    rw [h0]; rfl
  · by_cases h : s.size ≤ 24
    · refine (validMethod_mid s w h0 h).mono ?_
      rintro e w' ⟨rfl, hb⟩
      refine ⟨ret_bool ?_, hb⟩
      unfold validM
      have : 1 ≤ s.data.toList.length := by
        rcases Nat.eq_zero_or_pos s.data.toList.length with h | h
        · exact absurd (List.eq_nil_of_length_eq_zero h) h0
        · exact h
      rw [hlen] at this ⊢
      simp [this, h, allSmall]
    · refine (validMethod_long s w (by omega)).mono ?_
      rintro e w' ⟨rfl, rfl⟩
      refine ⟨ret_bool ?_, Below.refl _ _⟩
      unfold validM
      rw [hlen]
      simp [h]
end Go.Proofs.YthooajbhiikbfaaGreatDoor
