/- A part of the proofs of the statements of emendatelaw55 (layer protocol): Decimal of the reference. Conditions: those that stand in each theorem, no other. -/
import Derived.Test.YthooajbhiikbfaaGreatDoorEmG
namespace Go.Proofs.YthooajbhiikbfaaGreatDoor
open Go Go.RowKit Em

theorem evL_zero (n : Int) : evL n 0 0 0 0 [] [] = Lib.itoa n ++ zeros := by
  simp [evL, nums7, joinN, itoa_zero, zeros]

theorem idx_S (l : Bytes) (k : Nat) (h : k < (S l).size) : (S l)[k] = l.getD k 0 := by
  rw [← getD_at (S l) k h, S_list]

set_option maxRecDepth 100000 in
set_option maxHeartbeats 400000 in
theorem decimalR_any (n : Int) (hn : inR n) (w : World) :
    Calls Tryz.prog 23 #[.int .i64 n] w fun e w' => e = .returned (.string (S (Lib.itoa n))) ∧ Below w.heap.size w w' := by
  have hc := encEv_any n 0 0 0 0 ⟨#[]⟩ ⟨#[]⟩ hn (by unfold inR; omega) (by unfold inR; omega) (by unfold inR; omega) (by unfold inR; omega) (by simp [ByteArray.size]) (by simp [ByteArray.size]) w
  have e1 : (⟨#[]⟩ : ByteArray).data.toList = [] := rfl
  rw [e1, evL_zero] at hc
  obtain ⟨T, hT⟩ : ∃ T : ByteArray, S (Lib.itoa n ++ zeros) = T := ⟨_, rfl⟩
  rw [hT] at hc
  have hTl : T.data.toList = Lib.itoa n ++ zeros := by rw [← hT, S_list]
  have hTs : T.size = (Lib.itoa n).length + 13 := by rw [Lib.size_eq, hTl]; simp [zeros]
  have h20 := itoa_len20 hn
  obtain ⟨L, hL⟩ : ∃ L, (Lib.itoa n).length = L := ⟨_, rfl⟩
  rw [hL] at hTs h20
  have hno : ∀ j (hj : j < T.size), j < L → ((T[j].toNat : Int) == 32) = false := by
    intro j hj hjL
    rw [← getD_at T j hj, hTl, List.getD_eq_getElem?_getD, List.getElem?_append_left (by rw [hL]; exact hjL), List.getElem?_eq_getElem (by rw [hL]; exact hjL)]
    have := itoa_mem n _ (List.getElem_mem (by rw [hL]; exact hjL : j < (Lib.itoa n).length))
    simp only [Option.getD_some]
    simp; omega
  have hyes : ∀ (hj : L < T.size), ((T[L].toNat : Int) == 32) = true := by
    intro hj
    rw [← getD_at T L hj, hTl, List.getD_eq_getElem?_getD, List.getElem?_append_right (by rw [hL]; omega), hL]
    simp [zeros]
  have hcut : T.extract 0 L = S (Lib.itoa n) := by
    apply ByteArray.ext
    apply Array.ext'
    have : (T.extract 0 L).data.toList = T.data.toList.take L := by rw [Lib.extract_data]; simp
    rw [this, hTl, S_list, ← hL, List.take_left]
  have HC := Lib.hid hc
  have HN := Lib.hid hno
  have HY := Lib.hid hyes
  have HT := Lib.hid hcut
  have HZ := Lib.hid hTs
  have hz : L + 13 ≤ T.size := by omega
  have hz2 : T.size ≤ 100 := by omega
  clear hc hno hyes hcut hTs hTl hT e1 hL
  go_enter Tryz.func23, Tryz.ntmps23
  go_wp2_with (go_at_call 33; refine HC.out.mono ?_; rintro e w1 ⟨rfl, hb1⟩)
  go_loop [4] (fun i => ∃ j : Nat, j ≤ L ∧ i = .int .i64 j) (fun i => L - (intOf i).toNat)
  case atStart => exact ⟨0, by omega, rfl⟩
  case round =>
    obtain ⟨j, hj, rfl⟩ := hrel
    have hjs : j < T.size := by omega
    by_cases hlt : j < L
    · have hb := HN.out j hjs hlt
      go_wp2
      go_round
      case rel => exact ⟨j + 1, by omega, by go_num⟩
      case measure => simp [intOf]; omega
    · obtain rfl : j = L := by omega
      have hb := HY.out hjs
      go_wp2
      go_ret
      exact ⟨ret_str HT.out, hb1⟩
end Go.Proofs.YthooajbhiikbfaaGreatDoor
