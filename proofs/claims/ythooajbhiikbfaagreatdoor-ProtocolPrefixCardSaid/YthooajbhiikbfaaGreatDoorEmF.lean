/- A part of the proofs of the statements of emendatelaw55 (layer protocol): numbers of events. Conditions: those that stand in each theorem, no other. -/
import Derived.Test.YthooajbhiikbfaaGreatDoorEmE
import Derived.Laws.IdiomStrings
namespace Go.Proofs.YthooajbhiikbfaaGreatDoor
open Go Go.RowKit Em

/-- one byte, made a string -/
def byteS (z : Int) : ByteArray := S [UInt8.ofNat z.toNat]
theorem conv1 (w : World) (z : Int) (h0 : 0 ≤ z) (h1 : z ≤ 255) :
    (convert 60 9 (.slice (some ⟨w.heap.size, 0, none⟩) 1 1)).run Tryz.prog (w.alloc (.cells #[.int .u8 z] 5)) = .ok (.string (byteS z)) (w.alloc (.cells #[.int .u8 z] 5)) := by
  refine run_convert_bytes_back _ 60 9 5 ⟨w.heap.size, 0, none⟩ 1 [UInt8.ofNat z.toNat] Tryz.underlying60 Tryz.underlying5 Tryz.underlying9 ?_
  intro j hj
  have hj0 : j = 0 := by simpa using hj
  subst hj0
  simp [Addr.add]; omega

theorem S_append (a b : Bytes) : S a ++ S b = S (a ++ b) := by
  apply ByteArray.ext; simp
theorem append_S (a b : ByteArray) : a ++ b = S (a.data.toList ++ b.data.toList) := by
  apply ByteArray.ext; simp

/-- what is left to be spelled, ahead of what is spelled -/
def DecRel (N : Nat) (m : Nat) (t : ByteArray) : Prop := (m = 0 → t.data.toList = Lib.decDigits N) ∧ (0 < m → Lib.decDigits m ++ t.data.toList = Lib.decDigits N)

theorem byteS_list (d : Nat) : (byteS (48 + (d : Int))).data.toList = [UInt8.ofNat (48 + d)] := by
  unfold byteS; rw [S_list]; congr 2

theorem DecRel.start (N : Nat) : DecRel N (N / 10) (byteS (48 + ((N % 10 : Nat) : Int))) := by
  unfold DecRel; rw [byteS_list]
  refine ⟨fun h => ?_, fun h => ?_⟩
  · rw [decDigits_small (by omega)]; congr 2; omega
  · rw [← decDigits_big (by omega)]
theorem DecRel.step {N m : Nat} {t : ByteArray} (h : DecRel N m t) (hm : 0 < m) : DecRel N (m / 10) (byteS (48 + ((m % 10 : Nat) : Int)) ++ t) := by
  have h2 := h.2 hm
  unfold DecRel; rw [append_S, S_list, byteS_list]
  refine ⟨fun h => ?_, fun h => ?_⟩
  · rw [← h2, decDigits_small (by omega)]
    have : m % 10 = m := by omega
    rw [this]
  · rw [← h2, decDigits_big (u := m) (by omega)]; simp

theorem byteS_size (z : Int) : (byteS z).size ≤ 1 := by unfold byteS; rw [S_size]; simp
theorem DecRel.size {N m : Nat} {t : ByteArray} (h : DecRel N m t) (hN : (N : Int) ≤ 9223372036854775807) : t.size ≤ 20 := by
  have hl : (Lib.decDigits N).length ≤ 20 := by rw [Lib.decDigits_length]; have := nDigits_le19 N (by omega); omega
  rw [Lib.size_eq]
  rcases Nat.eq_zero_or_pos m with h0 | h0
  · rw [h.1 h0]; exact hl
  · have := congrArg List.length (h.2 h0)
    simp only [List.length_append] at this
    omega
theorem ret_str {a b : ByteArray} (h : a = b) : Ending.returned (.string a) = .returned (.string b) := by rw [h]

set_option maxRecDepth 100000 in
set_option maxHeartbeats 400000 in
theorem dec16_any (N : Nat) (hN : (N : Int) ≤ 9223372036854775807) (w : World) :
    Calls Tryz.prog 68 #[.int .i64 N] w fun e w' => e = .returned (.string (S (Lib.decDigits N))) ∧ Below w.heap.size w w' := by
  have h0 : 0 ≤ (N : Int) % 10 := by omega
  have h1 : (N : Int) % 10 ≤ 9 := by omega
  have hc := conv1 w (48 + (N : Int) % 10) (by omega) (by omega)
  have HB := Lib.hid ((Below.refl _ w).alloc (Nat.le_refl _) (.cells #[.int .u8 (48 + (N : Int) % 10)] 5))
  have HD := Lib.hid (DecRel.start N)
  go_enter Tryz.func68, Tryz.ntmps68
  go_wp2
  go_loopw [0, 3] (fun v t wr => ∃ (m : Nat) (s : ByteArray), v = .int .i64 m ∧ t = .string s ∧ (m : Int) ≤ 9223372036854775807 ∧ DecRel N m s ∧ Below w.heap.size w wr) (fun v _ _ => (intOf v).toNat)
  case atStart => exact ⟨N / 10, _, by go_num, rfl, by omega, HD.out, HB.out⟩
  case round =>
    clear hc h0 h1
    obtain ⟨m, s, rfl, rfl, hm, hrel, hb⟩ := hrel
    have HR := Lib.hid hrel
    clear hrel
    by_cases hpos : 0 < m
    · have h0 : 0 ≤ (m : Int) % 10 := by omega
      have h1 : (m : Int) % 10 ≤ 9 := by omega
      have HS := Lib.hid (HR.out.step hpos)
      have hz1 := byteS_size (48 + (m : Int) % 10)
      have hz2 := HR.out.size hN
      have hc := conv1 wr (48 + (m : Int) % 10) (by omega) (by omega)
      have HB1 := Lib.hid (hb.alloc hb.size (.cells #[.int .u8 (48 + (m : Int) % 10)] 5))
      go_wp2
      go_roundw
      case rel => exact ⟨m / 10, _, by go_num, rfl, by omega, HS.out, HB1.out⟩
      case measure => simp [intOf]; omega
    · go_wp2
      go_ret
      refine ⟨ret_str ?_, hb⟩
      rw [← HR.out.1 (by omega)]

theorem tmod10 (n : Int) (h : n < 0) : n.tmod 10 = -((n.natAbs % 10 : Nat) : Int) := by
  obtain ⟨u, rfl⟩ : ∃ u : Nat, n = -(u : Int) := ⟨n.natAbs, by omega⟩
  rw [Int.neg_tmod, Int.tmod_eq_emod_of_nonneg (by omega)]
  omega
theorem tdiv10 (n : Int) (h : n < 0) : n.tdiv 10 = -((n.natAbs / 10 : Nat) : Int) := by
  obtain ⟨u, rfl⟩ : ∃ u : Nat, n = -(u : Int) := ⟨n.natAbs, by omega⟩
  rw [Int.neg_tdiv, Int.tdiv_eq_ediv_of_nonneg (by omega)]
  omega
theorem itoa_tdiv (n : Int) (h : n ≤ -10) : Lib.itoa n = 45 :: (Lib.decDigits (n.natAbs / 10) ++ [UInt8.ofNat (48 + n.natAbs % 10)]) := by
  unfold Lib.itoa; rw [if_pos (by omega), decDigits_big (by omega)]
theorem itoa_one (n : Int) (h : n < 0) (h2 : -10 < n) : Lib.itoa n = [45, UInt8.ofNat (48 + n.natAbs)] := by
  unfold Lib.itoa; rw [if_pos (by omega), decDigits_small (by omega)]

set_option maxRecDepth 100000 in
set_option maxHeartbeats 400000 in
theorem integer_any (n : Int) (hn : inR n) (w : World) :
    Calls Tryz.prog 45 #[.int .i64 n] w fun e w' => e = .returned (.string (S (Lib.itoa n))) ∧ Below w.heap.size w w' := by
  obtain ⟨hlo, hhi⟩ := hn
  by_cases h0 : 0 ≤ n
  · obtain ⟨N, rfl⟩ : ∃ N : Nat, n = N := ⟨n.toNat, by omega⟩
    have hc := dec16_any N hhi w
    rw [← Lib.itoa_nonneg] at hc
    have HC := Lib.hid hc
    clear hc
    go_enter Tryz.func45, Tryz.ntmps45
    go_wp2_with (go_at_call 68; refine HC.out.mono ?_; rintro e w1 ⟨rfl, hb1⟩)
    go_ret
    exact ⟨rfl, hb1⟩
  · have hneg : n < 0 := by omega
    obtain ⟨d, hd⟩ : ∃ d : Nat, d = n.natAbs % 10 := ⟨_, rfl⟩
    have e2 : wrap64 (48 - n.tmod 10) % 256 = 48 + (d : Int) := by
      have : n.tmod 10 = -(d : Int) := by rw [hd]; exact tmod10 n hneg
      rw [this]; unfold wrap64; omega
    have hc := conv1 w (48 + (d : Int)) (by omega) (by omega)
    have HB := Lib.hid ((Below.refl _ w).alloc (Nat.le_refl _) (.cells #[.int .u8 (48 + (d : Int))] 5))
    have hz := byteS_size (48 + (d : Int))
    have HD := Lib.hid hd
    by_cases h10 : -10 < n
    · clear hd
      go_enter Tryz.func45, Tryz.ntmps45
      go_wp2
      go_ret
      refine ⟨ret_str ?_, HB.out⟩
      rw [append_S, byteS_list, itoa_one n hneg h10, HD.out]
      have : n.natAbs % 10 = n.natAbs := by omega
      rw [this]; rfl
    · obtain ⟨q, hq⟩ : ∃ q : Nat, q = n.natAbs / 10 := ⟨_, rfl⟩
      have hcq := dec16_any q (by omega) (w.alloc (.cells #[.int .u8 (48 + (d : Int))] 5))
      have HQ := Lib.hid hq
      have HC := Lib.hid hcq
      have e3 : wrap64 (-(n.tdiv 10)) = (q : Int) := by
        have : n.tdiv 10 = -(q : Int) := by rw [hq]; exact tdiv10 n hneg
        rw [this]; unfold wrap64; omega
      have hq20 : (Lib.decDigits q).length ≤ 20 := by rw [Lib.decDigits_length]; have := nDigits_le19 q (by omega); omega
      clear hcq hq hd
      go_enter Tryz.func45, Tryz.ntmps45
      go_wp2_with (go_at_call 68; refine HC.out.mono ?_; rintro e w1 ⟨rfl, hb1⟩)
      go_ret
      refine ⟨ret_str ?_, HB.out.trans (hb1.mono (by simp))⟩
      rw [append_S, append_S, S_list, S_list, byteS_list, itoa_tdiv n (by omega), HD.out, HQ.out]
      rfl
end Go.Proofs.YthooajbhiikbfaaGreatDoor
