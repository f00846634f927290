/- A part of the proofs of the statements of emendatelaw55 (layer protocol): Integer of the reference. Conditions: those that stand in each theorem, no other. -/
import Derived.Test.YthooajbhiikbfaaGreatDoorEmL
namespace Go.Proofs.YthooajbhiikbfaaGreatDoor
open Go Go.RowKit Em

theorem decEv_zeros (s : Bytes) (hs : (32 : UInt8) ∉ s) : decEv (s ++ zeros) = match num? s with | none => none | some n => some ([n, 0, 0, 0, 0, 0, 0], []) := by
  have h := scan_zeros s hs
  cases hn : num? s with
  | none => rw [hn] at h; exact decEv_none h
  | some n => rw [hn] at h; rw [decEv_seven h]; simp

def IntBad (w : World) (e : Ending) (w' : World) : Prop := e = .returned (.tuple #[.int .i64 0, .bool false]) ∧ Below w.heap.size w w'
def IntOk (n : Int) (w : World) (e : Ending) (w' : World) : Prop := e = .returned (.tuple #[.int .i64 n, .bool true]) ∧ Below w.heap.size w w'

theorem num?_blank {s : Bytes} (h : (32 : UInt8) ∈ s) : num? s = none := by
  cases hn : num? s with
  | none => rfl
  | some n =>
    obtain ⟨rfl, _⟩ := num?_some.1 hn
    exact absurd h (notin_itoa n (by decide) (by decide))

theorem mem_at {s : ByteArray} {k : Nat} (h : k < s.size) : s[k] ∈ s.data.toList := by
  rw [← getD_at s k h]
  have h2 : k < s.data.toList.length := by rw [← Lib.size_eq]; exact h
  rw [List.getD_eq_getElem?_getD, List.getElem?_eq_getElem h2]; exact List.getElem_mem h2
theorem notin_of {s : ByteArray} {c : UInt8} (h : ∀ j (hj : j < s.size), s[j] ≠ c) : c ∉ s.data.toList := by
  intro hc
  obtain ⟨j, hj, e⟩ := List.getElem_of_mem hc
  have h2 : j < s.size := by rw [Lib.size_eq]; exact hj
  apply h j h2
  rw [← getD_at s j h2, List.getD_eq_getElem?_getD, List.getElem?_eq_getElem hj, e]; rfl

def zerosB : ByteArray := ⟨#[32, 48, 32, 48, 32, 48, 32, 48, 32, 48, 32, 48, 58]⟩

theorem ev_of_int (s : ByteArray) (hs : s.size ≤ 90000000) (hb : (32 : UInt8) ∉ s.data.toList) (w : World) :
    Calls Tryz.prog 50 #[.string (s ++ zerosB)] w fun e w' => ∃ n f : Int, ∃ i t : ByteArray, e = .returned (.tuple #[.agg #[.int .i64 n, .int .i64 0, .int .i64 0, .int .i64 0, .int .i64 0, .string i, .string t], .int .i64 f]) ∧ Below w.heap.size w w' ∧
      ((f == 0) = (num? s.data.toList).isSome ∧ n = (num? s.data.toList).getD 0) := by
  have e1 : (s ++ zerosB).data.toList = s.data.toList ++ zeros := by
    rw [append_S, S_list]; rfl
  have hz : (s ++ zerosB).size ≤ 100000000 := by rw [ByteArray.size_append]; have : zerosB.size = 13 := rfl; omega
  have h := decEv_any (s ++ zerosB) hz w
  refine h.mono fun e w' hp => ?_
  rw [e1] at hp
  have hd := decEv_zeros s.data.toList hb
  unfold EvPost at hp
  cases hn : num? s.data.toList with
  | none =>
    rw [hn] at hd
    rw [hd] at hp
    exact ⟨0, 7, _, _, hp.1, hp.2, by simp⟩
  | some n =>
    rw [hn] at hd
    rw [hd] at hp
    exact ⟨n, 0, _, _, hp.1, hp.2, by simp⟩

set_option maxRecDepth 100000 in
set_option maxHeartbeats 400000 in
theorem integerR_any (s : ByteArray) (hs : s.size ≤ 90000000) (w : World) :
    Calls Tryz.prog 41 #[.string s] w fun e w' => e = .returned (.tuple #[.int .i64 ((num? s.data.toList).getD 0), .bool (num? s.data.toList).isSome]) ∧ Below w.heap.size w w' := by
  obtain ⟨rn, hrn⟩ : ∃ rn, (num? s.data.toList).getD 0 = rn := ⟨_, rfl⟩
  obtain ⟨rb, hrb⟩ : ∃ rb, (num? s.data.toList).isSome = rb := ⟨_, rfl⟩
  have HE := Lib.hid (fun hb => ev_of_int s hs hb w)
  rw [hrn, hrb] at HE
  have HR := Lib.hid (show (32 : UInt8) ∈ s.data.toList → rn = 0 ∧ rb = false by
    intro h; have := num?_blank h; rw [this] at hrn hrb; exact ⟨hrn.symm, hrb.symm⟩)
  rw [hrn, hrb]
  clear hrn hrb
  go_enter Tryz.func41, Tryz.ntmps41
  go_wp2
  go_loop [4] (fun i => ∃ k : Nat, k ≤ s.size ∧ i = .int .i64 k ∧ ∀ j (hj : j < s.size), j < k → s[j] ≠ 32) (fun i => s.size - (intOf i).toNat)
  case atStart => exact ⟨0, Nat.zero_le _, rfl, fun j _ h => absurd h (by omega)⟩
  case round =>
    obtain ⟨k, hk, rfl, hall⟩ := hrel
    have HA := Lib.hid hall
    clear hall
    by_cases hlt : k < s.size
    · have HM := Lib.hid (mem_at hlt)
      by_cases h1 : ((s[k].toNat : Int) == 32) = true
      · have h2 := Lib.hid (HR.out (by have := HM.out; rwa [show s[k] = 32 from by apply UInt8.toNat_inj.1; simp at h1; simp; omega] at this))
        go_wp2
        go_ret2
        rw [h2.out.1, h2.out.2]
        exact ⟨rfl, Below.refl _ _⟩
      · have h1 : ((s[k].toNat : Int) == 32) = false := by simpa using h1
        have HN := Lib.hid (show ∀ j (hj : j < s.size), j < k + 1 → s[j] ≠ 32 by
          intro j hj hjk
          rcases Nat.lt_or_ge j k with h | h
          · exact HA.out j hj h
          · have : j = k := by omega
            subst this
            intro e; rw [e] at h1; simp at h1)
        go_wp2
        go_round
        case rel => exact ⟨k + 1, by omega, by go_num, HN.out⟩
        case measure => simp [intOf]; omega
    · have HB := Lib.hid (HE.out (notin_of fun j hj => HA.out j hj (by omega)))
      have hd : decide ((k : Int) < (s.size : Int)) = false := by simp; omega
      go_wp2_with (go_at_call 50; refine HB.out.mono ?_; rintro e w1 ⟨n, f, i, t, rfl, hb1, hf⟩; refine Hid.out ?_)
      have HF := Lib.hid hf.2
      have hf1 := hf.1
      clear hf
      refine Lib.hid ?_
      go_wp2
      go_ret2
      exact ⟨rfl, hb1.alloc hb1.size _⟩
end Go.Proofs.YthooajbhiikbfaaGreatDoor
