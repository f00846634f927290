/- A part of the proofs of the statements of emendatelaw55 (layer protocol): number. Conditions: those that stand in each theorem, no other. -/
import Derived.Test.YthooajbhiikbfaaGreatDoorEmC
import Derived.Lib.IndexMore
namespace Go.Proofs.YthooajbhiikbfaaGreatDoor
open Go Go.RowKit Em

abbrev S (l : Bytes) : ByteArray := ⟨l.toArray⟩
theorem S_list (l : Bytes) : (S l).data.toList = l := by simp
theorem S_size (l : Bytes) : (S l).size = l.length := by simp [ByteArray.size]
theorem S_of (s : ByteArray) : S s.data.toList = s := rfl

theorem index_cons (b c : UInt8) (l : Bytes) : Lib.index (b :: l) [c] = if b = c then 0 else if Lib.index l [c] == -1 then -1 else Lib.index l [c] + 1 := by
  have h1 : Lib.index (b :: l) [c] = if [c].isPrefixOf (b :: l) then 0 else if Lib.index l [c] == -1 then -1 else Lib.index l [c] + 1 := rfl
  rw [h1]
  have e : [c].isPrefixOf (b :: l) = (b == c) := by
    simp only [List.isPrefixOf, Bool.and_true]
    rw [Bool.eq_iff_iff]; simp only [beq_iff_eq]; exact eq_comm
  rw [e]
  by_cases h : b = c
  · subst h; simp
  · have : (b == c) = false := by simpa using h
    rw [this, if_neg h]; simp

theorem index_byte (c : UInt8) : ∀ l : Bytes, Lib.index l [c] = match cutB c l with | some (a, _) => (a.length : Int) | none => -1
  | [] => rfl
  | b :: r => by
    rw [index_cons]
    unfold cutB
    by_cases h : b = c
    · rw [if_pos h, if_pos h]; rfl
    · rw [if_neg h, if_neg h, index_byte c r]
      cases hc : cutB c r with
      | none => rfl
      | some p =>
        simp only [Option.map_some, List.length_cons]
        rw [if_neg]
        · push_cast; rfl
        · simp

theorem cut_byte (c : UInt8) (l : Bytes) : Lib.cut l [c] = match cutB c l with | some (a, b) => (a, b, true) | none => (l, [], false) := by
  unfold Lib.cut
  rw [index_byte]
  cases h : cutB c l with
  | none => simp
  | some p =>
    obtain ⟨a, b⟩ := p
    obtain ⟨rfl, _⟩ := cutB_some h
    simp only
    rw [if_pos (by omega)]
    simp

set_option maxHeartbeats 400000 in
theorem number_ok (s : ByteArray) (c : UInt8) (a b : Bytes) (n : Int) (hc : cutB c s.data.toList = some (a, b)) (hn : num? a = some n) (hs : s.size ≤ 100000000) (w : World) (hE : Env w) :
    Calls Tryz.prog 37 #[.string s, .string ⟨#[c]⟩] w fun e w' => e = .returned (.tuple #[.int .i64 n, .string (S b), .bool true]) ∧ Below w.heap.size w w' := by
  have hal : a.length ≤ 140737488355328 := by
    obtain ⟨e, _⟩ := cutB_some hc
    have := congrArg List.length e
    rw [← Lib.size_eq] at this
    simp at this; omega
  have hcut := cut_c s ⟨#[c]⟩ w hE (by omega)
  have e1 : (⟨#[c]⟩ : ByteArray).data.toList = [c] := rfl
  rw [e1, cut_byte, hc] at hcut
  have HC := Lib.hid hcut
  have HD := Lib.hid (fun W hW => decimal_ok (S a) n (by rw [S_list]; exact hn) (by rw [S_size]; exact hal) W hW)
  clear hcut hc hn e1
  go_enter Tryz.func37, Tryz.ntmps37
  go_wp2_with (go_at_call 38; refine HC.out.mono ?_; rintro e w1 ⟨rfl, hb1⟩; refine Hid.out ?_)
  have hE1 := hE.below hb1
  refine Lib.hid ?_
  go_wp2_with (go_at_call 36; refine (HD.out _ hE1).mono ?_; rintro e w2 ⟨rfl, hb2⟩)
  go_ret3
  exact ⟨rfl, hb1.trans (hb2.mono hb1.size)⟩

def NumBad (w : World) (e : Ending) (w' : World) : Prop :=
  ∃ (n : Int) (t : ByteArray), e = .returned (.tuple #[.int .i64 n, .string t, .bool false]) ∧ Below w.heap.size w w'

/-- does a number with its separator stand at the head? -/
def numAt (c : UInt8) (s : Bytes) : Option (Int × Bytes) :=
  match cutB c s with
  | none => none
  | some (a, b) => (num? a).map fun n => (n, b)

set_option maxHeartbeats 400000 in
theorem number_bad1 (s : ByteArray) (c : UInt8) (hc : cutB c s.data.toList = none) (hs : s.size ≤ 100000000) (w : World) (hE : Env w) :
    Calls Tryz.prog 37 #[.string s, .string ⟨#[c]⟩] w (NumBad w) := by
  have hcut := cut_c s ⟨#[c]⟩ w hE (by omega)
  have e1 : (⟨#[c]⟩ : ByteArray).data.toList = [c] := rfl
  rw [e1, cut_byte, hc] at hcut
  have HC := Lib.hid hcut
  clear hcut hc e1
  cases hn : num? s.data.toList with
  | some n =>
    have HD := Lib.hid (fun W hW => decimal_ok s n hn (by omega) W hW)
    clear hn
    go_enter Tryz.func37, Tryz.ntmps37
    go_wp2_with (go_at_call 38; refine HC.out.mono ?_; rintro e w1 ⟨rfl, hb1⟩; refine Hid.out ?_)
    have hE1 := hE.below hb1
    refine Lib.hid ?_
    go_wp2_with (go_at_call 36; refine (HD.out _ hE1).mono ?_; rintro e w2 ⟨rfl, hb2⟩)
    go_ret3
    exact ⟨n, _, rfl, hb1.trans (hb2.mono hb1.size)⟩
  | none =>
    have HD := Lib.hid (fun W hW => decimal_bad s hn (by omega) W hW)
    clear hn
    go_enter Tryz.func37, Tryz.ntmps37
    go_wp2_with (go_at_call 38; refine HC.out.mono ?_; rintro e w1 ⟨rfl, hb1⟩; refine Hid.out ?_)
    have hE1 := hE.below hb1
    refine Lib.hid ?_
    go_wp2_with (go_at_call 36; refine (HD.out _ hE1).mono ?_; rintro e w2 ⟨n, rfl, hb2⟩)
    go_ret3
    exact ⟨n, _, rfl, hb1.trans (hb2.mono hb1.size)⟩

set_option maxHeartbeats 400000 in
theorem number_bad2 (s : ByteArray) (c : UInt8) (a b : Bytes) (hc : cutB c s.data.toList = some (a, b)) (hn : num? a = none) (hs : s.size ≤ 100000000) (w : World) (hE : Env w) :
    Calls Tryz.prog 37 #[.string s, .string ⟨#[c]⟩] w (NumBad w) := by
  have hal : a.length ≤ 140737488355328 := by
    obtain ⟨e, _⟩ := cutB_some hc
    have := congrArg List.length e
    rw [← Lib.size_eq] at this
    simp at this; omega
  have hcut := cut_c s ⟨#[c]⟩ w hE (by omega)
  have e1 : (⟨#[c]⟩ : ByteArray).data.toList = [c] := rfl
  rw [e1, cut_byte, hc] at hcut
  have HC := Lib.hid hcut
  have HD := Lib.hid (fun W hW => decimal_bad (S a) (by rw [S_list]; exact hn) (by rw [S_size]; exact hal) W hW)
  clear hcut hc hn e1
  go_enter Tryz.func37, Tryz.ntmps37
  go_wp2_with (go_at_call 38; refine HC.out.mono ?_; rintro e w1 ⟨rfl, hb1⟩; refine Hid.out ?_)
  have hE1 := hE.below hb1
  refine Lib.hid ?_
  go_wp2_with (go_at_call 36; refine (HD.out _ hE1).mono ?_; rintro e w2 ⟨n, rfl, hb2⟩)
  go_ret3
  exact ⟨n, _, rfl, hb1.trans (hb2.mono hb1.size)⟩

theorem number_bad (s : ByteArray) (c : UInt8) (h : numAt c s.data.toList = none) (hs : s.size ≤ 100000000) (w : World) (hE : Env w) :
    Calls Tryz.prog 37 #[.string s, .string ⟨#[c]⟩] w (NumBad w) := by
  unfold numAt at h
  cases hc : cutB c s.data.toList with
  | none => exact number_bad1 s c hc hs w hE
  | some p =>
    obtain ⟨a, b⟩ := p
    rw [hc] at h
    simp only [Option.map_eq_none_iff] at h
    exact number_bad2 s c a b hc h hs w hE
end Go.Proofs.YthooajbhiikbfaaGreatDoor
