/- A part of the proofs of the statements of emendatelaw55 (layer protocol): Same and short. Conditions: those that stand in each theorem, no other. -/
import Derived.Test.YthooajbhiikbfaaGreatDoorEmN
namespace Go.Proofs.YthooajbhiikbfaaGreatDoor
open Go Go.RowKit Em

/-- a message as a value -/
def mV (id : Int) (m : ByteArray) (A : Option Addr) (n c : Nat) : Value := .agg #[.int .i64 id, .string m, .slice A n c]

set_option maxRecDepth 100000 in
set_option maxHeartbeats 800000 in
theorem same_true (id : Int) (m : ByteArray) (A A' : Option Addr) (c c' : Nat) (ss : List ByteArray) (w : World) (hn : ss.length ≤ 1000000)
    (hr : RdS w w.heap.size A ss) (hr' : RdS w w.heap.size A' ss) :
    Calls Tryz.prog 14 #[.agg #[.int .i64 id, .string m, .slice A ss.length c], .agg #[.int .i64 id, .string m, .slice A' ss.length c']] w fun e w' =>
      e = .returned (.bool true) ∧ Below w.heap.size w w' := by
  obtain ⟨W0, hW0⟩ : ∃ W0 : World, (w.alloc (.cells #[.int .i64 id, .string m, .slice A ss.length c] 24)).alloc (.cells #[.int .i64 id, .string m, .slice A' ss.length c'] 24) = W0 := ⟨_, rfl⟩
  have hb : Below w.heap.size w W0 := by rw [← hW0]; exact ((Below.refl _ _).alloc (Nat.le_refl _) _).alloc (by simp) _
  have hr1 := hr.below hb
  have hr2 := hr'.below hb
  have p0 : W0.heap[w.heap.size]? = some (.cells #[.int .i64 id, .string m, .slice A ss.length c] 24) := by
    rw [← hW0, Below.heap_alloc _ _ _ (by simp)]; exact heap_alloc_new w _
  have p1 : W0.heap[w.heap.size + 1]? = some (.cells #[.int .i64 id, .string m, .slice A' ss.length c'] 24) := by
    rw [← hW0]; have := heap_alloc_new (w.alloc (.cells #[.int .i64 id, .string m, .slice A ss.length c] 24)) (.cells #[.int .i64 id, .string m, .slice A' ss.length c'] 24); simpa using this
  have a2 : W0.cell? ⟨w.heap.size, 2, none⟩ = some (.slice A ss.length c) := cell_of_row W0 w.heap.size 2 _ 24 (0, 0) p0
  have b2 : W0.cell? ⟨w.heap.size + 1, 2, none⟩ = some (.slice A' ss.length c') := cell_of_row W0 (w.heap.size + 1) 2 _ 24 (0, 0) p1
  obtain ⟨n, hne⟩ : ∃ n, ss.length = n := ⟨_, rfl⟩
  rw [hne] at hn hW0 a2 b2 ⊢
  have HR1 := Lib.hid hr1
  have HR2 := Lib.hid hr2
  have HB := Lib.hid hb
  have HN := Lib.hid hne
  have HW := Lib.hid hW0
  have A2 := Lib.hid a2
  have B2 := Lib.hid b2
  clear hr1 hr2 hr hr' hb hne hW0 p0 p1 a2 b2
  go_enter Tryz.func14, Tryz.ntmps14
  go_wp2
  rw [HW.out]
  have a2 := A2.out
  have b2 := B2.out
  go_loopw [5] (fun i wr => ∃ k q : Nat, k ≤ n ∧ i = .int .i64 k ∧ wr = W0.drewN q) (fun i _ => n - (intOf i).toNat)
  case atStart => exact ⟨0, 0, Nat.zero_le _, rfl, rfl⟩
  case round =>
    obtain ⟨k, q, hk, rfl, rfl⟩ := hrel
    by_cases hlt : k < n
    · have hk2 : k < ss.length := by rw [HN.out]; exact hlt
      obtain ⟨ad, rfl, _, hc⟩ := HR1.out.at_ hk2
      obtain ⟨ad', rfl, _, hc'⟩ := HR2.out.at_ hk2
      generalize ss[k] = sk at hc hc'
      have hi : (k : Int) < (n : Int) := by omega
      go_wp2
      go_quiet (fail)
      go_wp2
      go_roundw
      case rel => exact ⟨k + 1, q + nq, by omega, by go_num, rfl⟩
      case measure => simp [intOf]; omega
    · have hd : decide ((k : Int) < (n : Int)) = false := by simp; omega
      go_wp2
      go_ret
      exact ⟨rfl, below_drewN HB.out _⟩

/-- a message is short -/
def shortB (m : ByteArray) (ss : List ByteArray) : Bool := decide (ss.length ≤ 20) && decide (m.size + sumSz ss ≤ 500)

set_option maxRecDepth 100000 in
set_option maxHeartbeats 800000 in
theorem short_any (id : Int) (m : ByteArray) (A : Option Addr) (c : Nat) (ss : List ByteArray) (w : World) (hm : m.size ≤ 140737488355328)
    (hl : (ss.length : Int) ≤ 9223372036854775807) (hr : RdS w w.heap.size A ss) (hs : ∀ s ∈ ss, s.size ≤ 140737488355328) :
    Calls Tryz.prog 8 #[.agg #[.int .i64 id, .string m, .slice A ss.length c]] w fun e w' => e = .returned (.bool (shortB m ss)) ∧ Below w.heap.size w w' := by
  obtain ⟨W0, hW0⟩ : ∃ W0 : World, w.alloc (.cells #[.int .i64 id, .string m, .slice A ss.length c] 24) = W0 := ⟨_, rfl⟩
  have hb : Below w.heap.size w W0 := by rw [← hW0]; exact (Below.refl _ _).alloc (Nat.le_refl _) _
  obtain ⟨b, hbe⟩ : ∃ b, shortB m ss = b := ⟨_, rfl⟩
  rw [hbe]
  unfold shortB at hbe
  by_cases hn : ss.length ≤ 20
  · have hB := bytes_any id m A c ss W0 hm hn ((hr.below hb).more hb.size) hs
    unfold bytesN at hB
    have HB := Lib.hid hB
    obtain ⟨n, hne⟩ : ∃ n, ss.length = n := ⟨_, rfl⟩
    obtain ⟨z, hz⟩ : ∃ z, m.size + sumSz ss = z := ⟨_, rfl⟩
    rw [hne] at hn hW0 HB hbe ⊢
    rw [hz] at HB hbe
    have hbz : b = decide ((z : Int) ≤ 500) := by
      have h20 : decide (n ≤ 20) = true := by simpa using hn
      rw [← hbe, h20, Bool.true_and]; apply decide_eq_decide.2; omega
    subst hbz
    have HW := Lib.hid hW0
    have HB0 := Lib.hid hb
    clear hW0 hB hb hne hz hbe hr hs hl
    have hd : decide ((n : Int) ≤ 20) = true := by simp; omega
    go_enter Tryz.func8, Tryz.ntmps8
    go_wp2_with (go_at_call 15; rw [HW.out]; refine HB.out.mono ?_; rintro e w1 ⟨rfl, hb1⟩)
    go_ret
    exact ⟨rfl, HB0.out.trans (hb1.mono HB0.out.size)⟩
  · have hbf : b = false := by rw [← hbe]; simp [hn]
    subst hbf
    obtain ⟨n, hne⟩ : ∃ n, ss.length = n := ⟨_, rfl⟩
    rw [hne] at hn hl hW0 ⊢
    have HW := Lib.hid hW0
    have HB0 := Lib.hid hb
    clear hW0 hb hne hbe hr hs
    have hd : decide ((n : Int) ≤ 20) = false := by simp; omega
    go_enter Tryz.func8, Tryz.ntmps8
    go_wp2
    rw [HW.out]
    go_ret
    exact ⟨rfl, HB0.out⟩
end Go.Proofs.YthooajbhiikbfaaGreatDoor
