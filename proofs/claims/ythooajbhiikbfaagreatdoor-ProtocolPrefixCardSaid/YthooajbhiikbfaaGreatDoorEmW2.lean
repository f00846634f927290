/- A part of the proofs of the statements of emendatelaw55 (layer protocol): Bytes of the reference. Conditions: those that stand in each theorem, no other. -/
import Derived.Test.YthooajbhiikbfaaGreatDoorEmW1
namespace Go.Proofs.YthooajbhiikbfaaGreatDoor
open Go Go.RowKit Em

/-- The slice at A reads as the strings ss, below block B. -/
def RdS (w : World) (B : Nat) (A : Option Addr) (ss : List ByteArray) : Prop :=
  ∀ k s, ss[k]? = some s → ∃ a, A = some a ∧ a.block < B ∧ w.cell? (a.add k) = some (.string s)

theorem blk_add (a : Addr) (n : Nat) : (a.add n).block = a.block := by unfold Addr.add; split <;> rfl

theorem RdS.nil (w : World) (B : Nat) (A : Option Addr) : RdS w B A [] := by intro k s h; simp at h
theorem RdS.keep {w w' : World} {B : Nat} {A : Option Addr} {ss : List ByteArray} (h : RdS w B A ss) (hk : ∀ p : Addr, p.block < B → w'.cell? p = w.cell? p) : RdS w' B A ss := by
  intro k s hs
  obtain ⟨a, ha, hb, hc⟩ := h k s hs
  exact ⟨a, ha, hb, by rw [hk _ (by rw [blk_add]; exact hb), hc]⟩
theorem RdS.more {w : World} {B B' : Nat} {A : Option Addr} {ss : List ByteArray} (h : RdS w B A ss) (hB : B ≤ B') : RdS w B' A ss := by
  intro k s hs
  obtain ⟨a, ha, hb, hc⟩ := h k s hs
  exact ⟨a, ha, Nat.lt_of_lt_of_le hb hB, hc⟩
theorem RdS.below {w w' : World} {B : Nat} {A : Option Addr} {ss : List ByteArray} (h : RdS w B A ss) (hb : Below B w w') : RdS w' B A ss :=
  h.keep fun _ hp => hb.cell hp
theorem RdS.at_ {w : World} {B : Nat} {A : Option Addr} {ss : List ByteArray} (h : RdS w B A ss) {k : Nat} (hk : k < ss.length) :
    ∃ a, A = some a ∧ a.block < B ∧ w.cell? (a.add k) = some (.string ss[k]) := h k _ (List.getElem?_eq_getElem hk)

def sumSz (ss : List ByteArray) : Nat := (ss.map (·.size)).sum
theorem sumSz_take (ss : List ByteArray) (k : Nat) (hk : k < ss.length) : sumSz (ss.take (k + 1)) = sumSz (ss.take k) + ss[k].size := by
  unfold sumSz
  rw [List.take_succ_eq_append_getElem hk, List.map_append, List.sum_append]; simp
theorem sumSz_le (ss : List ByteArray) (h : ∀ s ∈ ss, s.size ≤ 140737488355328) : sumSz ss ≤ ss.length * 140737488355328 := by
  induction ss with
  | nil => simp [sumSz]
  | cons a t ih =>
    have h1 := h a (by simp)
    have h2 := ih (fun s hs => h s (by simp [hs]))
    unfold sumSz at h2 ⊢
    simp only [List.map_cons, List.sum_cons, List.length_cons]
    omega

theorem ret_int {k : IntKind} {a b : Int} (h : a = b) : Ending.returned (.int k a) = .returned (.int k b) := by rw [h]

/-- The number of bytes. -/
def bytesN (m : ByteArray) (ss : List ByteArray) : Int := ((m.size + sumSz ss : Nat) : Int)

set_option maxHeartbeats 800000 in
theorem bytes_any (id : Int) (m : ByteArray) (A : Option Addr) (c : Nat) (ss : List ByteArray) (w : World) (hm : m.size ≤ 140737488355328)
    (hn : ss.length ≤ 20) (hr : RdS w w.heap.size A ss) (hs : ∀ s ∈ ss, s.size ≤ 140737488355328) :
    Calls Tryz.prog 15 #[.agg #[.int .i64 id, .string m, .slice A ss.length c], .int .i64 20] w fun e w' =>
      e = .returned (.int .i64 (bytesN m ss)) ∧ Below w.heap.size w w' := by
  have hb : Below w.heap.size w (w.alloc (.cells #[.int .i64 id, .string m, .slice A ss.length c] 24)) := (Below.refl _ _).alloc (Nat.le_refl _) _
  have hr1 := hr.below hb
  have HR := Lib.hid hr1
  have HS := Lib.hid hs
  clear hr1 hs hr
  obtain ⟨n, hne⟩ : ∃ n, ss.length = n := ⟨_, rfl⟩
  rw [hne] at hn hb HR ⊢
  have HN := Lib.hid hne
  clear hne
  go_enter Tryz.func15, Tryz.ntmps15
  go_wp2
  go_loop [5, 6] (fun t i => ∃ k : Nat, k ≤ n ∧ i = .int .i64 k ∧ t = .int .i64 ((m.size + sumSz (ss.take k) : Nat) : Int)) (fun _ i => n - (intOf i).toNat)
  case atStart => exact ⟨0, Nat.zero_le _, rfl, by simp [sumSz]⟩
  case round =>
    obtain ⟨k, hk, rfl, rfl⟩ := hrel
    have hsm : sumSz (ss.take k) ≤ 20 * 140737488355328 := by
      have h1 := sumSz_le (ss.take k) (fun s h => HS.out s (List.mem_of_mem_take h))
      have h2 : (ss.take k).length ≤ 20 := by rw [List.length_take]; omega
      exact Nat.le_trans h1 (Nat.mul_le_mul_right _ h2)
    by_cases hlt : k < n
    · have hk2 : k < ss.length := by rw [HN.out]; exact hlt
      obtain ⟨ad, rfl, _, hc⟩ := HR.out.at_ hk2
      have hsk : ss[k].size ≤ 140737488355328 := HS.out _ (List.getElem_mem hk2)
      have HT := Lib.hid (sumSz_take ss k hk2)
      generalize ss[k] = sk at hc hsk HT
      go_wp2
      go_round
      case rel => exact ⟨k + 1, by omega, by go_num, by rw [HT.out]; go_num⟩
      case measure => simp [intOf]; omega
    · have hd : decide ((k : Int) < (n : Int)) = false := by simp; omega
      go_wp2
      go_ret
      refine ⟨ret_int ?_, hb⟩
      unfold bytesN
      rw [List.take_of_length_le (by rw [HN.out]; omega)]; omega
end Go.Proofs.YthooajbhiikbfaaGreatDoor
