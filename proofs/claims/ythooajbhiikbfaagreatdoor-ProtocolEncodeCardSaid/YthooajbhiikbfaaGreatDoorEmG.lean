/- A part of the proofs of the statements of emendatelaw55 (layer protocol): EncodeEvent. Conditions: those that stand in each theorem, no other. -/
import Derived.Test.YthooajbhiikbfaaGreatDoorEmF
namespace Go.Proofs.YthooajbhiikbfaaGreatDoor
open Go Go.RowKit Em

/-- numbers, blanks between -/
def joinN : List Int → Bytes
  | [] => []
  | [n] => Lib.itoa n
  | n :: l => Lib.itoa n ++ 32 :: joinN l
def nums7 (k d n a e : Int) (ins text : Bytes) : List Int := [k, d, n, a, e, ins.length, text.length]
def evL (k d n a e : Int) (ins text : Bytes) : Bytes := joinN (nums7 k d n a e ins text) ++ 58 :: (ins ++ text)

/-- what has been written ahead of the k-th of l -/
def encTo (l : List Int) (k : Nat) : Bytes := ((l.take k).map fun n => Lib.itoa n ++ (if True then [32] else [])).flatten

def encW (l : List Int) (k : Nat) : Bytes :=
  (List.range k).flatMap fun i => Lib.itoa (l.getD i 0) ++ (if i + 1 < l.length then [32] else [])
theorem encW_succ (l : List Int) (k : Nat) : encW l (k + 1) = encW l k ++ (Lib.itoa (l.getD k 0) ++ (if k + 1 < l.length then [32] else [])) := by
  unfold encW; rw [List.range_succ, List.flatMap_append]; simp
theorem encW_seven (a b c d e f g : Int) : encW [a, b, c, d, e, f, g] 7 = joinN [a, b, c, d, e, f, g] := by
  simp [encW, List.range_succ, joinN]
theorem encW_length (l : List Int) (hl : ∀ n ∈ l, inR n) (k : Nat) (hk : k ≤ l.length) : (encW l k).length ≤ 21 * k := by
  induction k with
  | zero => simp [encW]
  | succ k ih =>
    rw [encW_succ, List.length_append, List.length_append]
    have h1 := ih (by omega)
    have h2 : l.getD k 0 ∈ l := by
      have : k < l.length := by omega
      rw [List.getD_eq_getElem?_getD, List.getElem?_eq_getElem this]; exact List.getElem_mem this
    have h3 := itoa_len20 (hl _ h2)
    have h4 : (if k + 1 < l.length then [(32 : UInt8)] else []).length ≤ 1 := by split <;> simp
    omega

theorem cell7 (w : World) (t : TypeId) (a b c d e f g : Int) (k : Nat) (hk : k < 7) :
    (w.alloc (.cells #[.int .i64 a, .int .i64 b, .int .i64 c, .int .i64 d, .int .i64 e, .int .i64 f, .int .i64 g] t)).cell? ⟨w.heap.size, k, none⟩ = some (.int .i64 ([a, b, c, d, e, f, g].getD k 0)) := by
  unfold World.cell?
  simp only [heap_alloc_new]
  rcases k with _ | _ | _ | _ | _ | _ | _ | k <;> first | rfl | omega


set_option maxRecDepth 100000 in
set_option maxHeartbeats 800000 in
theorem encEv_any (k d n a e : Int) (ins text : ByteArray) (hk : inR k) (hd : inR d) (hn : inR n) (ha : inR a) (he : inR e)
    (hi : ins.size ≤ 140737488355328) (ht : text.size ≤ 140737488355328) (w : World) :
    Calls Tryz.prog 33 #[.agg #[.int .i64 k, .int .i64 d, .int .i64 n, .int .i64 a, .int .i64 e, .string ins, .string text]] w fun en w' =>
      en = .returned (.string (S (evL k d n a e ins.data.toList text.data.toList))) ∧ Below w.heap.size w w' := by
  obtain ⟨l, hl⟩ : ∃ l : List Int, l = [k, d, n, a, e, (ins.size : Int), (text.size : Int)] := ⟨_, rfl⟩
  have hR : ∀ z ∈ l, inR z := by
    rw [hl]; intro z hz
    simp only [List.mem_cons, List.not_mem_nil, or_false] at hz
    rcases hz with rfl | rfl | rfl | rfl | rfl | rfl | rfl
    · exact hk
    · exact hd
    · exact hn
    · exact ha
    · exact he
    · unfold inR; omega
    · unfold inR; omega
  have hlen : l.length = 7 := by rw [hl]; rfl
  have h7 : encW l 7 = joinN (nums7 k d n a e ins.data.toList text.data.toList) := by
    rw [hl, encW_seven]; unfold nums7; rw [Lib.size_eq, Lib.size_eq]
  obtain ⟨W0, hW0⟩ : ∃ W0 : World, (w.alloc (.cells #[.int .i64 k, .int .i64 d, .int .i64 n, .int .i64 a, .int .i64 e, .string ins, .string text] 73)).alloc
    (.cells #[.int .i64 k, .int .i64 d, .int .i64 n, .int .i64 a, .int .i64 e, .int .i64 (ins.size : Int), .int .i64 (text.size : Int)] 3) = W0 := ⟨_, rfl⟩
  have hb0 : Below w.heap.size w W0 := by rw [← hW0]; exact ((Below.refl _ _).alloc (Nat.le_refl _) _).alloc (by simp) _
  have hs0 : W0.heap.size = w.heap.size + 2 := by rw [← hW0]; simp
  have hc0 : ∀ j, j < 7 → W0.cell? ⟨w.heap.size + 1, j, none⟩ = some (.int .i64 (l.getD j 0)) := by
    intro j hj
    have := cell7 (w.alloc (.cells #[.int .i64 k, .int .i64 d, .int .i64 n, .int .i64 a, .int .i64 e, .string ins, .string text] 73)) 3 k d n a e (ins.size : Int) (text.size : Int) j hj
    rw [← hW0, hl]
    simpa using this
  have h5 : W0.cell? ⟨w.heap.size, 5, none⟩ = some (.string ins) := by
    rw [← hW0]; unfold World.cell?; rw [Below.heap_alloc _ _ _ (by simp), heap_alloc_new]; rfl
  have h6 : W0.cell? ⟨w.heap.size, 6, none⟩ = some (.string text) := by
    rw [← hW0]; unfold World.cell?; rw [Below.heap_alloc _ _ _ (by simp), heap_alloc_new]; rfl
  have HF := Lib.hid (show S (encW l 7) ++ S [58] ++ ins ++ text = S (evL k d n a e ins.data.toList text.data.toList) from by
    rw [h7, append_S, append_S, append_S]; simp [evL])
  have HR := Lib.hid hR
  have HL := Lib.hid hlen
  have HC := Lib.hid hc0
  have H5 := Lib.hid h5
  have H6 := Lib.hid h6
  have HB := Lib.hid hb0
  have HZ := Lib.hid hs0
  have HW := Lib.hid hW0
  clear hR hlen h7 hc0 h5 h6 hb0 hs0 hW0 hl
  go_enter Tryz.func33, Tryz.ntmps33
  go_wp2
  rw [HW.out]
  go_loopw [4, 5] (fun t i wr => ∃ j : Nat, j ≤ 7 ∧ i = .int .i64 j ∧ t = .string (S (encW l j)) ∧ Below W0.heap.size W0 wr) (fun _ i _ => 7 - (intOf i).toNat)
  case atStart => exact ⟨0, by omega, rfl, rfl, Below.refl _ _⟩
  case round =>
    obtain ⟨j, hj, rfl, rfl, hb⟩ := hrel
    have hwl := encW_length l HR.out j (by rw [HL.out]; exact hj)
    by_cases hlt : j < 7
    · have hc := (hb.cell (p := ⟨w.heap.size + 1, j, none⟩) (show w.heap.size + 1 < W0.heap.size by rw [HZ.out]; omega)).trans (HC.out j hlt)
      obtain ⟨z, hz⟩ : ∃ z, l.getD j 0 = z := ⟨_, rfl⟩
      have hzr : inR z := by
        rw [← hz]
        have : j < l.length := by rw [HL.out]; exact hlt
        rw [List.getD_eq_getElem?_getD, List.getElem?_eq_getElem this]; exact HR.out _ (List.getElem_mem this)
      have HS := Lib.hid (encW_succ l j)
      rw [hz] at hc HS
      have HI := Lib.hid (integer_any z hzr wr)
      have hil := itoa_len20 hzr
      clear hz hzr
      by_cases h6 : j < 6
      · go_wp2_with (go_at_call 45; refine HI.out.mono ?_; rintro e w1 ⟨rfl, hb1⟩)
        go_roundw
        case rel => 
          refine ⟨j + 1, by omega, by go_num, ?_, hb.trans (hb1.mono hb.size)⟩
          rw [HS.out, if_pos (by rw [HL.out]; omega), append_S, append_S]; simp
        case measure => simp [intOf]; omega
      · go_wp2_with (go_at_call 45; refine HI.out.mono ?_; rintro e w1 ⟨rfl, hb1⟩)
        go_roundw
        case rel => 
          refine ⟨j + 1, by omega, by go_num, ?_, hb.trans (hb1.mono hb.size)⟩
          rw [HS.out, if_neg (by rw [HL.out]; omega), append_S]; simp
        case measure => simp [intOf]; omega
    · obtain rfl : j = 7 := by omega
      have h5 := (hb.cell (p := ⟨w.heap.size, 5, none⟩) (show w.heap.size < W0.heap.size by rw [HZ.out]; omega)).trans H5.out
      have h6 := (hb.cell (p := ⟨w.heap.size, 6, none⟩) (show w.heap.size < W0.heap.size by rw [HZ.out]; omega)).trans H6.out
      go_wp2
      go_ret
      exact ⟨ret_str HF.out, HB.out.trans (hb.mono HB.out.size)⟩
end Go.Proofs.YthooajbhiikbfaaGreatDoor
