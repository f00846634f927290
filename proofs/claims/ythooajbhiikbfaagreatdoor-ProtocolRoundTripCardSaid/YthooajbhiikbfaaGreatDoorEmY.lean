/- A part of the proofs of the statements of emendatelaw55 (layer protocol): body of the reference. Conditions: those that stand in each theorem, no other. -/
import Derived.Test.YthooajbhiikbfaaGreatDoorEmX
import Derived.Deep.RegionHeld3
import Derived.Deep.RegionWith
import Derived.Deep.DeepCutAuto
import Derived.Deep.CutBlock
namespace Go.Proofs.YthooajbhiikbfaaGreatDoor
open Go Go.RowKit Em

theorem argsL_take (l : List Bytes) (k : Nat) (hk : k < l.length) : argsL (l.take (k + 1)) = argsL (l.take k) ++ argL l[k] := by
  unfold argsL
  rw [List.take_succ_eq_append_getElem hk, List.map_append, List.flatten_append]; simp

theorem argL_length (a : Bytes) (h : (a.length : Int) ≤ 9223372036854775807) : (argL a).length ≤ a.length + 22 := by
  unfold argL
  have := itoa_len20 (n := (a.length : Int)) ⟨by omega, h⟩
  simp; omega
theorem argsL_length (l : List Bytes) (h : ∀ a ∈ l, (a.length : Int) ≤ 140737488355328) : (argsL l).length ≤ (l.map List.length).sum + 22 * l.length := by
  induction l with
  | nil => simp [argsL]
  | cons a t ih =>
    have e : argsL (a :: t) = argL a ++ argsL t := by simp [argsL]
    rw [e, List.length_append]
    have h1 := argL_length a (by have := h a (by simp); omega)
    have h2 := ih (fun b hb => h b (by simp [hb]))
    simp only [List.map_cons, List.sum_cons, List.length_cons]
    omega

/-- the message of a value -/
def msgOf (id : Int) (m : ByteArray) (ss : List ByteArray) : Msg := ⟨id, m.data.toList, ss.map (·.data.toList)⟩

/-- what the reference has spelled of a body before the k-th argument -/
def bodyTo (id : Int) (m : ByteArray) (ss : List ByteArray) (k : Nat) : Bytes := Lib.itoa id ++ 32 :: (m.data.toList ++ 10 :: argsL ((ss.map (·.data.toList)).take k))
theorem bodyTo_zero (id : Int) (m : ByteArray) (ss : List ByteArray) : bodyTo id m ss 0 = Lib.itoa id ++ 32 :: (m.data.toList ++ [10]) := by simp [bodyTo, argsL]
theorem bodyTo_succ (id : Int) (m : ByteArray) (ss : List ByteArray) (k : Nat) (hk : k < ss.length) : bodyTo id m ss (k + 1) = bodyTo id m ss k ++ argL ss[k].data.toList := by
  unfold bodyTo
  rw [argsL_take _ k (by simpa using hk)]
  simp
theorem bodyTo_all (id : Int) (m : ByteArray) (ss : List ByteArray) (k : Nat) (hk : ss.length ≤ k) : bodyTo id m ss k = body (msgOf id m ss) := by
  unfold bodyTo body msgOf
  rw [List.take_of_length_le (by simpa using hk)]

theorem bodyTo_length (id : Int) (m : ByteArray) (ss : List ByteArray) (k : Nat) (hi : (Lib.itoa id).length ≤ 20) (hm : m.size ≤ 1000) (hs : ∀ s ∈ ss, s.size ≤ 1000) (hn : ss.length ≤ 20) : (bodyTo id m ss k).length ≤ 100000 := by
  unfold bodyTo
  have h1 : ∀ a ∈ (ss.map (·.data.toList)).take k, (a.length : Int) ≤ 140737488355328 := by
    intro a ha
    obtain ⟨s, hs1, rfl⟩ := List.mem_map.1 (List.mem_of_mem_take ha)
    have := hs s hs1
    rw [← Lib.size_eq]; omega
  have h2 := argsL_length _ h1
  have h3 : (((ss.map (·.data.toList)).take k).map List.length).sum ≤ 1000 * ((ss.map (·.data.toList)).take k).length := by
    generalize hL : (ss.map (·.data.toList)).take k = L at h1
    have h4 : ∀ a ∈ L, a.length ≤ 1000 := by
      intro a ha
      rw [← hL] at ha
      obtain ⟨s, hs1, rfl⟩ := List.mem_map.1 (List.mem_of_mem_take ha)
      have := hs s hs1
      rw [← Lib.size_eq]; omega
    clear hL h1
    induction L with
    | nil => simp
    | cons a t ih =>
      have := h4 a (by simp)
      have := ih (fun b hb => h4 b (by simp [hb]))
      simp only [List.map_cons, List.sum_cons, List.length_cons]; omega
  have h5 : ((ss.map (·.data.toList)).take k).length ≤ 20 := by rw [List.length_take, List.length_map]; omega
  have hms : m.data.toList.length = m.size := (Lib.size_eq m).symm
  simp only [List.length_append, List.length_cons]
  omega

set_option maxRecDepth 100000 in
set_option maxHeartbeats 1000000 in
theorem bodyR_any (id : Int) (m : ByteArray) (A : Option Addr) (c : Nat) (ss : List ByteArray) (w : World) (hi : inR id) (hm : m.size ≤ 1000)
    (hn : ss.length ≤ 20) (hr : RdS w w.heap.size A ss) (hs : ∀ s ∈ ss, s.size ≤ 1000) :
    Calls Tryz.prog 22 #[.agg #[.int .i64 id, .string m, .slice A ss.length c]] w fun e w' =>
      e = .returned (.string (S (body (msgOf id m ss)))) ∧ Below w.heap.size w w' := by
  obtain ⟨W0, hW0⟩ : ∃ W0 : World, w.alloc (.cells #[.int .i64 id, .string m, .slice A ss.length c] 24) = W0 := ⟨_, rfl⟩
  have hb0 : Below w.heap.size w W0 := by rw [← hW0]; exact (Below.refl _ _).alloc (Nat.le_refl _) _
  have hz0 : W0.heap.size = w.heap.size + 1 := by rw [← hW0]; simp
  have hk0 : W0.heap[w.heap.size]? = some (.cells #[.int .i64 id, .string m, .slice A ss.length c] 24) := by rw [← hW0]; exact heap_alloc_new w _
  have hr0 := hr.below hb0
  obtain ⟨n, hne⟩ : ∃ n, ss.length = n := ⟨_, rfl⟩
  rw [hne] at hn hW0 hk0 ⊢
  have HD := Lib.hid (fun W => decimalR_any id hi W)
  have HB := Lib.hid hb0
  have HZ := Lib.hid hz0
  have HK := Lib.hid hk0
  have HR := Lib.hid hr0
  have HN := Lib.hid hne
  have HW := Lib.hid hW0
  have HS := Lib.hid hs
  have H0 := Lib.hid (bodyTo_zero id m ss)
  have hil := itoa_len20 hi
  clear hb0 hz0 hk0 hr0 hne hW0 hs hr
  go_enter Tryz.func22, Tryz.ntmps22
  go_upto_region 1 with fail
  rw [HW.out]
  have c0 : W0.cell? ⟨w.heap.size, 0, none⟩ = some (.int .i64 id) := cell_of_row W0 w.heap.size 0 _ 24 (0, 0) HK.out
  have c1 : W0.cell? ⟨w.heap.size, 1, none⟩ = some (.string m) := cell_of_row W0 w.heap.size 1 _ 24 (0, 0) HK.out
  have C2 := Lib.hid (show W0.cell? ⟨w.heap.size, 2, none⟩ = some (.slice A n c) from cell_of_row W0 w.heap.size 2 _ 24 (0, 0) HK.out)
  have hE0 := Lib.hid (show S (Lib.itoa id) ++ ⟨#[32]⟩ ++ m ++ ⟨#[10]⟩ = S (bodyTo id m ss 0) by
    rw [H0.out, append_S, append_S, append_S]; simp)
  go_cut [3] (fun s wx => s = .string (S (bodyTo id m ss 0)) ∧ Below W0.heap.size W0 wx)
  case first =>
    go_region_with (go_at_call 23; refine (HD.out _).mono ?_; rintro e w1 ⟨rfl, hb1⟩; have c2 := (hb1.cell (p := ⟨w.heap.size, 1, none⟩) (show w.heap.size < _ by have := HZ.out; simp; omega)).trans c1)
    all_goals (go_wp2_with fail; go_meet)
    all_goals exact ⟨congrArg Value.string hE0.out, (Below.refl _ _).drew.trans hb1⟩
  case rest =>
    obtain ⟨rfl, hb⟩ := hcut
    have HBC := Lib.hid hb
    clear hb c0 c1
    go_wp2
    go_loopw [3, 4] (fun t i wr => ∃ k : Nat, k ≤ n ∧ i = .int .i64 k ∧ t = .string (S (bodyTo id m ss k)) ∧ Below W0.heap.size W0 wr) (fun _ i _ => n - (intOf i).toNat)
    case atStart => exact ⟨0, Nat.zero_le _, rfl, rfl, HBC.out⟩
    case round =>
      obtain ⟨k, hk, rfl, rfl, hb⟩ := hrel
      have c2 := (hb.cell (p := ⟨w.heap.size, 2, none⟩) (show w.heap.size < W0.heap.size by rw [HZ.out]; omega)).trans C2.out
      by_cases hlt : k < n
      · have hk2 : k < ss.length := by rw [HN.out]; exact hlt
        obtain ⟨ad, rfl, hadB, hc⟩ := HR.out.at_ hk2
        have ck := (hb.cell (p := ad.add k) (show (ad.add k).block < W0.heap.size by rw [blk_add, HZ.out]; omega)).trans hc
        have hsk : ss[k].size ≤ 1000 := HS.out _ (List.getElem_mem hk2)
        have HT := Lib.hid (bodyTo_succ id m ss k hk2)
        generalize ss[k] = sk at hc ck hsk HT
        have hski : inR (sk.size : Int) := by unfold inR; omega
        have HD2 := Lib.hid (fun W => decimalR_any (sk.size : Int) hski W)
        have hil2 := itoa_len20 hski
        have hE1 := Lib.hid (show S (bodyTo id m ss k) ++ S (Lib.itoa (sk.size : Int)) ++ ⟨#[58]⟩ ++ sk ++ ⟨#[10]⟩ = S (bodyTo id m ss (k + 1)) by
          rw [HT.out, append_S, append_S, append_S, append_S]; unfold argL; rw [← Lib.size_eq]; simp)
        have hB := Lib.hid hb
        have hwr : w.heap.size < wr.heap.size := by have := hb.size; rw [HZ.out] at this; omega
        have hadw : (ad.add k).block < wr.heap.size := by rw [blk_add]; omega
        clear hc hb hski
        go_wp2
        have hbt := bodyTo_length id m ss k hil hm HS.out (by rw [HN.out]; omega)
        obtain ⟨Bt, hBt⟩ : ∃ Bt, S (bodyTo id m ss k) = Bt := ⟨_, rfl⟩
        obtain ⟨It, hIt⟩ : ∃ It, S (Lib.itoa (sk.size : Int)) = It := ⟨_, rfl⟩
        have hBs : Bt.size ≤ 100000 := by rw [← hBt, S_size]; exact hbt
        have hIs : It.size ≤ 20 := by rw [← hIt, S_size]; exact hil2
        rw [hBt, hIt] at hE1
        rw [hIt] at HD2
        rw [hBt]
        have n1 : ¬ 9223372036854775807 < Bt.size + It.size := by omega
        have n2 : ¬ 9223372036854775807 < Bt.size + It.size + 1 := by omega
        have n3 : ¬ 9223372036854775807 < Bt.size + It.size + 1 + sk.size := by omega
        have n4 : ¬ 9223372036854775807 < Bt.size + It.size + 1 + sk.size + 1 := by omega
        clear hbt hil2 hBt hIt
        have hkn : (k : Int) < (n : Int) := by omega
        have hk0' : (0 : Int) ≤ (k : Int) := by omega
        go_region_held3 (fun w' => w'.cell? ⟨w.heap.size, 2, none⟩ = some (.slice (some ad) n c) ∧ w'.cell? (ad.add k) = some (.string sk)) (first | exact ⟨c2', ck'⟩ | exact ⟨c2, ck⟩ | go_keep) (first | (go_at_call 23; refine (HD2.out _).mono ?_; rintro e w1 ⟨rfl, hb1⟩; have c2' := (hb1.cell (p := ⟨w.heap.size, 2, none⟩) (show w.heap.size < _ by simp; omega)).trans c2; have ck' := (hb1.cell (p := ad.add k) (show (ad.add k).block < _ by simp; omega)).trans ck))
        go_wp2
        go_roundw
        case rel => exact ⟨k + 1, by omega, by go_num, congrArg Value.string hE1.out, hB.out.trans (((Below.refl _ _).drew.trans hb1).mono hB.out.size)⟩
        case measure => simp [intOf]; omega
      · have hd : decide ((k : Int) < (n : Int)) = false := decide_eq_false (by omega)
        have HF := Lib.hid (bodyTo_all id m ss k (by rw [HN.out]; omega))
        go_wp2
        go_ret
        exact ⟨ret_str (by rw [HF.out]), HB.out.trans (hb.mono HB.out.size)⟩
end Go.Proofs.YthooajbhiikbfaaGreatDoor
