/- A part of the proofs of the statements of emendatelaw55 (layer protocol): body. Conditions: those that stand in each theorem, no other. -/
import Derived.Test.YthooajbhiikbfaaGreatDoorEmZ
namespace Go.Proofs.YthooajbhiikbfaaGreatDoor
open Go Go.RowKit Em

theorem fresh_bld (w : World) : Bld w.heap.size w.heap.size [] (w.alloc (.cells #[.pointer none, .slice none 0 0] 63)) :=
  Lib.IsBuilderF.of (Lib.fresh_isBuilder 63 5 w)

set_option maxRecDepth 100000 in
set_option maxHeartbeats 2000000 in
theorem body_any (id : Int) (m : ByteArray) (A : Option Addr) (c : Nat) (ss : List ByteArray) (w : World) (hE : Env w) (hi : inR id) (hm : m.size ≤ 1000)
    (hn : ss.length ≤ 20) (hr : RdS w w.heap.size A ss) (hs : ∀ s ∈ ss, s.size ≤ 1000) :
    Calls Tryz.prog 19 #[.agg #[.int .i64 id, .string m, .slice A ss.length c]] w fun e w' =>
      e = .returned (.string (S (body (msgOf id m ss)))) ∧ Below w.heap.size w w' := by
  obtain ⟨W0, hW0⟩ : ∃ W0 : World, w.alloc (.cells #[.int .i64 id, .string m, .slice A ss.length c] 24) = W0 := ⟨_, rfl⟩
  have hb0 : Below w.heap.size w W0 := by rw [← hW0]; exact (Below.refl _ _).alloc (Nat.le_refl _) _
  have hz0 : W0.heap.size = w.heap.size + 1 := by rw [← hW0]; simp
  have hk0 : W0.heap[w.heap.size]? = some (.cells #[.int .i64 id, .string m, .slice A ss.length c] 24) := by rw [← hW0]; exact heap_alloc_new w _
  obtain ⟨W1, hW1⟩ : ∃ W1 : World, W0.alloc (.cells #[.pointer none, .slice none 0 0] 63) = W1 := ⟨_, rfl⟩
  have hb1 : Below W0.heap.size W0 W1 := by rw [← hW1]; exact (Below.refl _ _).alloc (Nat.le_refl _) _
  have hz1 : W1.heap.size = w.heap.size + 2 := by rw [← hW1]; simp [hz0]
  have hk1 : W1.heap[w.heap.size]? = some (.cells #[.int .i64 id, .string m, .slice A ss.length c] 24) := (hb1.block _ (by omega)).trans hk0
  have hB1 : Bld W0.heap.size W0.heap.size [] W1 := by rw [← hW1]; exact fresh_bld W0
  have hbA : Below w.heap.size w W1 := hb0.trans (hb1.mono (by omega))
  have hr0 := hr.below hbA
  have hE1 := hE.below hbA
  obtain ⟨n, hne⟩ : ∃ n, ss.length = n := ⟨_, rfl⟩
  obtain ⟨B, hBB⟩ : ∃ B, W0.heap.size = B := ⟨_, rfl⟩
  have hBz : B = w.heap.size + 1 := by rw [← hBB]; exact hz0
  rw [hne] at hn hW0 hk0 hk1 ⊢
  rw [hBB] at hB1
  have HI := Lib.hid (fun W (hb : Below B W1 W) => itoa_c id hi W (hE1.belowB hb (by have := hE.size; omega)))
  have HI2 := Lib.hid (fun (k : Nat) (hk : k ≤ 1000) W (hb : Below B W1 W) => itoa_c (k : Int) (by unfold inR; omega) W (hE1.belowB hb (by have := hE.size; omega)))
  have HB := Lib.hid hbA
  have HZ := Lib.hid hz1
  have HK := Lib.hid hk1
  have HR := Lib.hid hr0
  have HN := Lib.hid hne
  have HW := Lib.hid hW0
  have HW1 := Lib.hid hW1
  have HS := Lib.hid hs
  have H0 := Lib.hid (bodyTo_zero id m ss)
  have HBl := Lib.hid hB1
  have HBz := Lib.hid hBz
  have HBB := Lib.hid hBB
  have hil := itoa_len20 hi
  clear hb0 hz0 hk0 hr0 hne hW0 hs hr hb1 hz1 hk1 hB1 hbA hE1 hBz hBB hW1 hE
  go_enter Tryz.func19, Tryz.ntmps19
  go_upto_region 2 with fail
  rw [HW.out, HW1.out, ← HBz.out]
  have c0 : W1.cell? ⟨w.heap.size, 0, none⟩ = some (.int .i64 id) := cell_of_row W1 w.heap.size 0 _ 24 (0, 0) HK.out
  have c1 : W1.cell? ⟨w.heap.size, 1, none⟩ = some (.string m) := cell_of_row W1 w.heap.size 1 _ 24 (0, 0) HK.out
  have C2 := Lib.hid (show W1.cell? ⟨w.heap.size, 2, none⟩ = some (.slice A n c) from cell_of_row W1 w.heap.size 2 _ 24 (0, 0) HK.out)
  have hX := Lib.hid (show (S (Lib.itoa id) ++ ⟨#[32]⟩ ++ m ++ ⟨#[10]⟩ : ByteArray).data.toList = bodyTo id m ss 0 by
    rw [H0.out]; simp)
  have HQ := Lib.hid (fun W (hb : Below W1.heap.size W1 W) => (wrS B B [] (bodyTo id m ss 0) _ hX.out W (HBl.out.below hb) (by
    have := bodyTo_length id m ss 0 hil hm HS.out (by rw [HN.out]; omega)
    simp; omega) (by have := hb.size; have := HZ.out; have := HBz.out; omega)))
  go_cut [] (fun wx => Bld B B (bodyTo id m ss 0) wx ∧ Below B W1 wx)
  case first =>
    have hBle : B ≤ W1.heap.size := by have := HZ.out; have := HBz.out; omega
    go_region_with (first
      | (go_at_call 20; refine (HI.out _ (by first | exact Below.refl _ _ | exact (Below.refl _ _).drew | exact ((Below.refl _ _).drew).drew | exact (((Below.refl _ _).drew).drew).drew)).mono ?_; rintro e w1 ⟨rfl, hb1⟩; have c2 := (hb1.cell (p := ⟨w.heap.size, 1, none⟩) (show w.heap.size < _ by have := HZ.out; simp; omega)).trans c1; have hq : Below W1.heap.size W1 w1 := (by first | exact (Below.refl _ _).drew.trans hb1 | exact hb1))
      | (go_at_call 30; refine (HQ.out _ (by first | exact hq | exact hq.drew | exact hq.drew.drew)).mono ?_; rintro e w2 ⟨⟨v, rfl⟩, hB2, hb2⟩))
    all_goals (go_wp2_with fail; go_meet)
    all_goals exact ⟨hB2, ((hq.mono hBle).trans hb2)⟩
  case rest =>
    obtain ⟨hB0, hb0⟩ := hcut
    have HB0 := Lib.hid hB0
    have HBC := Lib.hid hb0
    have c2 := (hb0.cell (p := ⟨w.heap.size, 2, none⟩) (show w.heap.size < B by rw [HBz.out]; omega)).trans C2.out
    clear hB0 hb0 c0 c1 HQ
    go_wp2
    go_loopw [18] (fun i wr => ∃ k : Nat, k ≤ n ∧ i = .int .i64 k ∧ Bld B B (bodyTo id m ss k) wr ∧ Below B W1 wr) (fun i _ => n - (intOf i).toNat)
    case atStart => exact ⟨0, Nat.zero_le _, rfl, HB0.out, HBC.out⟩
    case round =>
      obtain ⟨k, hk, rfl, hBk, hb⟩ := hrel
      have c2 := (hb.cell (p := ⟨w.heap.size, 2, none⟩) (show w.heap.size < B by rw [HBz.out]; omega)).trans C2.out
      by_cases hlt : k < n
      · have hk2 : k < ss.length := by rw [HN.out]; exact hlt
        obtain ⟨ad, rfl, hadB, hc⟩ := HR.out.at_ hk2
        have ck := (hb.cell (p := ad.add k) (show (ad.add k).block < B by rw [blk_add, HBz.out]; omega)).trans hc
        have hsk : ss[k].size ≤ 1000 := HS.out _ (List.getElem_mem hk2)
        have HT := Lib.hid (bodyTo_succ id m ss k hk2)
        generalize ss[k] = sk at hc ck hsk HT
        have HBk := Lib.hid hBk
        have Hb := Lib.hid hb
        clear hc hb hBk
        go_upto_region 6 with fail
        have hb := Hb.out
        have hBk := HBk.out
        have hBle : B ≤ wr.heap.size := by have := hb.size; have := HZ.out; have := HBz.out; omega
        have HJ := Lib.hid (fun W (hW : Below wr.heap.size wr W) => HI2.out sk.size hsk W (hb.trans (hW.mono hBle)))
        have hil2 := itoa_len20 (show inR (sk.size : Int) by unfold inR; omega)
        have hX1 : (S (Lib.itoa (sk.size : Int)) ++ ⟨#[58]⟩ ++ sk ++ ⟨#[10]⟩ : ByteArray).data.toList = argL sk.data.toList := by
          unfold argL; rw [← Lib.size_eq]; simp
        have hbt := bodyTo_length id m ss k hil hm HS.out (by rw [HN.out]; omega)
        have hal := argL_length sk.data.toList (by rw [← Lib.size_eq]; omega)
        rw [← Lib.size_eq] at hal
        obtain ⟨It, hIt⟩ : ∃ It, S (Lib.itoa (sk.size : Int)) = It := ⟨_, rfl⟩
        have hIs : It.size ≤ 20 := by rw [← hIt, S_size]; exact hil2
        have hIt2 : (⟨(Lib.itoa (sk.size : Int)).toArray⟩ : ByteArray) = It := hIt
        rw [hIt] at hX1
        rw [hIt2] at HJ
        have HQ := Lib.hid (fun W (hW : Below wr.heap.size wr W) => (wrS B B (bodyTo id m ss k) (argL sk.data.toList) _ hX1 W (hBk.below hW) (by omega) (by have := hW.size; omega)))
        have HBr := Lib.hid hb
        clear hb hbt hal hil2 hIt hIt2 hX1 hBk
        have n2 : ¬ 9223372036854775807 < It.size + 1 := by omega
        have n3 : ¬ 9223372036854775807 < It.size + 1 + sk.size := by omega
        have n4 : ¬ 9223372036854775807 < It.size + 1 + sk.size + 1 := by omega
        have hkn : (k : Int) < (n : Int) := by omega
        have hk0' : (0 : Int) ≤ (k : Int) := by omega
        go_wp2_with (first
          | (go_at_call 20; refine (HJ.out _ (Below.refl _ _)).mono ?_; rintro e w1 ⟨rfl, hq⟩)
          | (go_at_call 30; refine (HQ.out _ hq).mono ?_; rintro e w2 ⟨⟨v, rfl⟩, hB2, hb2⟩))
        go_roundw
        case rel => exact ⟨k + 1, by omega, by go_num, by rw [HT.out]; exact hB2, (HBr.out.trans (hq.mono hBle)).trans hb2⟩
        case measure => simp [intOf]; omega
      · have hd : decide ((k : Int) < (n : Int)) = false := decide_eq_false (by omega)
        have HF := Lib.hid (bodyTo_all id m ss k (by rw [HN.out]; omega))
        have hBle : B ≤ wr.heap.size := by have := hb.size; have := HZ.out; have := HBz.out; omega
        rw [HF.out] at hBk
        go_wp2_with (go_at_call 31; refine (strB B B _ _ hBk hBle).mono ?_; rintro e w1 ⟨rfl, hb1⟩)
        go_ret
        exact ⟨rfl, HB.out.trans ((hb.trans hb1).mono (by rw [HBz.out]; omega))⟩
end Go.Proofs.YthooajbhiikbfaaGreatDoor
