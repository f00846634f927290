/- A part of the proofs of the statements of emendatelaw55 (layer protocol): Encode. Conditions: those that stand in each theorem, no other. -/
import Derived.Test.YthooajbhiikbfaaGreatDoorEmZB
namespace Go.Proofs.YthooajbhiikbfaaGreatDoor
open Go Go.RowKit Em

theorem sumSz_le1000 (ss : List ByteArray) (h : ∀ s ∈ ss, s.size ≤ 1000) : sumSz ss ≤ ss.length * 1000 := by
  induction ss with
  | nil => simp [sumSz]
  | cons a t ih =>
    have h1 := h a (by simp)
    have h2 := ih (fun s hs => h s (by simp [hs]))
    unfold sumSz at h2 ⊢
    simp only [List.map_cons, List.sum_cons, List.length_cons]
    omega

set_option maxRecDepth 100000 in
set_option maxHeartbeats 1000000 in
theorem encode_any (id : Int) (m : ByteArray) (A : Option Addr) (c : Nat) (ss : List ByteArray) (w : World) (hE : Env w) (hi : inR id) (hm : m.size ≤ 1000)
    (hn : ss.length ≤ 20) (hr : RdS w w.heap.size A ss) (hs : ∀ s ∈ ss, s.size ≤ 1000) :
    Calls Tryz.prog 10 #[.agg #[.int .i64 id, .string m, .slice A ss.length c]] w fun e w' =>
      e = .returned (encVal (msgOf id m ss)) ∧ Below w.heap.size w w' := by
  obtain ⟨W0, hW0⟩ : ∃ W0 : World, w.alloc (.cells #[.int .i64 id, .string m, .slice A ss.length c] 24) = W0 := ⟨_, rfl⟩
  have hb0 : Below w.heap.size w W0 := by rw [← hW0]; exact (Below.refl _ _).alloc (Nat.le_refl _) _
  have hz0 : W0.heap.size = w.heap.size + 1 := by rw [← hW0]; simp
  have hk0 : W0.heap[w.heap.size]? = some (.cells #[.int .i64 id, .string m, .slice A ss.length c] 24) := by rw [← hW0]; exact heap_alloc_new w _
  have hbl := body_length_le id m ss hi hm hs hn
  have HY := Lib.hid (fun W (hb : Below w.heap.size w W) (hz : w.heap.size ≤ W.heap.size) => body_any id m A c ss W (hE.below hb) hi hm hn ((hr.below hb).more hz) hs)
  have HG := Lib.hid (fun h1 h2 => encVal_good id m ss h1 h2 hbl)
  have HB1 := Lib.hid (encVal_bad1 id m ss)
  have HB2 := Lib.hid (encVal_bad2 id m ss)
  have HE := Lib.hid hE
  obtain ⟨n, hne⟩ : ∃ n, ss.length = n := ⟨_, rfl⟩
  rw [hne] at hn hW0 hk0 HY HG HB2 ⊢
  obtain ⟨bd, hbd⟩ : ∃ bd, body (msgOf id m ss) = bd := ⟨_, rfl⟩
  have hle := Lib.hid (show encL (msgOf id m ss) = header bd.length ++ bd by unfold encL; rw [hbd])
  rw [hbd] at HY hbl
  have HM := Lib.hid (fun W => validMethod_any m W)
  have HD := Lib.hid (fun W => itoa_c (bd.length : Int) (by unfold inR; omega) W)
  have hdl := itoa_len20 (show inR (bd.length : Int) by unfold inR; omega)
  have HB := Lib.hid hb0
  have HZ := Lib.hid hz0
  have HW := Lib.hid hW0
  have HR := Lib.hid hr
  have HS := Lib.hid hs
  have HN := Lib.hid hne
  have c0 : W0.cell? ⟨w.heap.size, 0, none⟩ = some (.int .i64 id) := cell_of_row W0 w.heap.size 0 _ 24 (0, 0) hk0
  have c1 : W0.cell? ⟨w.heap.size, 1, none⟩ = some (.string m) := cell_of_row W0 w.heap.size 1 _ 24 (0, 0) hk0
  have c2 : W0.cell? ⟨w.heap.size, 2, none⟩ = some (.slice A n c) := cell_of_row W0 w.heap.size 2 _ 24 (0, 0) hk0
  have hsz : w.heap.size < W0.heap.size := by omega
  clear hb0 hz0 hr hs hW0 hne hbd hE hk0
  go_enter Tryz.func10, Tryz.ntmps10
  go_upto_region 1 with fail
  rw [HW.out]
  by_cases hv : validM m.data.toList = true
  · go_upto_region 3 with (first | (go_at_call 18; refine (HM.out _).mono ?_; rintro e w1 ⟨rfl, hb1⟩; rw [hv]; have d0 := (hb1.cell (p := ⟨w.heap.size, 0, none⟩) hsz).trans c0; have d1 := (hb1.cell (p := ⟨w.heap.size, 1, none⟩) hsz).trans c1; have d2 := (hb1.cell (p := ⟨w.heap.size, 2, none⟩) hsz).trans c2))
    · go_ret2
      rw [HB2.out (by omega)]
      exact ⟨rfl, HB.out.trans (hb1.mono HB.out.size)⟩
    · have hlp : Below w.heap.size w w1 := HB.out.trans (hb1.mono HB.out.size)
      have hr1 := HR.out.below hlp
      have HR1 := Lib.hid hr1
      have HL := Lib.hid hlp
      clear hr1 hlp hb1 c0 c1 c2
      go_wp2
      go_loop [4, 21] (fun t i => ∃ k : Nat, k ≤ n ∧ i = .int .i64 k ∧ t = .int .i64 ((sumSz (ss.take k) : Nat) : Int)) (fun _ i => n - (intOf i).toNat)
      case atStart => exact ⟨0, Nat.zero_le _, rfl, by simp [sumSz]⟩
      case round =>
        obtain ⟨k, hk, rfl, rfl⟩ := hrel
        have hsm : sumSz (ss.take k) ≤ 20000 := by
          have h1 := sumSz_le1000 (ss.take k) (fun s h => HS.out s (List.mem_of_mem_take h))
          have h2 : (ss.take k).length ≤ 20 := by rw [List.length_take]; omega
          omega
        by_cases hlt : k < n
        · have hk2 : k < ss.length := by rw [HN.out]; exact hlt
          obtain ⟨ad, rfl, _, hc⟩ := HR1.out.at_ hk2
          have hsk : ss[k].size ≤ 1000 := HS.out _ (List.getElem_mem hk2)
          have HT := Lib.hid (sumSz_take ss k hk2)
          generalize ss[k] = sk at hc hsk HT
          generalize sumSz (ss.take k) = z at hsm HT
          go_wp2
          go_round
          case rel => exact ⟨k + 1, by omega, by go_num, by rw [HT.out]; go_num⟩
          case measure => simp [intOf]; omega
        · have hd : decide ((k : Int) < (n : Int)) = false := decide_eq_false (by omega)
          clear hsm
          have hY := HY.out w1 HL.out HL.out.size
          go_upto_if 12 with (go_at_call 19; refine hY.mono ?_; rintro e w2 ⟨rfl, hb2⟩)
          have hl2 : Below w.heap.size w w2 := HL.out.trans (hb2.mono HL.out.size)
          have hD := HD.out w2 (HE.out.below hl2)
          have hE1 := Lib.hid (show (⟨#[67, 111, 110, 116, 101, 110, 116, 45, 76, 101, 110, 103, 116, 104, 58, 32]⟩ ++ S (Lib.itoa (bd.length : Int)) ++ ⟨#[13, 10, 13, 10]⟩ ++ S bd : ByteArray) = S (encL (msgOf id m ss)) by
            rw [hle.out]
            apply ByteArray.ext
            apply Array.toList_inj.1
            simp [header, pre, crlf])
          obtain ⟨It, hIt⟩ : ∃ It, S (Lib.itoa (bd.length : Int)) = It := ⟨_, rfl⟩
          obtain ⟨Bt, hBt⟩ : ∃ Bt, S bd = Bt := ⟨_, rfl⟩
          have hBs : Bt.size ≤ 100000 := by rw [← hBt, S_size]; exact hbl
          have hIs : It.size ≤ 20 := by rw [← hIt, S_size]; exact hdl
          rw [hIt] at hE1
          have hIt2 : (⟨(Lib.itoa (bd.length : Int)).toArray⟩ : ByteArray) = It := hIt
          rw [hIt2] at hD
          rw [hBt] at hE1 ⊢
          clear hl2 hIt2 hIt hBt
          go_wp2_with (go_at_call 20; refine hD.mono ?_; rintro e w3 ⟨rfl, hb3⟩)
          go_ret2
          have hl2 : Below w.heap.size w w2 := HL.out.trans (hb2.mono HL.out.size)
          rw [HG.out hv (by omega), ← hE1.out]
          exact ⟨rfl, hl2.trans (hb3.mono hl2.size)⟩
  · have hv' : validM m.data.toList = false := by simpa using hv
    go_wp2_with (first | (go_at_call 18; refine (HM.out _).mono ?_; rintro e w1 ⟨rfl, hb1⟩; rw [hv']))
    go_ret2
    rw [HB1.out hv']
    exact ⟨rfl, HB.out.trans (hb1.mono HB.out.size)⟩
end Go.Proofs.YthooajbhiikbfaaGreatDoor
