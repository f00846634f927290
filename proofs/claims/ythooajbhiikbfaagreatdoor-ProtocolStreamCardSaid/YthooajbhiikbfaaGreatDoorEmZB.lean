/- A part of the proofs of the statements of emendatelaw55 (layer protocol): Encode of the reference. Conditions: those that stand in each theorem, no other. -/
import Derived.Test.YthooajbhiikbfaaGreatDoorEmZA
namespace Go.Proofs.YthooajbhiikbfaaGreatDoor
open Go Go.RowKit Em

/-- what Encode returns -/
def encVal (m : Msg) : Value := if valid m then .tuple #[.string (S (encL m)), .int .i64 0] else .tuple #[.string ⟨#[]⟩, .int .i64 1]

theorem body_length_le (id : Int) (m : ByteArray) (ss : List ByteArray) (hi : inR id) (hm : m.size ≤ 1000) (hs : ∀ s ∈ ss, s.size ≤ 1000) (hn : ss.length ≤ 20) :
    (body (msgOf id m ss)).length ≤ 100000 := by
  rw [← bodyTo_all id m ss ss.length (Nat.le_refl _)]
  exact bodyTo_length id m ss ss.length (itoa_len20 hi) hm hs hn

theorem encVal_bad1 (id : Int) (m : ByteArray) (ss : List ByteArray) (h : validM m.data.toList = false) : encVal (msgOf id m ss) = .tuple #[.string ⟨#[]⟩, .int .i64 1] := by
  simp [encVal, valid, msgOf, h]
theorem encVal_bad2 (id : Int) (m : ByteArray) (ss : List ByteArray) (h : 10 < ss.length) : encVal (msgOf id m ss) = .tuple #[.string ⟨#[]⟩, .int .i64 1] := by
  have : ¬ ss.length ≤ 10 := by omega
  simp [encVal, valid, msgOf, this]
theorem encVal_good (id : Int) (m : ByteArray) (ss : List ByteArray) (h : validM m.data.toList = true) (hn : ss.length ≤ 10) (hb : (body (msgOf id m ss)).length ≤ 100000) :
    encVal (msgOf id m ss) = .tuple #[.string (S (encL (msgOf id m ss))), .int .i64 0] := by
  unfold encVal
  rw [if_pos]
  unfold valid
  rw [show (msgOf id m ss).meth = m.data.toList from rfl, h]
  have : (msgOf id m ss).args.length = ss.length := by simp [msgOf]
  simp [this, hn, hb]

set_option maxRecDepth 100000 in
set_option maxHeartbeats 1000000 in
theorem encodeR_any (id : Int) (m : ByteArray) (A : Option Addr) (c : Nat) (ss : List ByteArray) (w : World) (hi : inR id) (hm : m.size ≤ 1000)
    (hn : ss.length ≤ 20) (hr : RdS w w.heap.size A ss) (hs : ∀ s ∈ ss, s.size ≤ 1000) :
    Calls Tryz.prog 11 #[.agg #[.int .i64 id, .string m, .slice A ss.length c]] w fun e w' =>
      e = .returned (encVal (msgOf id m ss)) ∧ Below w.heap.size w w' := by
  obtain ⟨W0, hW0⟩ : ∃ W0 : World, w.alloc (.cells #[.int .i64 id, .string m, .slice A ss.length c] 24) = W0 := ⟨_, rfl⟩
  have hb0 : Below w.heap.size w W0 := by rw [← hW0]; exact (Below.refl _ _).alloc (Nat.le_refl _) _
  have hz0 : W0.heap.size = w.heap.size + 1 := by rw [← hW0]; simp
  have hk0 : W0.heap[w.heap.size]? = some (.cells #[.int .i64 id, .string m, .slice A ss.length c] 24) := by rw [← hW0]; exact heap_alloc_new w _
  have hr0 := hr.below hb0
  have hbl := body_length_le id m ss hi hm hs hn
  have HY := Lib.hid (fun W (hb : Below w.heap.size w W) (hz : w.heap.size ≤ W.heap.size) => bodyR_any id m A c ss W hi hm hn ((hr.below hb).more hz) hs)
  have HG := Lib.hid (fun h1 h2 => encVal_good id m ss h1 h2 hbl)
  have HB1 := Lib.hid (encVal_bad1 id m ss)
  have HB2 := Lib.hid (encVal_bad2 id m ss)
  obtain ⟨n, hne⟩ : ∃ n, ss.length = n := ⟨_, rfl⟩
  rw [hne] at hn hW0 hk0 HY HG HB2 ⊢
  obtain ⟨bd, hbd⟩ : ∃ bd, body (msgOf id m ss) = bd := ⟨_, rfl⟩
  have hle := Lib.hid (show encL (msgOf id m ss) = header bd.length ++ bd by unfold encL; rw [hbd])
  rw [hbd] at HY hbl
  have HM := Lib.hid (fun W => method_any m W (by omega))
  have HD := Lib.hid (fun W => decimalR_any (bd.length : Int) (by unfold inR; omega) W)
  have hdl := itoa_len20 (show inR (bd.length : Int) by unfold inR; omega)
  have HB := Lib.hid hb0
  have HZ := Lib.hid hz0
  have HW := Lib.hid hW0
  have c0 : W0.cell? ⟨w.heap.size, 0, none⟩ = some (.int .i64 id) := cell_of_row W0 w.heap.size 0 _ 24 (0, 0) hk0
  have c1 : W0.cell? ⟨w.heap.size, 1, none⟩ = some (.string m) := cell_of_row W0 w.heap.size 1 _ 24 (0, 0) hk0
  have c2 : W0.cell? ⟨w.heap.size, 2, none⟩ = some (.slice A n c) := cell_of_row W0 w.heap.size 2 _ 24 (0, 0) hk0
  have hsz : w.heap.size < W0.heap.size := by omega
  clear hb0 hz0 hr0 hr hs hW0 hne hbd
  go_enter Tryz.func11, Tryz.ntmps11
  go_upto_region 1 with fail
  rw [HW.out]
  have hlp : Below w.heap.size w W0 := HB.out
  by_cases hv : validM m.data.toList = true
  · go_upto_region 3 with (first | (go_at_call 21; refine (HM.out _).mono ?_; rintro e w1 ⟨rfl, rfl⟩; rw [hv]))
    · go_ret2
      rw [HB2.out (by omega)]
      exact ⟨rfl, hlp⟩
    · have hY := HY.out W0 hlp hlp.size
      go_upto_if 4 with (go_at_call 22; refine hY.mono ?_; rintro e w1 ⟨rfl, hb1⟩)
      have hD := HD.out w1
      have hdn : 16 + (Lib.itoa (bd.length : Int)).length ≤ 50 := by omega
      have hE1 := Lib.hid (show (⟨#[67, 111, 110, 116, 101, 110, 116, 45, 76, 101, 110, 103, 116, 104, 58, 32]⟩ ++ S (Lib.itoa (bd.length : Int)) ++ ⟨#[13, 10, 13, 10]⟩ ++ S bd : ByteArray) = S (encL (msgOf id m ss)) by
        rw [hle.out]
        apply ByteArray.ext
        apply Array.toList_inj.1
        simp [header, pre, crlf])
      obtain ⟨It, hIt⟩ : ∃ It, S (Lib.itoa (bd.length : Int)) = It := ⟨_, rfl⟩
      obtain ⟨Bt, hBt⟩ : ∃ Bt, S bd = Bt := ⟨_, rfl⟩
      have hBs : Bt.size ≤ 100000 := by rw [← hBt, S_size]; exact hbl
      have hIs : It.size ≤ 20 := by rw [← hIt, S_size]; exact hdl
      rw [hIt] at hE1 hD
      rw [hBt] at hE1 ⊢
      go_wp2_with (go_at_call 23; refine hD.mono ?_; rintro e w2 ⟨rfl, hb2⟩)
      go_ret2
      rw [HG.out hv (by omega), ← hE1.out]
      exact ⟨rfl, hlp.trans ((hb1.trans (hb2.mono hb1.size)).mono hlp.size)⟩
  · have hv' : validM m.data.toList = false := by simpa using hv
    go_wp2_with (first | (go_at_call 21; refine (HM.out _).mono ?_; rintro e w1 ⟨rfl, rfl⟩; rw [hv']))
    go_ret2
    rw [HB1.out hv']
    exact ⟨rfl, hlp⟩
end Go.Proofs.YthooajbhiikbfaaGreatDoor
