/- A part of the proofs of the statements of emendatelaw55 (layer protocol): Decode. Conditions: those that stand in each theorem, no other. -/
import Derived.Test.YthooajbhiikbfaaGreatDoorEmV
namespace Go.Proofs.YthooajbhiikbfaaGreatDoor
open Go Go.RowKit Em

set_option maxRecDepth 100000 in
set_option maxHeartbeats 1000000 in
theorem decode_any (s : ByteArray) (hs : s.size ≤ 90000000) (w : World) (hE : Env w) : Calls Tryz.prog 12 #[.string s] w (DecPost s.data.toList w) := by
  have hlen : s.data.toList.length = s.size := (Lib.size_eq s).symm
  obtain ⟨W0, hW0⟩ : ∃ W0 : World, w.alloc (.cells #[.int .i64 0, .string ⟨#[]⟩, .slice none 0 0] 24) = W0 := ⟨_, rfl⟩
  have M : MEnv w W0 := by rw [← hW0]; exact MEnv.of w
  have hE0 := hE.below M.b
  have hh := header_any s hs W0 hE0
  have HW := Lib.hid hW0
  have HM := Lib.hid M
  clear hW0 M
  unfold HdrPost at hh
  cases hd : hdr s.data.toList with
  | more =>
    simp only [hd] at hh
    have HH := Lib.hid hh
    have HP := Lib.hid (dec_more hd)
    clear hh hd hlen
    go_enter Tryz.func12, Tryz.ntmps12
    go_wp2_with (go_at_call 24; rw [HW.out]; refine HH.out.mono ?_; rintro e w1 ⟨t, rfl, hb1⟩; refine Hid.out ?_)
    obtain ⟨q0, q1, q2, qf⟩ := HM.out.three hb1
    refine Lib.hid ?_
    go_wp2
    refine bodyPost_ret (v := .tuple #[zero3V, .int .i64 0, .int .i64 6]) (by simp [results, Tryz.results12, go_sem, zero3V, *]) rfl (DecPost.more HP.out ?_)
    exact below3 HM.out.b hb1 _ _ _
  | bad =>
    simp only [hd] at hh
    have HH := Lib.hid hh
    have HP := Lib.hid (dec_bad hd)
    clear hh hd hlen
    go_enter Tryz.func12, Tryz.ntmps12
    go_wp2_with (go_at_call 24; rw [HW.out]; refine HH.out.mono ?_; rintro e w1 ⟨n, t, rfl, hb1⟩; refine Hid.out ?_)
    obtain ⟨q0, q1, q2, qf⟩ := HM.out.three hb1
    refine Lib.hid ?_
    go_wp2
    refine bodyPost_ret (v := .tuple #[zero3V, .int .i64 0, .int .i64 7]) (by simp [results, Tryz.results12, go_sem, zero3V, *]) rfl (DecPost.bad HP.out ?_)
    exact below3 HM.out.b hb1 _ _ _
  | ok n r =>
    simp only [hd] at hh
    obtain ⟨he, hn⟩ := hdr_sound hd
    have hrl : r.length ≤ s.size := by
      have := congrArg List.length he; rw [List.length_append, hlen] at this; omega
    obtain ⟨R, hR⟩ : ∃ R, S r = R := ⟨_, rfl⟩
    have hRl : R.data.toList = r := by rw [← hR, S_list]
    have hRs : R.size = r.length := by rw [Lib.size_eq, hRl]
    rw [hR] at hh
    have HH := Lib.hid hh
    by_cases hlt : r.length < n
    · have HP := Lib.hid (dec_short hd hlt)
      have hlt' : R.size < n := by omega
      clear hh hd hlen he hR hRl hRs hlt hrl
      go_enter Tryz.func12, Tryz.ntmps12
      go_wp2_with (go_at_call 24; rw [HW.out]; refine HH.out.mono ?_; rintro e w1 ⟨rfl, hb1⟩; refine Hid.out ?_)
      obtain ⟨q0, q1, q2, qf⟩ := HM.out.three hb1
      refine Lib.hid ?_
      go_wp2
      refine bodyPost_ret (v := .tuple #[zero3V, .int .i64 0, .int .i64 6]) (by simp [results, Tryz.results12, go_sem, zero3V, *]) rfl (DecPost.more HP.out ?_)
      exact below3 HM.out.b hb1 _ _ _
    · have hdp := dec_parse hd hlt
      have hnR : n ≤ R.size := by omega
      have hx : (R.extract 0 n).data.toList = r.take n := by rw [ext_list, hRl]; simp
      have hxs : (R.extract 0 n).size ≤ 90000000 := by rw [Lib.size_eq, hx, List.length_take]; omega
      have hpp := fun W hW => message_any (R.extract 0 n) hxs W hW
      rw [hx] at hpp
      unfold ParsePost at hpp
      rw [hlen, ← hRs] at hdp
      have hRss : R.size ≤ s.size := by omega
      cases hq : parse (r.take n) with
      | none =>
        rw [hq] at hdp
        simp only [hq] at hpp
        have HP := Lib.hid hdp
        have HQ := Lib.hid hpp
        unfold zero3V at HQ
        clear hh hd hlen he hR hRl hRs hlt hrl hx hxs hq hpp hdp
        go_enter Tryz.func12, Tryz.ntmps12
        go_wp2_with (go_at_call 24; rw [HW.out]; refine HH.out.mono ?_; rintro e w1 ⟨rfl, hb1⟩; refine Hid.out ?_)
        have hE1 := hE0.below hb1
        refine Lib.hid ?_
        go_wp2_with (go_at_call 25; refine (HQ.out _ hE1).mono ?_; rintro e w2 ⟨rfl, hb2⟩; refine Hid.out ?_)
        have hb3 := hb1.trans (hb2.mono hb1.size)
        obtain ⟨q0, q1, q2, qf⟩ := HM.out.three hb3
        have hlt2 : w.heap.size < w2.heap.size := by have := hb3.size; rw [HM.out.z] at this; omega
        refine Lib.hid ?_
        go_wp2
        refine bodyPost_ret (v := .tuple #[zero3V, .int .i64 0, .int .i64 7]) (by simp [results, Tryz.results12, go_sem, zero3V, *]) rfl (DecPost.bad HP.out ?_)
        exact (below3 HM.out.b hb3 _ _ _).alloc (by simp; omega) _
      | some m =>
        rw [hq] at hdp
        simp only [hq] at hpp
        have HP := Lib.hid hdp
        have HQ := Lib.hid hpp
        clear hh hd hlen he hR hRl hRs hlt hrl hx hxs hq hpp hdp
        go_enter Tryz.func12, Tryz.ntmps12
        go_wp2_with (go_at_call 24; rw [HW.out]; refine HH.out.mono ?_; rintro e w1 ⟨rfl, hb1⟩; refine Hid.out ?_)
        have hE1 := hE0.below hb1
        refine Lib.hid ?_
        go_wp2_with (go_at_call 25; refine (HQ.out _ hE1).mono ?_; rintro e w2 ⟨v, rfl, ⟨A, c, rfl, hA, hr⟩, hb2⟩; refine Hid.out ?_)
        have hb3 := hb1.trans (hb2.mono hb1.size)
        obtain ⟨q0, q1, q2, qf⟩ := HM.out.three hb3
        have hlt2 : w.heap.size < w2.heap.size := by have := hb3.size; rw [HM.out.z] at this; omega
        have hlt1 : W0.heap.size ≤ w1.heap.size := hb1.size
        have HMs := Lib.hid (show MsgIs w1.heap.size m (.agg #[.int .i64 m.id, .string (S m.meth), .slice A (m.args.map S).length c]) w2 from ⟨A, c, rfl, hA, hr⟩)
        obtain ⟨L, hL⟩ : ∃ L, m.args.length = L := ⟨_, rfl⟩
        clear hA hr
        rw [List.length_map] at HMs
        rw [hL] at HMs
        rw [hL]
        clear hL
        refine Lib.hid ?_
        go_wp2
        refine bodyPost_ret (v := .tuple #[.agg #[.int .i64 m.id, .string (S m.meth), .slice A L c], .int .i64 ((s.size - R.size + n : Nat) : Int), .int .i64 0]) (by simp [results, Tryz.results12, go_sem, *]; try omega) rfl (DecPost.good HP.out ?_ ?_)
        · have hz := HM.out.z
          exact ((HMs.out.set3 (by omega) _ _ _).alloc _).mono (by omega)
        · exact (below3 HM.out.b hb3 _ _ _).alloc (by simp; omega) _
end Go.Proofs.YthooajbhiikbfaaGreatDoor
