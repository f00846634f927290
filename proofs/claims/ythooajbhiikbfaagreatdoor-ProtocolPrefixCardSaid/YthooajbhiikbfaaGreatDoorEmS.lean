/- A part of the proofs of the statements of emendatelaw55 (layer protocol): Decode of the reference. Conditions: those that stand in each theorem, no other. -/
import Derived.Test.YthooajbhiikbfaaGreatDoorEmR
namespace Go.Proofs.YthooajbhiikbfaaGreatDoor
open Go Go.RowKit Em

/-- what Decode returns -/
def DecPost (l : Bytes) (w : World) (e : Ending) (w' : World) : Prop :=
  match dec l with
  | .more => e = .returned (.tuple #[zero3V, .int .i64 0, .int .i64 6]) ∧ Below w.heap.size w w'
  | .bad => e = .returned (.tuple #[zero3V, .int .i64 0, .int .i64 7]) ∧ Below w.heap.size w w'
  | .ok m n => ∃ v, e = .returned (.tuple #[v, .int .i64 n, .int .i64 0]) ∧ MsgIs w.heap.size m v w' ∧ Below w.heap.size w w'
theorem DecPost.more {l : Bytes} {w w' : World} (h : dec l = .more) (hb : Below w.heap.size w w') : DecPost l w (.returned (.tuple #[zero3V, .int .i64 0, .int .i64 6])) w' := by
  unfold DecPost; rw [h]; exact ⟨rfl, hb⟩
theorem DecPost.bad {l : Bytes} {w w' : World} (h : dec l = .bad) (hb : Below w.heap.size w w') : DecPost l w (.returned (.tuple #[zero3V, .int .i64 0, .int .i64 7])) w' := by
  unfold DecPost; rw [h]; exact ⟨rfl, hb⟩
theorem DecPost.good {l : Bytes} {m : Msg} {n : Nat} {v : Value} {w w' : World} (h : dec l = .ok m n) (hm : MsgIs w.heap.size m v w') (hb : Below w.heap.size w w') : DecPost l w (.returned (.tuple #[v, .int .i64 n, .int .i64 0])) w' := by
  unfold DecPost; rw [h]; exact ⟨v, rfl, hm, hb⟩

theorem dec_more {l : Bytes} (h : hdr l = .more) : dec l = .more := by unfold dec; rw [h]
theorem dec_bad {l : Bytes} (h : hdr l = .bad) : dec l = .bad := by unfold dec; rw [h]
theorem dec_short {l : Bytes} {n : Nat} {r : Bytes} (h : hdr l = .ok n r) (hl : r.length < n) : dec l = .more := by unfold dec; rw [h]; simp only [if_pos hl]
theorem dec_parse {l : Bytes} {n : Nat} {r : Bytes} (h : hdr l = .ok n r) (hl : ¬ r.length < n) : dec l = match parse (r.take n) with | none => .bad | some m => .ok m (l.length - r.length + n) := by
  unfold dec; rw [h]; simp only [if_neg hl]
  cases parse (r.take n) <;> rfl

theorem hdr_is (s : ByteArray) (hs : s.size ≤ 90000000) {p : Int × Int} (hp : refH s.data.toList = p) (w : World) :
    Calls Tryz.prog 26 #[.string s] w fun e w' => e = .returned (.tuple #[.int .i64 p.1, .int .i64 p.2]) ∧ w = w' := by
  rw [← hp]; exact headerR_any s hs w

theorem MsgIs.set3 {B b : Nat} {m : Msg} {v : Value} {X : World} (h : MsgIs B m v X) (hb : b < B) (c0 c1 c2 : Value) :
    MsgIs B m v (((X.setCell ⟨b, 0, none⟩ c0).setCell ⟨b, 1, none⟩ c1).setCell ⟨b, 2, none⟩ c2) := by
  obtain ⟨A, c, hv, hA, hr⟩ := h
  refine ⟨A, c, hv, hA, ?_⟩
  intro k s hs
  obtain ⟨a, ha, hlt, hc⟩ := hr k s hs
  have hge := hA a ha
  refine ⟨a, ha, by simpa using hlt, ?_⟩
  have hne : ∀ (o : Nat), (⟨b, o, none⟩ : Addr) ≠ a.add k := fun o e => by
    have := congrArg Addr.block e
    rw [blk_add] at this
    have : b = a.block := this
    omega
  rw [World.cell?_setCell_other _ _ _ _ (hne 2), World.cell?_setCell_other _ _ _ _ (hne 1), World.cell?_setCell_other _ _ _ _ (hne 0)]
  exact hc
theorem MsgIs.alloc {B : Nat} {m : Msg} {v : Value} {X : World} (h : MsgIs B m v X) (o : Obj) : MsgIs B m v (X.alloc o) := by
  obtain ⟨A, c, hv, hA, hr⟩ := h
  refine ⟨A, c, hv, hA, ?_⟩
  exact (hr.below ((Below.refl _ _).alloc (Nat.le_refl _) o)).more (by simp)
theorem MsgIs.mono {B B' : Nat} {m : Msg} {v : Value} {X : World} (h : MsgIs B m v X) (hB : B' ≤ B) : MsgIs B' m v X := by
  obtain ⟨A, c, hv, hA, hr⟩ := h
  exact ⟨A, c, hv, fun a ha => Nat.le_trans hB (hA a ha), hr⟩

set_option maxRecDepth 100000 in
set_option maxHeartbeats 800000 in
theorem decodeR_any (s : ByteArray) (hs : s.size ≤ 90000000) (w : World) : Calls Tryz.prog 13 #[.string s] w (DecPost s.data.toList w) := by
  have hlen : s.data.toList.length = s.size := (Lib.size_eq s).symm
  obtain ⟨W0, hW0⟩ : ∃ W0 : World, w.alloc (.cells #[.int .i64 0, .string ⟨#[]⟩, .slice none 0 0] 24) = W0 := ⟨_, rfl⟩
  have HB := Lib.hid (show Below w.heap.size w W0 by rw [← hW0]; exact (Below.refl _ _).alloc (Nat.le_refl _) _)
  have HZ := Lib.hid (show W0.heap.size = w.heap.size + 1 by rw [← hW0]; simp)
  have HK := Lib.hid (show W0.heap[w.heap.size]? = some (.cells #[.int .i64 0, .string ⟨#[]⟩, .slice none 0 0] 24) by rw [← hW0]; exact heap_alloc_new w _)
  obtain ⟨q0, q1, q2, qf⟩ := Three.of HK.out
  have HW := Lib.hid hW0
  clear hW0
  cases hh : hdr s.data.toList with
  | more =>
    have HH := Lib.hid (hdr_is s hs (refH_more hh) W0)
    have HP := Lib.hid (dec_more hh)
    clear hh hlen
    go_enter Tryz.func13, Tryz.ntmps13
    go_wp2_with (go_at_call 26; rw [HW.out]; refine HH.out.mono ?_; rintro e w1 ⟨rfl, rfl⟩)
    refine bodyPost_ret (v := .tuple #[zero3V, .int .i64 0, .int .i64 6]) (by simp [results, Tryz.results13, go_sem, zero3V, *]) rfl (DecPost.more HP.out ?_)
    exact below3 HB.out (Below.refl _ _) _ _ _
  | bad =>
    have HH := Lib.hid (hdr_is s hs (refH_bad hh) W0)
    have HP := Lib.hid (dec_bad hh)
    clear hh hlen
    go_enter Tryz.func13, Tryz.ntmps13
    go_wp2_with (go_at_call 26; rw [HW.out]; refine HH.out.mono ?_; rintro e w1 ⟨rfl, rfl⟩)
    refine bodyPost_ret (v := .tuple #[zero3V, .int .i64 0, .int .i64 7]) (by simp [results, Tryz.results13, go_sem, zero3V, *]) rfl (DecPost.bad HP.out ?_)
    exact below3 HB.out (Below.refl _ _) _ _ _
  | ok n r =>
    have HH := Lib.hid (hdr_is s hs (refH_ok hh) W0)
    obtain ⟨he, hn⟩ := hdr_sound hh
    have hrl : r.length ≤ s.size := by
      have := congrArg List.length he; rw [List.length_append, hlen] at this; omega
    obtain ⟨a, ha⟩ : ∃ a, s.size - r.length = a := ⟨_, rfl⟩
    rw [hlen, ha] at HH
    have hra : r.length + a = s.size := by omega
    have hr : r = s.data.toList.drop a := by
      have : a = (header n).length := by
        have := congrArg List.length he; rw [List.length_append, hlen] at this; omega
      rw [he, this, List.drop_left]
    have hm1 : ((a : Int) == -1) = false := by rw [beq_eq_false_iff_ne]; omega
    have hm2 : ((a : Int) == -2) = false := by rw [beq_eq_false_iff_ne]; omega
    by_cases hlt : r.length < n
    · have HP := Lib.hid (dec_short hh hlt)
      have hd : decide ((s.size : Int) - (a : Int) < (n : Int)) = true := by simp; omega
      clear hh hlen ha hr he
      go_enter Tryz.func13, Tryz.ntmps13
      go_wp2_with (go_at_call 26; rw [HW.out]; refine HH.out.mono ?_; rintro e w1 ⟨rfl, rfl⟩)
      refine bodyPost_ret (v := .tuple #[zero3V, .int .i64 0, .int .i64 6]) (by simp [results, Tryz.results13, go_sem, zero3V, *]) rfl (DecPost.more HP.out ?_)
      exact below3 HB.out (Below.refl _ _) _ _ _
    · have hd : decide ((s.size : Int) - (a : Int) < (n : Int)) = false := by simp; omega
      have hdp := dec_parse hh hlt
      have han : a + n ≤ s.size := by omega
      have hx : (s.extract a (a + n)).data.toList = r.take n := by rw [ext_take, S_list, hr]
      have hxs : (s.extract a (a + n)).size ≤ 90000000 := by rw [Lib.size_eq, hx, List.length_take]; omega
      have hpp := parseR_any (s.extract a (a + n)) hxs W0
      rw [hx] at hpp
      unfold ParsePost at hpp
      rw [hlen, ha] at hdp
      cases hq : parse (r.take n) with
      | none =>
        rw [hq] at hdp
        simp only [hq] at hpp
        have HP := Lib.hid hdp
        have HQ := Lib.hid hpp
        clear hh hlen ha hr he hx hxs hq hpp hdp
        unfold zero3V at HQ
        go_enter Tryz.func13, Tryz.ntmps13
        go_wp2_with (first | (go_at_call 26; rw [HW.out]; refine HH.out.mono ?_; rintro e w1 ⟨rfl, rfl⟩) | (go_at_call 27; refine HQ.out.mono ?_; rintro e w1 ⟨rfl, hb1⟩; refine Hid.out ?_))
        obtain ⟨q0, q1, q2, qf⟩ := Three.of ((hb1.block w.heap.size (by rw [HZ.out]; omega)).trans HK.out)
        have hlt1 : w.heap.size < w1.heap.size := by have := hb1.size; rw [HZ.out] at this; omega
        refine Lib.hid ?_
        go_wp2
        refine bodyPost_ret (v := .tuple #[zero3V, .int .i64 0, .int .i64 7]) (by simp [results, Tryz.results13, go_sem, zero3V, *]) rfl (DecPost.bad HP.out ?_)
        exact (below3 HB.out hb1 _ _ _).alloc (by simp; omega) _
      | some m =>
        rw [hq] at hdp
        simp only [hq] at hpp
        have HP := Lib.hid hdp
        have HQ := Lib.hid hpp
        clear hh hlen ha hr he hx hxs hq hpp hdp
        go_enter Tryz.func13, Tryz.ntmps13
        go_wp2_with (first | (go_at_call 26; rw [HW.out]; refine HH.out.mono ?_; rintro e w1 ⟨rfl, rfl⟩) | (go_at_call 27; refine HQ.out.mono ?_; rintro e w1 ⟨v, rfl, ⟨A, c, rfl, hA, hr⟩, hb1⟩; refine Hid.out ?_))
        obtain ⟨q0, q1, q2, qf⟩ := Three.of ((hb1.block w.heap.size (by rw [HZ.out]; omega)).trans HK.out)
        have hlt1 : w.heap.size < w1.heap.size := by have := hb1.size; rw [HZ.out] at this; omega
        have HM := Lib.hid (show MsgIs W0.heap.size m (.agg #[.int .i64 m.id, .string (S m.meth), .slice A (m.args.map S).length c]) w1 from ⟨A, c, rfl, hA, hr⟩)
        obtain ⟨L, hL⟩ : ∃ L, m.args.length = L := ⟨_, rfl⟩
        rw [List.length_map] at HM
        clear hA hr
        rw [hL] at HM
        rw [hL]
        clear hL
        refine Lib.hid ?_
        go_wp2
        refine bodyPost_ret (v := .tuple #[.agg #[.int .i64 m.id, .string (S m.meth), .slice A L c], .int .i64 ((a + n : Nat) : Int), .int .i64 0]) (by simp [results, Tryz.results13, go_sem, *]) rfl (DecPost.good HP.out ?_ ?_)
        · exact ((HM.out.set3 (by rw [HZ.out]; omega) _ _ _).alloc _).mono (by rw [HZ.out]; omega)
        · exact (below3 HB.out hb1 _ _ _).alloc (by simp; omega) _
end Go.Proofs.YthooajbhiikbfaaGreatDoor
