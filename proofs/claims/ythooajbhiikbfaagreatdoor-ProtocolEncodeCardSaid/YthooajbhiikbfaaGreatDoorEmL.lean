/- A part of the proofs of the statements of emendatelaw55 (layer protocol): DecodeEvent of the reference. Conditions: those that stand in each theorem, no other. -/
import Derived.Test.YthooajbhiikbfaaGreatDoorEmK
import Derived.StillTailTactics
namespace Go.Proofs.YthooajbhiikbfaaGreatDoor
open Go Go.RowKit Em

/-- the value of an event -/
def evV (k d n a e : Int) (ins text : ByteArray) : Value := .agg #[.int .i64 k, .int .i64 d, .int .i64 n, .int .i64 a, .int .i64 e, .string ins, .string text]
def ints (l : List Int) : List Value := l.map (Value.int .i64)

/-- what an event's decoding comes to -/
def decEv (t : Bytes) : Option (List Int × Bytes) :=
  match scan t [] [] with
  | none => none
  | some (l, r) => if l.length = 7 ∧ 0 ≤ l.getD 5 0 ∧ 0 ≤ l.getD 6 0 ∧ l.getD 5 0 ≤ (r.length : Int) ∧ l.getD 6 0 = (r.length : Int) - l.getD 5 0 then some (l, r) else none

theorem scan_at (t : Bytes) (k : Nat) (hk : k < t.length) (l : List Int) (cur : Bytes) (h7 : l.length < 7) :
    scan (t.drop k) l cur = if (l.length < 6 ∧ t.getD k 0 = 32) ∨ (l.length = 6 ∧ t.getD k 0 = 58) then (match num? cur with | none => none | some n => scan (t.drop (k + 1)) (l ++ [n]) [])
      else scan (t.drop (k + 1)) l (cur ++ [t.getD k 0]) := by
  have e : t.drop k = t.getD k 0 :: t.drop (k + 1) := by
    rw [List.getD_eq_getElem?_getD, List.getElem?_eq_getElem hk]; exact List.drop_eq_getElem_cons hk
  rw [e, scan, if_neg (by omega)]
  cases num? cur <;> rfl
theorem scan_end (t : Bytes) (k : Nat) (l : List Int) (cur : Bytes) (h : k = t.length ∨ l.length = 7) (hk : k ≤ t.length) : scan (t.drop k) l cur = some (l, t.drop k) := by
  rcases h with rfl | h
  · rw [List.drop_length]; rfl
  · cases hd : t.drop k with
    | nil => rfl
    | cons c r => rw [scan, if_pos h]
theorem cur_step (t : Bytes) (a k : Nat) (hk : k < t.length) (ha : a ≤ k) : ((t.take k).drop a) ++ [t.getD k 0] = (t.take (k + 1)).drop a := by
  have : t.take (k + 1) = t.take k ++ [t.getD k 0] := by
    rw [List.getD_eq_getElem?_getD, List.getElem?_eq_getElem hk]; exact List.take_succ_eq_append_getElem hk
  rw [this, List.drop_append_of_le_length (by rw [List.length_take]; omega)]
theorem cur_nil (t : Bytes) (k : Nat) : (t.take k).drop k = [] := by
  rw [List.drop_eq_nil_iff, List.length_take]; omega

def EvBad (w : World) (e : Ending) (w' : World) : Prop :=
  e = .returned (.tuple #[evV 0 0 0 0 0 ⟨#[]⟩ ⟨#[]⟩, .int .i64 7]) ∧ Below w.heap.size w w'

def EvGood (z0 z1 z2 z3 z4 : Int) (ins text : ByteArray) (w : World) (e : Ending) (w' : World) : Prop :=
  e = .returned (.tuple #[evV z0 z1 z2 z3 z4 ins text, .int .i64 0]) ∧ Below w.heap.size w w'
/-- what DecodeEvent comes to -/
def EvPost (t : Bytes) (w : World) (e : Ending) (w' : World) : Prop :=
  match decEv t with
  | none => EvBad w e w'
  | some (l, r) => EvGood (l.getD 0 0) (l.getD 1 0) (l.getD 2 0) (l.getD 3 0) (l.getD 4 0) (S (r.take (l.getD 5 0).toNat)) (S (r.drop (l.getD 5 0).toNat)) w e w'
theorem EvPost.bad {t : Bytes} {w : World} {e : Ending} {w' : World} (h : decEv t = none) (hb : EvBad w e w') : EvPost t w e w' := by
  unfold EvPost; rw [h]; exact hb
theorem decEv_none {t : Bytes} (h : scan t [] [] = none) : decEv t = none := by unfold decEv; rw [h]
theorem decEv_short {t : Bytes} {l : List Int} {r : Bytes} (h : scan t [] [] = some (l, r)) (hl : l.length ≠ 7) : decEv t = none := by
  unfold decEv; rw [h]; simp only [hl, false_and, if_false]
theorem list7 {l : List Int} (h : l.length = 7) : ∃ z0 z1 z2 z3 z4 z5 z6, l = [z0, z1, z2, z3, z4, z5, z6] := by
  match l, h with
  | [z0, z1, z2, z3, z4, z5, z6], _ => exact ⟨z0, z1, z2, z3, z4, z5, z6, rfl⟩
theorem decEv_seven {t : Bytes} {z0 z1 z2 z3 z4 z5 z6 : Int} {r : Bytes} (h : scan t [] [] = some ([z0, z1, z2, z3, z4, z5, z6], r)) :
    decEv t = if 0 ≤ z5 ∧ 0 ≤ z6 ∧ z5 ≤ (r.length : Int) ∧ z6 = (r.length : Int) - z5 then some ([z0, z1, z2, z3, z4, z5, z6], r) else none := by
  unfold decEv; rw [h]; simp

theorem int_info : (Tryz.prog.info? 3).map (fun i => (i.zero, i.size, i.bytes)) = some (some (.int .i64 0), 1, 8) := by kernel_rfl

/-- the state of the scan at the loop's head -/
structure ScanSt (t : ByteArray) (W0 wr : World) (l : List Int) (a k : Nat) (v : Value) : Prop where
  hk : k ≤ t.size
  ha : a ≤ k
  h7 : l.length ≤ 7
  hat : l.length = 7 → a = k
  hr : ∀ z ∈ l, inR z
  eq : scan (t.data.toList.drop k) l ((t.data.toList.take k).drop a) = scan t.data.toList [] []
  own : wr.ownsRow W0.heap.size 3 1 v l.length (ints l)
  below : Below W0.heap.size W0 wr


theorem ScanSt.keep {t : ByteArray} {W0 wr : World} {l : List Int} {a k : Nat} {v : Value} (h : ScanSt t W0 wr l a k v) (h7 : l.length < 7) (hk : k < t.size)
    (hc : ¬ ((l.length < 6 ∧ t.data.toList.getD k 0 = 32) ∨ (l.length = 6 ∧ t.data.toList.getD k 0 = 58))) : ScanSt t W0 wr l a (k + 1) v where
  hk := hk
  ha := by have := h.ha; omega
  h7 := h.h7
  hat := fun e => by omega
  hr := h.hr
  eq := by
    have hk' : k < t.data.toList.length := by rw [← Lib.size_eq]; exact hk
    rw [← h.eq, scan_at _ k hk' l _ h7, if_neg hc, cur_step _ _ _ hk' h.ha]
  own := h.own
  below := h.below

theorem ScanSt.none_ {t : ByteArray} {W0 wr : World} {l : List Int} {a k : Nat} {v : Value} (h : ScanSt t W0 wr l a k v) (h7 : l.length < 7) (hk : k < t.size)
    (hc : (l.length < 6 ∧ t.data.toList.getD k 0 = 32) ∨ (l.length = 6 ∧ t.data.toList.getD k 0 = 58)) (hn : num? ((t.data.toList.take k).drop a) = none) : scan t.data.toList [] [] = none := by
  have hk' : k < t.data.toList.length := by rw [← Lib.size_eq]; exact hk
  rw [← h.eq, scan_at _ k hk' l _ h7, if_pos hc, hn]

theorem ScanSt.push {t : ByteArray} {W0 wr w1 : World} {l : List Int} {a k : Nat} {v v' : Value} (h : ScanSt t W0 wr l a k v) (h7 : l.length < 7) (hk : k < t.size)
    (hc : (l.length < 6 ∧ t.data.toList.getD k 0 = 32) ∨ (l.length = 6 ∧ t.data.toList.getD k 0 = 58)) {n : Int} (hn : num? ((t.data.toList.take k).drop a) = some n)
    (hown : w1.ownsRow W0.heap.size 3 1 v' (l.length + 1) (ints l ++ [.int .i64 n])) (hb : Below W0.heap.size W0 w1) : ScanSt t W0 w1 (l ++ [n]) (k + 1) (k + 1) v' where
  hk := hk
  ha := Nat.le_refl _
  h7 := by simp; omega
  hat := fun _ => rfl
  hr := fun z hz => by
    rcases List.mem_append.1 hz with hz | hz
    · exact h.hr z hz
    · rw [List.mem_singleton.1 hz]; exact (num?_some.1 hn).2
  eq := by
    have hk' : k < t.data.toList.length := by rw [← Lib.size_eq]; exact hk
    rw [← h.eq, scan_at _ k hk' l _ h7, if_pos hc, hn, cur_nil]
  own := by rw [List.length_append]; simpa [ints] using hown
  below := hb

theorem ScanSt.end_ {t : ByteArray} {W0 wr : World} {l : List Int} {a k : Nat} {v : Value} (h : ScanSt t W0 wr l a k v) (he : k = t.size ∨ l.length = 7) :
    scan t.data.toList [] [] = some (l, t.data.toList.drop k) := by
  rw [← h.eq]; exact scan_end _ _ _ _ (by rw [← Lib.size_eq]; exact he) (by rw [← Lib.size_eq]; exact h.hk)

/-- seven cells that can be written -/
structure Seven (X : World) (b : Nat) (c0 c1 c2 c3 c4 c5 c6 : Value) : Prop where
  c0 : X.cell? ⟨b, 0, none⟩ = some c0
  c1 : X.cell? ⟨b, 1, none⟩ = some c1
  c2 : X.cell? ⟨b, 2, none⟩ = some c2
  c3 : X.cell? ⟨b, 3, none⟩ = some c3
  c4 : X.cell? ⟨b, 4, none⟩ = some c4
  c5 : X.cell? ⟨b, 5, none⟩ = some c5
  c6 : X.cell? ⟨b, 6, none⟩ = some c6
  f : ∀ i, X.frozen? ⟨b, i, none⟩ = false
theorem Seven.of {X : World} {b : Nat} {t : TypeId} {c0 c1 c2 c3 c4 c5 c6 : Value} (h : X.heap[b]? = some (.cells #[c0, c1, c2, c3, c4, c5, c6] t (0, 0))) : Seven X b c0 c1 c2 c3 c4 c5 c6 :=
  ⟨cell_of_row X b 0 _ t (0, 0) h, cell_of_row X b 1 _ t (0, 0) h, cell_of_row X b 2 _ t (0, 0) h, cell_of_row X b 3 _ t (0, 0) h, cell_of_row X b 4 _ t (0, 0) h, cell_of_row X b 5 _ t (0, 0) h, cell_of_row X b 6 _ t (0, 0) h, fun i => by simp [World.frozen?, h]⟩

theorem ext_list (t : ByteArray) (a k : Nat) : (t.extract a k).data.toList = (t.data.toList.take k).drop a := by
  rw [Lib.extract_data]; simp [List.drop_take]

theorem S_ext {a b : ByteArray} (h : a.data.toList = b.data.toList) : a = b := by
  apply ByteArray.ext; apply Array.ext'; exact h
theorem ext_take (t : ByteArray) (a m : Nat) : t.extract a (a + m) = S ((t.data.toList.drop a).take m) := by
  apply S_ext; rw [ext_list, S_list, List.drop_take, Nat.add_sub_cancel_left]
theorem ext_drop (t : ByteArray) (a m : Nat) : t.extract (a + m) t.size = S ((t.data.toList.drop a).drop m) := by
  apply S_ext; rw [ext_list, S_list, Lib.size_eq, List.take_length, List.drop_drop]
theorem EvPost.good {t : ByteArray} {w w' : World} {z0 z1 z2 z3 z4 z6 : Int} {a m : Nat} (h : decEv t.data.toList = some ([z0, z1, z2, z3, z4, (m : Int), z6], t.data.toList.drop a)) (hb : Below w.heap.size w w') :
    EvPost t.data.toList w (.returned (.tuple #[evV z0 z1 z2 z3 z4 (t.extract a (a + m)) (t.extract (a + m) t.size), .int .i64 0])) w' := by
  unfold EvPost
  rw [h]
  refine ⟨?_, hb⟩
  rw [ext_take, ext_drop]
  simp

theorem below7 {w W0 X : World} (h : Below w.heap.size w W0) (hb : Below W0.heap.size W0 X) (c0 c1 c2 c3 c4 c5 c6 : Value) :
    Below w.heap.size w (((((((X.setCell ⟨w.heap.size, 0, none⟩ c0).setCell ⟨w.heap.size, 1, none⟩ c1).setCell ⟨w.heap.size, 2, none⟩ c2).setCell ⟨w.heap.size, 3, none⟩ c3).setCell ⟨w.heap.size, 4, none⟩ c4).setCell ⟨w.heap.size, 5, none⟩ c5).setCell ⟨w.heap.size, 6, none⟩ c6) :=
  (((((((h.trans (hb.mono h.size)).setCell (Nat.le_refl _) _).setCell (Nat.le_refl _) _).setCell (Nat.le_refl _) _).setCell (Nat.le_refl _) _).setCell (Nat.le_refl _) _).setCell (Nat.le_refl _) _).setCell (Nat.le_refl _) _

set_option maxRecDepth 100000 in
set_option maxHeartbeats 4000000 in
theorem decEv_any (t : ByteArray) (hs : t.size ≤ 100000000) (w : World) :
    Calls Tryz.prog 50 #[.string t] w (EvPost t.data.toList w) := by
  obtain ⟨i0, hi0, hz0, hz1, hz2⟩ := info_parts int_info
  obtain ⟨W0, hW0⟩ : ∃ W0 : World, w.alloc (.cells #[.int .i64 0, .int .i64 0, .int .i64 0, .int .i64 0, .int .i64 0, .string ⟨#[]⟩, .string ⟨#[]⟩] 73) = W0 := ⟨_, rfl⟩
  have hb0 : Below w.heap.size w W0 := by rw [← hW0]; exact (Below.refl _ _).alloc (Nat.le_refl _) _
  have hs0 : W0.heap.size = w.heap.size + 1 := by rw [← hW0]; simp
  have hblk : W0.heap[w.heap.size]? = some (.cells #[.int .i64 0, .int .i64 0, .int .i64 0, .int .i64 0, .int .i64 0, .string ⟨#[]⟩, .string ⟨#[]⟩] 73) := by rw [← hW0]; exact heap_alloc_new w _
  have HB := Lib.hid hb0
  have HZ := Lib.hid hs0
  have HK := Lib.hid hblk
  have HW := Lib.hid hW0
  clear hb0 hs0 hblk hW0
  go_enter Tryz.func50, Tryz.ntmps50
  go_wp2
  rw [HW.out]
  go_loopw [4, 5, 6] (fun v ai ki wr => ∃ (l : List Int) (a k : Nat), ai = .int .i64 a ∧ ki = .int .i64 k ∧ ScanSt t W0 wr l a k v) (fun _ _ ki _ => t.size - (intOf ki).toNat)
  case atStart => exact ⟨[], 0, 0, rfl, rfl, ⟨Nat.zero_le _, Nat.le_refl _, by simp, by simp, by simp, by simp, World.ownsRow_nil _ _ _ _, Below.refl _ _⟩⟩
  case round =>
    obtain ⟨l, a, k, rfl, rfl, hst⟩ := hrel
    have HS := Lib.hid hst
    clear hst
    obtain ⟨va, vcap, rfl⟩ : ∃ va vcap, u4 = .slice va l.length vcap := by
      rcases HS.out.own.2 with ⟨hv, h0⟩ | ⟨g, cap, cur, hv, _⟩
      · exact ⟨none, 0, by rw [hv, h0]⟩
      · exact ⟨_, _, hv⟩
    have hk := HS.out.hk
    have ha := HS.out.ha
    obtain ⟨L, hL⟩ : ∃ L, l.length = L := ⟨_, rfl⟩
    have HO := Lib.hid (show wr.ownsRow W0.heap.size 3 1 (.slice va L vcap) L (ints l) by rw [← hL]; exact HS.out.own)
    rw [hL]
    have HL := Lib.hid hL
    clear hL
    by_cases hlt : k < t.size
    · by_cases h7 : L < 7
      · have h7' : l.length < 7 := by rw [HL.out]; exact h7
        have HG := Lib.hid (getD_at t k hlt)
        by_cases hc : (L < 6 ∧ (t[k].toNat : Int) = 32) ∨ (L = 6 ∧ (t[k].toNat : Int) = 58)
        · have hc' : (l.length < 6 ∧ t.data.toList.getD k 0 = 32) ∨ (l.length = 6 ∧ t.data.toList.getD k 0 = 58) := by
            rw [HL.out, HG.out]
            rcases hc with ⟨x, y⟩ | ⟨x, y⟩
            · exact .inl ⟨x, by apply UInt8.toNat_inj.1; simp; omega⟩
            · exact .inr ⟨x, by apply UInt8.toNat_inj.1; simp; omega⟩
          have hx := ext_list t a k
          have hxs : (t.extract a k).size ≤ 140737488355328 := by
            have := congrArg List.length hx
            rw [← Lib.size_eq, List.length_drop, List.length_take, ← Lib.size_eq] at this
            omega
          cases hn : num? ((t.data.toList.take k).drop a) with
          | none =>
            have hnb := numR_bad (t.extract a k) (by rw [hx]; exact hn) hxs wr
            have HN := Lib.hid hnb
            have HE := Lib.hid (HS.out.none_ h7' hlt hc' hn)
            clear hx hxs hn hnb h7'
            have HC := Lib.hid hc'
            clear hc'
            rcases hc with ⟨x, y⟩ | ⟨x, y⟩
            · have y' : ((t[k].toNat : Int) == 32) = true := by simpa using y
              clear y
              go_wp2_with (go_at_call 72; refine HN.out.mono ?_; rintro e w1 ⟨n, rfl, hb1⟩; refine Hid.out ?_)
              have hb2 := HS.out.below.trans (hb1.mono HS.out.below.size)
              obtain ⟨q0, q1, q2, q3, q4, q5, q6, qf⟩ := Seven.of ((hb2.block w.heap.size (by rw [HZ.out]; omega)).trans HK.out)
              refine Lib.hid ?_
              go_wp2
              refine bodyPost_ret (v := .tuple #[evV 0 0 0 0 0 ⟨#[]⟩ ⟨#[]⟩, .int .i64 7]) (by simp [results, Tryz.results50, go_sem, evV, *]) rfl (EvPost.bad (decEv_none HE.out) ⟨rfl, ?_⟩)
              exact below7 HB.out hb2 _ _ _ _ _ _ _
            · have y' : ((t[k].toNat : Int) == 58) = true := by simpa using y
              clear y
              subst x
              go_wp2_with (go_at_call 72; refine HN.out.mono ?_; rintro e w1 ⟨n, rfl, hb1⟩; refine Hid.out ?_)
              have hb2 := HS.out.below.trans (hb1.mono HS.out.below.size)
              obtain ⟨q0, q1, q2, q3, q4, q5, q6, qf⟩ := Seven.of ((hb2.block w.heap.size (by rw [HZ.out]; omega)).trans HK.out)
              refine Lib.hid ?_
              go_wp2
              refine bodyPost_ret (v := .tuple #[evV 0 0 0 0 0 ⟨#[]⟩ ⟨#[]⟩, .int .i64 7]) (by simp [results, Tryz.results50, go_sem, evV, *]) rfl (EvPost.bad (decEv_none HE.out) ⟨rfl, ?_⟩)
              exact below7 HB.out hb2 _ _ _ _ _ _ _
          | some n =>
            have hnb := numR_ok (t.extract a k) n (by rw [hx]; exact hn) hxs wr
            have HN := Lib.hid hnb
            have HP := Lib.hid (fun (w1 : World) (v' : Value) => HS.out.push (w1 := w1) (v' := v') h7' hlt hc' hn)
            clear hx hxs hn hnb h7'
            have HC := Lib.hid hc'
            clear hc'
            rcases hc with ⟨x, y⟩ | ⟨x, y⟩
            · have y' : ((t[k].toNat : Int) == 32) = true := by simpa using y
              clear y
              go_wp2_with (go_at_call 72; refine HN.out.mono ?_; rintro e w1 ⟨rfl, hb1⟩; refine Hid.out ?_)
              have hb2 := HS.out.below.trans (hb1.mono HS.out.below.size)
              have hown1 := HO.out.kept (w' := w1) (row := none) ⟨hb1.os, hb1.tape, hb1.output, hb1.size, fun i hi _ => hb1.block i hi⟩ (by rcases HO.out.2 with ⟨hv, _⟩ | ⟨g, cap, cur, hv, _⟩ <;> rw [hv] <;> simp [Value.ownBlock])
              have hbs : W0.heap.size ≤ w1.heap.size := hb2.size
              have HW1 := Lib.hid hb2
              clear hb2
              refine Lib.hid ?_
              go_wp2_with (at_builtin; refine wpList_append_own _ rfl (.tmp 52) (.tmp 54) 90 rfl W0.heap.size 3 i0 (.int .i64 0) 1 8 Tryz.underlying90 hi0 hz0 hz1 hz2 rfl (by decide) _ L (ints l) rfl (hown1.alloc _) ⟨w1.heap.size, 0, none⟩ 1 1 [.int .i64 n] rfl rfl (cell_one_new _ _ _) (by simp [Value.oneCell']) (by unfold maxLen; omega) (by omega) (by simp; omega) ?_; intro v' w2 hown2 hg2 _; refine Hid.out ?_)
              have hb3 := (HW1.out.alloc HW1.out.size (.cells #[.int .i64 n] 3)).grown hg2 (by simp; omega) (fun q hq => (hown1.lt q hq).1)
              have hst2 := HP.out w2 v' (by rw [HL.out]; exact hown2) hb3
              refine Lib.hid ?_
              clear hown2 hg2 hown1 hb1
              go_wp2
              go_roundw
              case rel => exact ⟨_, k + 1, k + 1, by go_num, by go_num, hst2⟩
              case measure => simp [intOf]; omega
            · have y' : ((t[k].toNat : Int) == 58) = true := by simpa using y
              clear y
              subst x
              go_wp2_with (go_at_call 72; refine HN.out.mono ?_; rintro e w1 ⟨rfl, hb1⟩; refine Hid.out ?_)
              have hb2 := HS.out.below.trans (hb1.mono HS.out.below.size)
              have hown1 := HO.out.kept (w' := w1) (row := none) ⟨hb1.os, hb1.tape, hb1.output, hb1.size, fun i hi _ => hb1.block i hi⟩ (by rcases HO.out.2 with ⟨hv, _⟩ | ⟨g, cap, cur, hv, _⟩ <;> rw [hv] <;> simp [Value.ownBlock])
              have hbs : W0.heap.size ≤ w1.heap.size := hb2.size
              have HW1 := Lib.hid hb2
              clear hb2
              refine Lib.hid ?_
              go_wp2_with (at_builtin; refine wpList_append_own _ rfl (.tmp 52) (.tmp 54) 90 rfl W0.heap.size 3 i0 (.int .i64 0) 1 8 Tryz.underlying90 hi0 hz0 hz1 hz2 rfl (by decide) _ 6 (ints l) rfl (hown1.alloc _) ⟨w1.heap.size, 0, none⟩ 1 1 [.int .i64 n] rfl rfl (cell_one_new _ _ _) (by simp [Value.oneCell']) (by unfold maxLen; omega) (by omega) (by simp; omega) ?_; intro v' w2 hown2 hg2 _; refine Hid.out ?_)
              have hb3 := (HW1.out.alloc HW1.out.size (.cells #[.int .i64 n] 3)).grown hg2 (by simp; omega) (fun q hq => (hown1.lt q hq).1)
              have hst2 := HP.out w2 v' (by rw [HL.out]; exact hown2) hb3
              refine Lib.hid ?_
              clear hown2 hg2 hown1 hb1
              go_wp2
              go_roundw
              case rel => exact ⟨_, k + 1, k + 1, by go_num, by go_num, hst2⟩
              case measure => simp [intOf]; omega
        · have hc' : ¬ ((l.length < 6 ∧ t.data.toList.getD k 0 = 32) ∨ (l.length = 6 ∧ t.data.toList.getD k 0 = 58)) := by
            rw [HL.out, HG.out]
            rintro (⟨x, y⟩ | ⟨x, y⟩)
            · exact hc (.inl ⟨x, by rw [y]; rfl⟩)
            · exact hc (.inr ⟨x, by rw [y]; rfl⟩)
          have HP := Lib.hid (show ScanSt t W0 wr l a (k + 1) (.slice va L vcap) by rw [← HL.out]; exact HS.out.keep h7' hlt hc')
          clear hc' h7'
          by_cases h6 : L < 6
          · have y' : ((t[k].toNat : Int) == 32) = false := by
              rw [beq_eq_false_iff_ne]; intro y; exact hc (.inl ⟨h6, y⟩)
            clear hc
            go_wp2
            go_roundw
            case rel => exact ⟨l, a, k + 1, by go_num, by go_num, HP.out⟩
            case measure => simp [intOf]; omega
          · have h6' : L = 6 := by omega
            subst h6'
            have y' : ((t[k].toNat : Int) == 58) = false := by
              rw [beq_eq_false_iff_ne]; intro y; exact hc (.inr ⟨rfl, y⟩)
            clear hc h6
            go_wp2
            go_roundw
            case rel => exact ⟨l, a, k + 1, by go_num, by go_num, HP.out⟩
            case measure => simp [intOf]; omega
      · have h7' : L = 7 := by have := HS.out.h7; rw [HL.out] at this; omega
        subst h7'
        have hak : a = k := HS.out.hat HL.out
        have HEnd := Lib.hid (HS.out.end_ (.inr HL.out))
        obtain ⟨z0, z1, z2, z3, z4, z5, z6, hl⟩ := list7 HL.out
        have hz := HS.out.hr
        rw [hl] at HEnd HO hz
        have HDec := Lib.hid (decEv_seven HEnd.out)
        have hDl : (t.data.toList.drop k).length + k = t.size := by rw [List.length_drop, ← Lib.size_eq]; omega
        obtain ⟨D, hD⟩ : ∃ D, (t.data.toList.drop k).length = D := ⟨_, rfl⟩
        rw [hD] at HDec hDl
        have hr5 : inR z5 := hz z5 (by simp)
        have hr6 : inR z6 := hz z6 (by simp)
        unfold inR at hr5 hr6
        obtain ⟨hr5a, hr5b⟩ := hr5
        obtain ⟨hr6a, hr6b⟩ := hr6
        subst hak
        obtain ⟨g, rfl⟩ : ∃ g, va = some ⟨g, 0, none⟩ := by
          rcases HO.out.2 with ⟨_, h0⟩ | ⟨g, cap, cur, hv, _⟩
          · cases h0
          · injection hv with h1 _ _; exact ⟨g, h1⟩
        have k0 : wr.cell? ⟨g, 0, none⟩ = some (.int .i64 z0) := HO.out.cellAt 0 (by omega)
        have k1 : wr.cell? ⟨g, 1, none⟩ = some (.int .i64 z1) := HO.out.cellAt 1 (by omega)
        have k2 : wr.cell? ⟨g, 2, none⟩ = some (.int .i64 z2) := HO.out.cellAt 2 (by omega)
        have k3 : wr.cell? ⟨g, 3, none⟩ = some (.int .i64 z3) := HO.out.cellAt 3 (by omega)
        have k4 : wr.cell? ⟨g, 4, none⟩ = some (.int .i64 z4) := HO.out.cellAt 4 (by omega)
        have k5 : wr.cell? ⟨g, 5, none⟩ = some (.int .i64 z5) := HO.out.cellAt 5 (by omega)
        have k6 : wr.cell? ⟨g, 6, none⟩ = some (.int .i64 z6) := HO.out.cellAt 6 (by omega)
        obtain ⟨q0, q1, q2, q3, q4, q5, q6, qf⟩ := Seven.of ((HS.out.below.block w.heap.size (by rw [HZ.out]; omega)).trans HK.out)
        have w1 : IntKind.i64.wrap ((t.size : Int) - (a : Int)) = (t.size : Int) - (a : Int) := IntWalk.i64_in _ (by omega)
        have w2 : 0 ≤ z5 → z5 ≤ (D : Int) → IntKind.i64.wrap ((t.size : Int) - (a : Int) - z5) = (t.size : Int) - (a : Int) - z5 := fun x y => IntWalk.i64_in _ (by omega)
        clear hz hl hD
        by_cases c1 : z5 < 0
        · have d1 : decide (z5 < 0) = true := by simpa using c1
          clear w2
          have HN := Lib.hid (show decEv t.data.toList = none by rw [HDec.out, if_neg (by omega)])
          go_wp2
          go_quiet (fail)
          go_wp2
          refine bodyPost_ret (v := .tuple #[evV 0 0 0 0 0 ⟨#[]⟩ ⟨#[]⟩, .int .i64 7]) (by simp [results, Tryz.results50, go_sem, evV, *]) rfl (EvPost.bad HN.out ⟨rfl, ?_⟩)
          exact below7 HB.out (below_drewN HS.out.below _) _ _ _ _ _ _ _
        · have d1 : decide (z5 < 0) = false := by simpa using c1
          by_cases c2 : z6 < 0
          · have d2 : decide (z6 < 0) = true := by simpa using c2
            clear w2
            have HN := Lib.hid (show decEv t.data.toList = none by rw [HDec.out, if_neg (by omega)])
            go_wp2
            go_quiet (fail)
            go_wp2
            refine bodyPost_ret (v := .tuple #[evV 0 0 0 0 0 ⟨#[]⟩ ⟨#[]⟩, .int .i64 7]) (by simp [results, Tryz.results50, go_sem, evV, *]) rfl (EvPost.bad HN.out ⟨rfl, ?_⟩)
            exact below7 HB.out (below_drewN HS.out.below _) _ _ _ _ _ _ _
          · have d2 : decide (z6 < 0) = false := by simpa using c2
            by_cases c3 : (D : Int) < z5
            · have d3 : decide ((t.size : Int) - (a : Int) < z5) = true := by simp; omega
              clear w2
              have HN := Lib.hid (show decEv t.data.toList = none by rw [HDec.out, if_neg (by omega)])
              go_wp2
              go_quiet (fail)
              go_wp2
              refine bodyPost_ret (v := .tuple #[evV 0 0 0 0 0 ⟨#[]⟩ ⟨#[]⟩, .int .i64 7]) (by simp [results, Tryz.results50, go_sem, evV, *]) rfl (EvPost.bad HN.out ⟨rfl, ?_⟩)
              exact below7 HB.out (below_drewN HS.out.below _) _ _ _ _ _ _ _
            · have d3 : decide ((t.size : Int) - (a : Int) < z5) = false := by simp; omega
              have w3 := w2 (by omega) (by omega)
              clear w2
              by_cases c4 : z6 = (D : Int) - z5
              · have d4 : (z6 != (t.size : Int) - (a : Int) - z5) = false := by simp; omega
                have HN := Lib.hid (show decEv t.data.toList = some ([z0, z1, z2, z3, z4, z5, z6], t.data.toList.drop a) by rw [HDec.out, if_pos (by omega)])
                have c4' := Lib.hid c4
                clear c4
                obtain ⟨m, rfl⟩ : ∃ m : Nat, z5 = (m : Int) := ⟨z5.toNat, by omega⟩
                have hm : a + m ≤ t.size := by omega
                have hm1 : (a : Int) + (m : Int) ≤ (t.size : Int) := by omega
                have hm2 : 0 ≤ (a : Int) + (m : Int) := by omega
                have hm3 : (a : Int) ≤ (a : Int) + (m : Int) := by omega
                have hm4 : ((a : Int) + (m : Int)).toNat = a + m := by omega
                go_wp2
                go_quiet (fail)
                go_wp2
                refine wp_region_still_tail 24 (by kernel_rfl) (by kernel_rfl) ?_
                simp only [List.take_succ_cons, List.take_zero, List.drop_succ_cons, List.drop_zero]
                change wpStill _ _ (World.drew _) (fun a' => wpList _ _ _ _ a' (World.drew _)) _ _
                repeat still_step
                refine wpStill_nil ?_
                go_wp2
                refine bodyPost_ret (v := .tuple #[evV z0 z1 z2 z3 z4 (t.extract a (a + m)) (t.extract (a + m) t.size), .int .i64 0]) (by simp [results, Tryz.results50, go_sem, evV, *]) rfl (EvPost.good HN.out ?_)
                exact below7 HB.out (below_drewN HS.out.below _) _ _ _ _ _ _ _
              · have d4 : (z6 != (t.size : Int) - (a : Int) - z5) = true := by simp; omega
                have HN := Lib.hid (show decEv t.data.toList = none by rw [HDec.out, if_neg (by omega)])
                go_wp2
                go_quiet (fail)
                go_wp2
                refine bodyPost_ret (v := .tuple #[evV 0 0 0 0 0 ⟨#[]⟩ ⟨#[]⟩, .int .i64 7]) (by simp [results, Tryz.results50, go_sem, evV, *]) rfl (EvPost.bad HN.out ⟨rfl, ?_⟩)
                exact below7 HB.out (below_drewN HS.out.below _) _ _ _ _ _ _ _
    · by_cases h7 : L < 7
      · have HE := Lib.hid (decEv_short (HS.out.end_ (.inl (by omega))) (by rw [HL.out]; omega))
        have hd : decide ((k : Int) < (t.size : Int)) = false := by simp; omega
        obtain ⟨q0, q1, q2, q3, q4, q5, q6, qf⟩ := Seven.of ((HS.out.below.block w.heap.size (by rw [HZ.out]; omega)).trans HK.out)
        have d7 : decide ((L : Int) < 7) = true := by simp; omega
        go_wp2
        go_quiet (fail)
        go_wp2
        refine bodyPost_ret (v := .tuple #[evV 0 0 0 0 0 ⟨#[]⟩ ⟨#[]⟩, .int .i64 7]) (by simp [results, Tryz.results50, go_sem, evV, *]) rfl (EvPost.bad HE.out ⟨rfl, ?_⟩)
        exact below7 HB.out (below_drewN HS.out.below _) _ _ _ _ _ _ _
      · have h7' : L = 7 := by have := HS.out.h7; rw [HL.out] at this; omega
        subst h7'
        have hd : decide ((k : Int) < (t.size : Int)) = false := by simp; omega
        have hak : a = k := HS.out.hat HL.out
        have HEnd := Lib.hid (HS.out.end_ (.inr HL.out))
        obtain ⟨z0, z1, z2, z3, z4, z5, z6, hl⟩ := list7 HL.out
        have hz := HS.out.hr
        rw [hl] at HEnd HO hz
        have HDec := Lib.hid (decEv_seven HEnd.out)
        have hDl : (t.data.toList.drop k).length + k = t.size := by rw [List.length_drop, ← Lib.size_eq]; omega
        obtain ⟨D, hD⟩ : ∃ D, (t.data.toList.drop k).length = D := ⟨_, rfl⟩
        rw [hD] at HDec hDl
        have hr5 : inR z5 := hz z5 (by simp)
        have hr6 : inR z6 := hz z6 (by simp)
        unfold inR at hr5 hr6
        obtain ⟨hr5a, hr5b⟩ := hr5
        obtain ⟨hr6a, hr6b⟩ := hr6
        subst hak
        obtain ⟨g, rfl⟩ : ∃ g, va = some ⟨g, 0, none⟩ := by
          rcases HO.out.2 with ⟨_, h0⟩ | ⟨g, cap, cur, hv, _⟩
          · cases h0
          · injection hv with h1 _ _; exact ⟨g, h1⟩
        have k0 : wr.cell? ⟨g, 0, none⟩ = some (.int .i64 z0) := HO.out.cellAt 0 (by omega)
        have k1 : wr.cell? ⟨g, 1, none⟩ = some (.int .i64 z1) := HO.out.cellAt 1 (by omega)
        have k2 : wr.cell? ⟨g, 2, none⟩ = some (.int .i64 z2) := HO.out.cellAt 2 (by omega)
        have k3 : wr.cell? ⟨g, 3, none⟩ = some (.int .i64 z3) := HO.out.cellAt 3 (by omega)
        have k4 : wr.cell? ⟨g, 4, none⟩ = some (.int .i64 z4) := HO.out.cellAt 4 (by omega)
        have k5 : wr.cell? ⟨g, 5, none⟩ = some (.int .i64 z5) := HO.out.cellAt 5 (by omega)
        have k6 : wr.cell? ⟨g, 6, none⟩ = some (.int .i64 z6) := HO.out.cellAt 6 (by omega)
        obtain ⟨q0, q1, q2, q3, q4, q5, q6, qf⟩ := Seven.of ((HS.out.below.block w.heap.size (by rw [HZ.out]; omega)).trans HK.out)
        have w1 : IntKind.i64.wrap ((t.size : Int) - (a : Int)) = (t.size : Int) - (a : Int) := IntWalk.i64_in _ (by omega)
        have w2 : 0 ≤ z5 → z5 ≤ (D : Int) → IntKind.i64.wrap ((t.size : Int) - (a : Int) - z5) = (t.size : Int) - (a : Int) - z5 := fun x y => IntWalk.i64_in _ (by omega)
        clear hz hl hD
        by_cases c1 : z5 < 0
        · have d1 : decide (z5 < 0) = true := by simpa using c1
          clear w2
          have HN := Lib.hid (show decEv t.data.toList = none by rw [HDec.out, if_neg (by omega)])
          go_wp2
          go_quiet (fail)
          go_wp2
          refine bodyPost_ret (v := .tuple #[evV 0 0 0 0 0 ⟨#[]⟩ ⟨#[]⟩, .int .i64 7]) (by simp [results, Tryz.results50, go_sem, evV, *]) rfl (EvPost.bad HN.out ⟨rfl, ?_⟩)
          exact below7 HB.out (below_drewN HS.out.below _) _ _ _ _ _ _ _
        · have d1 : decide (z5 < 0) = false := by simpa using c1
          by_cases c2 : z6 < 0
          · have d2 : decide (z6 < 0) = true := by simpa using c2
            clear w2
            have HN := Lib.hid (show decEv t.data.toList = none by rw [HDec.out, if_neg (by omega)])
            go_wp2
            go_quiet (fail)
            go_wp2
            refine bodyPost_ret (v := .tuple #[evV 0 0 0 0 0 ⟨#[]⟩ ⟨#[]⟩, .int .i64 7]) (by simp [results, Tryz.results50, go_sem, evV, *]) rfl (EvPost.bad HN.out ⟨rfl, ?_⟩)
            exact below7 HB.out (below_drewN HS.out.below _) _ _ _ _ _ _ _
          · have d2 : decide (z6 < 0) = false := by simpa using c2
            by_cases c3 : (D : Int) < z5
            · have d3 : decide ((t.size : Int) - (a : Int) < z5) = true := by simp; omega
              clear w2
              have HN := Lib.hid (show decEv t.data.toList = none by rw [HDec.out, if_neg (by omega)])
              go_wp2
              go_quiet (fail)
              go_wp2
              refine bodyPost_ret (v := .tuple #[evV 0 0 0 0 0 ⟨#[]⟩ ⟨#[]⟩, .int .i64 7]) (by simp [results, Tryz.results50, go_sem, evV, *]) rfl (EvPost.bad HN.out ⟨rfl, ?_⟩)
              exact below7 HB.out (below_drewN HS.out.below _) _ _ _ _ _ _ _
            · have d3 : decide ((t.size : Int) - (a : Int) < z5) = false := by simp; omega
              have w3 := w2 (by omega) (by omega)
              clear w2
              by_cases c4 : z6 = (D : Int) - z5
              · have d4 : (z6 != (t.size : Int) - (a : Int) - z5) = false := by simp; omega
                have HN := Lib.hid (show decEv t.data.toList = some ([z0, z1, z2, z3, z4, z5, z6], t.data.toList.drop a) by rw [HDec.out, if_pos (by omega)])
                have c4' := Lib.hid c4
                clear c4
                obtain ⟨m, rfl⟩ : ∃ m : Nat, z5 = (m : Int) := ⟨z5.toNat, by omega⟩
                have hm : a + m ≤ t.size := by omega
                have hm1 : (a : Int) + (m : Int) ≤ (t.size : Int) := by omega
                have hm2 : 0 ≤ (a : Int) + (m : Int) := by omega
                have hm3 : (a : Int) ≤ (a : Int) + (m : Int) := by omega
                have hm4 : ((a : Int) + (m : Int)).toNat = a + m := by omega
                go_wp2
                go_quiet (fail)
                go_wp2
                refine wp_region_still_tail 24 (by kernel_rfl) (by kernel_rfl) ?_
                simp only [List.take_succ_cons, List.take_zero, List.drop_succ_cons, List.drop_zero]
                change wpStill _ _ (World.drew _) (fun a' => wpList _ _ _ _ a' (World.drew _)) _ _
                repeat still_step
                refine wpStill_nil ?_
                go_wp2
                refine bodyPost_ret (v := .tuple #[evV z0 z1 z2 z3 z4 (t.extract a (a + m)) (t.extract (a + m) t.size), .int .i64 0]) (by simp [results, Tryz.results50, go_sem, evV, *]) rfl (EvPost.good HN.out ?_)
                exact below7 HB.out (below_drewN HS.out.below _) _ _ _ _ _ _ _
              · have d4 : (z6 != (t.size : Int) - (a : Int) - z5) = true := by simp; omega
                have HN := Lib.hid (show decEv t.data.toList = none by rw [HDec.out, if_neg (by omega)])
                go_wp2
                go_quiet (fail)
                go_wp2
                refine bodyPost_ret (v := .tuple #[evV 0 0 0 0 0 ⟨#[]⟩ ⟨#[]⟩, .int .i64 7]) (by simp [results, Tryz.results50, go_sem, evV, *]) rfl (EvPost.bad HN.out ⟨rfl, ?_⟩)
                exact below7 HB.out (below_drewN HS.out.below _) _ _ _ _ _ _ _
end Go.Proofs.YthooajbhiikbfaaGreatDoor
