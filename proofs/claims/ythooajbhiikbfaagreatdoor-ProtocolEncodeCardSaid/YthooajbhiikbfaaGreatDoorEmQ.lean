/- A part of the proofs of the statements of emendatelaw55 (layer protocol): parse of the reference: the ways that fail. Conditions: those that stand in each theorem, no other. -/
import Derived.Test.YthooajbhiikbfaaGreatDoorEmP
namespace Go.Proofs.YthooajbhiikbfaaGreatDoor
open Go Go.RowKit Em

def zero3V : Value := .agg #[.int .i64 0, .string ⟨#[]⟩, .slice none 0 0]

/-- a message stands there, made by the call -/
def MsgIs (B : Nat) (m : Msg) (v : Value) (w' : World) : Prop :=
  ∃ A c, v = .agg #[.int .i64 m.id, .string (S m.meth), .slice A (m.args.map S).length c] ∧ (∀ a, A = some a → B ≤ a.block) ∧ RdS w' w'.heap.size A (m.args.map S)

def ParsePost (l : Bytes) (w : World) (e : Ending) (w' : World) : Prop :=
  match parse l with
  | none => e = .returned (.tuple #[zero3V, .bool false]) ∧ Below w.heap.size w w'
  | some m => ∃ v, e = .returned (.tuple #[v, .bool true]) ∧ MsgIs w.heap.size m v w' ∧ Below w.heap.size w w'
theorem ParsePost.bad {l : Bytes} {w w' : World} (h : parse l = none) (hb : Below w.heap.size w w') : ParsePost l w (.returned (.tuple #[zero3V, .bool false])) w' := by
  unfold ParsePost; rw [h]; exact ⟨rfl, hb⟩
theorem ParsePost.good {l : Bytes} {m : Msg} {v : Value} {w w' : World} (h : parse l = some m) (hm : MsgIs w.heap.size m v w') (hb : Below w.heap.size w w') : ParsePost l w (.returned (.tuple #[v, .bool true])) w' := by
  unfold ParsePost; rw [h]; exact ⟨v, rfl, hm, hb⟩

theorem find_is (s : ByteArray) (a : Nat) (c : UInt8) (z : Int) (hz : findZ c a s.data.toList = z) (ha : a ≤ s.size) (hs : s.size ≤ 140737488355328) (w : World) :
    Calls Tryz.prog 40 #[.string s, .int .i64 a, .int .u8 (c.toNat : Int)] w fun e w' => e = .returned (.int .i64 z) ∧ w = w' := by
  rw [← hz]; exact find_any s a c ha hs w

structure Three (X : World) (b : Nat) (c0 c1 c2 : Value) : Prop where
  c0 : X.cell? ⟨b, 0, none⟩ = some c0
  c1 : X.cell? ⟨b, 1, none⟩ = some c1
  c2 : X.cell? ⟨b, 2, none⟩ = some c2
  f : ∀ i, X.frozen? ⟨b, i, none⟩ = false
theorem Three.of {X : World} {b : Nat} {t : TypeId} {c0 c1 c2 : Value} (h : X.heap[b]? = some (.cells #[c0, c1, c2] t (0, 0))) : Three X b c0 c1 c2 :=
  ⟨cell_of_row X b 0 _ t (0, 0) h, cell_of_row X b 1 _ t (0, 0) h, cell_of_row X b 2 _ t (0, 0) h, fun i => by simp [World.frozen?, h]⟩
theorem below3 {w W0 X : World} (h : Below w.heap.size w W0) (hb : Below W0.heap.size W0 X) (c0 c1 c2 : Value) :
    Below w.heap.size w (((X.setCell ⟨w.heap.size, 0, none⟩ c0).setCell ⟨w.heap.size, 1, none⟩ c1).setCell ⟨w.heap.size, 2, none⟩ c2) :=
  (((h.trans (hb.mono h.size)).setCell (Nat.le_refl _) _).setCell (Nat.le_refl _) _).setCell (Nat.le_refl _) _

/-- the arguments, step by step -/
theorem pargs_step (k : Nat) (b : Bytes) (h : b ≠ []) : pargs (k + 1) b = match cutB 58 b with
    | none => none
    | some (w, rest) => match num? w with
      | none => none
      | some n => if n < 0 ∨ (rest.length : Int) ≤ n ∨ rest[n.toNat]? ≠ some 10 then none else (pargs k (rest.drop (n.toNat + 1))).map (rest.take n.toNat :: ·) := by
  cases b with
  | nil => exact absurd rfl h
  | cons x t =>
    rw [pargs]
    cases cutB 58 (x :: t) with
    | none => rfl
    | some p => obtain ⟨w, rest⟩ := p; cases num? w <;> rfl
theorem pargs_zero (b : Bytes) (h : b ≠ []) : pargs 0 b = none := by
  cases b with
  | nil => exact absurd rfl h
  | cons x t => rfl
theorem pargs_nil (k : Nat) : pargs k [] = some [] := by cases k <;> rfl

/-- where the number and its separator stand, in the whole -/
theorem cut_find {c : UInt8} {l : Bytes} {a : Nat} {x r : Bytes} (h : cutB c (l.drop a) = some (x, r)) (ha : a ≤ l.length) :
    findZ c a l = ((a + x.length : Nat) : Int) ∧ (l.take (a + x.length)).drop a = x ∧ r = l.drop (a + x.length + 1) ∧ a + x.length < l.length := by
  obtain ⟨e, _⟩ := cutB_some h
  have hl : (l.drop a).length = x.length + 1 + r.length := by rw [e]; simp; omega
  rw [List.length_drop] at hl
  refine ⟨by unfold findZ; rw [h], ?_, ?_, by omega⟩
  · rw [List.drop_take, Nat.add_sub_cancel_left, e, List.take_left]
  · have : l.drop (a + x.length + 1) = (l.drop a).drop (x.length + 1) := by rw [List.drop_drop, Nat.add_assoc]
    rw [this, e, ← List.drop_drop, List.drop_left]; rfl
theorem cut_find_none {c : UInt8} {l : Bytes} {a : Nat} (h : cutB c (l.drop a) = none) : findZ c a l = -1 := by unfold findZ; rw [h]

theorem parse_none1 {l : Bytes} (h : cutB 32 l = none) : parse l = none := by unfold parse; rw [h]
theorem parse_none2 {l x r : Bytes} (h : cutB 32 l = some (x, r)) (hn : num? x = none) : parse l = none := by unfold parse; rw [h]; simp only [hn]
theorem parse_none3 {l x r : Bytes} (h : cutB 32 l = some (x, r)) (hc : cutB 10 r = none) : parse l = none := by
  unfold parse; rw [h]; cases hn : num? x <;> simp [hn, hc]
theorem parse_none4 {l x r y q : Bytes} (h : cutB 32 l = some (x, r)) (hc : cutB 10 r = some (y, q)) (hm : validM y = false) : parse l = none := by
  unfold parse; rw [h]; cases hn : num? x <;> simp [hn, hc, hm]
theorem parse_args {l x r y q : Bytes} {id : Int} (h : cutB 32 l = some (x, r)) (hn : num? x = some id) (hc : cutB 10 r = some (y, q)) (hm : validM y = true) :
    parse l = (pargs 10 q).map fun a => ⟨id, y, a⟩ := by
  unfold parse; rw [h]; simp only [hn, hc, hm, if_true]

theorem str_info : (Tryz.prog.info? 9).map (fun i => (i.zero, i.size, i.bytes)) = some (some (.string ⟨#[]⟩), 1, 16) := by kernel_rfl

set_option maxRecDepth 100000 in
set_option maxHeartbeats 400000 in
theorem parseR_none1 (s : ByteArray) (hs : s.size ≤ 90000000) (h : cutB 32 s.data.toList = none) (w : World) :
    Calls Tryz.prog 27 #[.string s] w (ParsePost s.data.toList w) := by
  have hf := Lib.hid (fun W => find_is s 0 32 (-1) (cut_find_none (by rw [List.drop_zero]; exact h)) (Nat.zero_le _) (by omega) W)
  have HP := Lib.hid (parse_none1 h)
  have HB := Lib.hid ((Below.refl _ w).alloc (Nat.le_refl _) (.cells #[.int .i64 0, .string ⟨#[]⟩, .slice none 0 0] 24))
  clear h
  go_enter Tryz.func27, Tryz.ntmps27
  go_wp2_with (go_at_call 40; refine (hf.out _).mono ?_; rintro e w1 ⟨rfl, rfl⟩)
  refine bodyPost_ret (v := .tuple #[zero3V, .bool false]) (by simp [results, Tryz.results27, go_sem, zero3V, *]) rfl (ParsePost.bad HP.out ?_)
  exact HB.out

/-- the head of a body: where its blank stands -/
structure HeadAt (s : ByteArray) (x r : Bytes) (b : Nat) : Prop where
  f : findZ 32 0 s.data.toList = (b : Int)
  lt : b < s.size
  x_ : (s.extract 0 b).data.toList = x
  r_ : r = s.data.toList.drop (b + 1)
  n_ : findZ 10 b s.data.toList = findZ 10 (b + 1) s.data.toList
theorem HeadAt.of {s : ByteArray} {x r : Bytes} (h : cutB 32 s.data.toList = some (x, r)) : HeadAt s x r x.length := by
  have h0 : cutB 32 (s.data.toList.drop 0) = some (x, r) := by rw [List.drop_zero]; exact h
  obtain ⟨a1, a2, a3, a4⟩ := cut_find h0 (Nat.zero_le _)
  rw [Nat.zero_add] at a1 a2 a3 a4
  refine ⟨a1, by rw [Lib.size_eq]; exact a4, by rw [ext_list]; exact a2, a3, ?_⟩
  symm
  refine findZ_step a4 ?_
  obtain ⟨e, _⟩ := cutB_some h
  rw [e, List.getD_eq_getElem?_getD, List.getElem?_append_right (Nat.le_refl _)]
  simp

/-- all ways that fail ahead of the arguments -/
theorem parseR_none234 (s : ByteArray) (hs : s.size ≤ 90000000) (x r : Bytes) (h : cutB 32 s.data.toList = some (x, r))
    (hbad : num? x = none ∨ cutB 10 r = none ∨ ∃ y q, cutB 10 r = some (y, q) ∧ validM y = false) (w : World) :
    Calls Tryz.prog 27 #[.string s] w (ParsePost s.data.toList w) := by
  have E := HeadAt.of h
  obtain ⟨b, hb⟩ : ∃ b, x.length = b := ⟨_, rfl⟩
  rw [hb] at E
  have hbs := E.lt
  have hxs : (s.extract 0 b).size ≤ 90000000 := by
    rw [Lib.size_eq, E.x_, hb]; omega
  have hI := fun W => integerR_any (s.extract 0 b) hxs W
  rw [E.x_] at hI
  have hf := Lib.hid (fun W => find_is s 0 32 b E.f (Nat.zero_le _) (by omega) W)
  obtain ⟨W0, hW0⟩ : ∃ W0 : World, w.alloc (.cells #[.int .i64 0, .string ⟨#[]⟩, .slice none 0 0] 24) = W0 := ⟨_, rfl⟩
  have HB := Lib.hid (show Below w.heap.size w W0 by rw [← hW0]; exact (Below.refl _ _).alloc (Nat.le_refl _) _)
  have HZ := Lib.hid (show W0.heap.size = w.heap.size + 1 by rw [← hW0]; simp)
  have HK := Lib.hid (show W0.heap[w.heap.size]? = some (.cells #[.int .i64 0, .string ⟨#[]⟩, .slice none 0 0] 24) by rw [← hW0]; exact heap_alloc_new w _)
  have HW := Lib.hid hW0
  clear hW0
  have hpn : parse s.data.toList = none := by
    rcases hbad with h1 | h1 | ⟨y, q, h1, h2⟩
    · exact parse_none2 h h1
    · exact parse_none3 h h1
    · exact parse_none4 h h1 h2
  have HP := Lib.hid hpn
  cases hn : num? x with
  | none =>
    simp only [hn, Option.getD_none, Option.isSome_none] at hI
    have HI := Lib.hid hI
    obtain ⟨z, hz⟩ : ∃ z, findZ 10 b s.data.toList = z := ⟨_, rfl⟩
    have hf2 := Lib.hid (fun W => find_is s b 10 z hz (by omega) (by omega) W)
    clear hI hpn hbad h hn E hz hb
    go_enter Tryz.func27, Tryz.ntmps27
    go_wp2_with (first | (go_at_call 41; rw [HW.out]; refine (HI.out _).mono ?_; rintro e w1 ⟨rfl, hb1⟩; refine Hid.out ?_) | (go_at_call 40; refine (hf.out _).mono ?_; rintro e w1 ⟨rfl, rfl⟩))
    obtain ⟨q0, q1, q2, qf⟩ := Three.of ((hb1.block w.heap.size (by rw [HZ.out]; omega)).trans HK.out)
    refine Lib.hid ?_
    go_wp2_with (go_at_call 40; refine (hf2.out _).mono ?_; rintro e w2 ⟨rfl, rfl⟩)
    refine bodyPost_ret (v := .tuple #[zero3V, .bool false]) (by simp [results, Tryz.results27, go_sem, zero3V, *]) rfl (ParsePost.bad HP.out ?_)
    exact below3 HB.out hb1 _ _ _
  | some id =>
    simp only [hn, Option.getD_some, Option.isSome_some] at hI
    have HI := Lib.hid hI
    cases hc : cutB 10 r with
    | none =>
      have hz : findZ 10 b s.data.toList = -1 := by rw [E.n_]; exact cut_find_none (by rw [← E.r_]; exact hc)
      have hf2 := Lib.hid (fun W => find_is s b 10 (-1) hz (by omega) (by omega) W)
      clear hI hpn hbad h hn E hz hb hc
      go_enter Tryz.func27, Tryz.ntmps27
      go_wp2_with (first | (go_at_call 41; rw [HW.out]; refine (HI.out _).mono ?_; rintro e w1 ⟨rfl, hb1⟩; refine Hid.out ?_) | (go_at_call 40; refine (hf.out _).mono ?_; rintro e w1 ⟨rfl, rfl⟩))
      obtain ⟨q0, q1, q2, qf⟩ := Three.of ((hb1.block w.heap.size (by rw [HZ.out]; omega)).trans HK.out)
      refine Lib.hid ?_
      go_wp2_with (go_at_call 40; refine (hf2.out _).mono ?_; rintro e w2 ⟨rfl, rfl⟩)
      refine bodyPost_ret (v := .tuple #[zero3V, .bool false]) (by simp [results, Tryz.results27, go_sem, zero3V, *]) rfl (ParsePost.bad HP.out ?_)
      exact below3 HB.out hb1 _ _ _
    | some p =>
      obtain ⟨y, q⟩ := p
      have hv : validM y = false := by
        rcases hbad with h1 | h1 | ⟨y', q', h1, h2⟩
        · rw [hn] at h1; cases h1
        · rw [hc] at h1; cases h1
        · rw [hc] at h1; injection h1 with h1; injection h1 with h3 h4; rw [h3]; exact h2
      rw [E.r_] at hc
      obtain ⟨a1, a2, a3, a4⟩ := cut_find hc (by rw [← Lib.size_eq]; exact hbs)
      obtain ⟨e, he⟩ : ∃ e, b + 1 + y.length = e := ⟨_, rfl⟩
      rw [he] at a1 a2 a3 a4
      have hes : e < s.size := by rw [Lib.size_eq]; exact a4
      have hz : findZ 10 b s.data.toList = (e : Int) := by rw [E.n_]; exact a1
      have hf2 := Lib.hid (fun W => find_is s b 10 e hz (by omega) (by omega) W)
      have hm := fun W => method_any (s.extract (b + 1) e) W (by rw [Lib.size_eq, ext_list, a2]; omega)
      rw [ext_list, a2, hv] at hm
      have HM := Lib.hid hm
      have hbe : b + 1 ≤ e := by omega
      clear hI hpn hbad h hn E hz hb hc hm a1 a2 a3 a4 he hv
      go_enter Tryz.func27, Tryz.ntmps27
      go_wp2_with (first | (go_at_call 41; rw [HW.out]; refine (HI.out _).mono ?_; rintro e w1 ⟨rfl, hb1⟩; refine Hid.out ?_) | (go_at_call 40; refine (hf.out _).mono ?_; rintro e w1 ⟨rfl, rfl⟩))
      obtain ⟨q0, q1, q2, qf⟩ := Three.of ((hb1.block w.heap.size (by rw [HZ.out]; omega)).trans HK.out)
      refine Lib.hid ?_
      go_wp2_with (first | (go_at_call 40; refine (hf2.out _).mono ?_; rintro e w2 ⟨rfl, rfl⟩) | (go_at_call 21; refine (HM.out _).mono ?_; rintro e w2 ⟨rfl, rfl⟩))
      refine bodyPost_ret (v := .tuple #[zero3V, .bool false]) (by simp [results, Tryz.results27, go_sem, zero3V, *]) rfl (ParsePost.bad HP.out ?_)
      exact below3 HB.out hb1 _ _ _
end Go.Proofs.YthooajbhiikbfaaGreatDoor
