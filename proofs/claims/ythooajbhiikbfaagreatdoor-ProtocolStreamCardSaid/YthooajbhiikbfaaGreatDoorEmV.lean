/- A part of the proofs of the statements of emendatelaw55 (layer protocol): message. Conditions: those that stand in each theorem, no other. -/
import Derived.Test.YthooajbhiikbfaaGreatDoorEmU
namespace Go.Proofs.YthooajbhiikbfaaGreatDoor
open Go Go.RowKit Em

def strLen : Value → Nat | .string b => b.size | _ => 0

structure ArgSs (q : Bytes) (b : ByteArray) (W1 wr : World) (l : List Bytes) (v : Value) : Prop where
  sz : b.size ≤ 90000000
  h10 : l.length ≤ 10
  eq : (pargs (10 - l.length) b.data.toList).map (l ++ ·) = pargs 10 q
  own : wr.ownsRow W1.heap.size 9 1 v l.length (strV l)
  below : Below W1.heap.size W1 wr

theorem ArgSs.done {q : Bytes} {b : ByteArray} {W1 wr : World} {l : List Bytes} {v : Value} (h : ArgSs q b W1 wr l v) (he : b.data.toList = []) : pargs 10 q = some l := by
  rw [← h.eq, he, pargs_nil]; simp
theorem ArgSs.full {q : Bytes} {b : ByteArray} {W1 wr : World} {l : List Bytes} {v : Value} (h : ArgSs q b W1 wr l v) (hne : b.data.toList ≠ []) (h10 : l.length = 10) : pargs 10 q = none := by
  rw [← h.eq, h10, Nat.sub_self, pargs_zero _ hne]; rfl
theorem ArgSs.fail {q : Bytes} {b : ByteArray} {W1 wr : World} {l : List Bytes} {v : Value} (h : ArgSs q b W1 wr l v) (hne : b.data.toList ≠ [])
    (hn : numAt 58 b.data.toList = none) : pargs 10 q = none := by
  rcases Nat.lt_or_ge l.length 10 with h10 | h10
  · have e : 10 - l.length = (9 - l.length) + 1 := by omega
    rw [← h.eq, e, pargs_step _ _ hne]
    unfold numAt at hn
    cases hc : cutB 58 b.data.toList with
    | none => rfl
    | some p =>
      rw [hc] at hn
      simp only [Option.map_eq_none_iff] at hn
      simp only [hn]; rfl
  · exact h.full hne (by have := h.h10; omega)
theorem ArgSs.fail2 {q : Bytes} {b : ByteArray} {W1 wr : World} {l : List Bytes} {v : Value} (h : ArgSs q b W1 wr l v) (hne : b.data.toList ≠ [])
    {x r : Bytes} {n : Int} (hc : cutB 58 b.data.toList = some (x, r)) (hn : num? x = some n) (hb : n < 0 ∨ (r.length : Int) ≤ n ∨ r[n.toNat]? ≠ some 10) : pargs 10 q = none := by
  rcases Nat.lt_or_ge l.length 10 with h10 | h10
  · have e : 10 - l.length = (9 - l.length) + 1 := by omega
    rw [← h.eq, e, pargs_step _ _ hne, hc]
    simp only [hn, if_pos hb]; rfl
  · exact h.full hne (by have := h.h10; omega)
theorem ArgSs.push {q : Bytes} {b b' : ByteArray} {W1 wr w2 : World} {l : List Bytes} {v v' : Value} (h : ArgSs q b W1 wr l v) (hne : b.data.toList ≠ []) (h10 : l.length < 10)
    {x r : Bytes} {n : Nat} (hc : cutB 58 b.data.toList = some (x, r)) (hn : num? x = some (n : Int)) (hlt : n < r.length) (hb : r[n]? = some 10)
    (hb' : b'.data.toList = r.drop (n + 1)) (hown : w2.ownsRow W1.heap.size 9 1 v' (l.length + 1) (strV l ++ [.string (S (r.take n))])) (hbl : Below W1.heap.size W1 w2) :
    ArgSs q b' W1 w2 (l ++ [r.take n]) v' where
  sz := by
    obtain ⟨e, _⟩ := cutB_some hc
    have h1 := congrArg List.length e
    rw [List.length_append, List.length_cons, ← Lib.size_eq] at h1
    have := h.sz
    rw [Lib.size_eq, hb', List.length_drop]; omega
  h10 := by simp; omega
  eq := by
    have e : 10 - l.length = (9 - l.length) + 1 := by omega
    have hcond : ¬ ((n : Int) < 0 ∨ (r.length : Int) ≤ (n : Int) ∨ r[(n : Int).toNat]? ≠ some 10) := by
      rw [Int.toNat_natCast, hb]; simp; omega
    rw [← h.eq, e, pargs_step _ _ hne, hc]
    simp only [hn]
    rw [if_neg hcond]
    simp only [Int.toNat_natCast]
    have e2 : 10 - (l ++ [r.take n]).length = 9 - l.length := by rw [List.length_append, List.length_singleton]; omega
    rw [e2, hb']
    cases pargs (9 - l.length) (r.drop (n + 1)) with
    | none => rfl
    | some z => simp
  own := by rw [List.length_append]; simpa [strV] using hown
  below := hbl

theorem number_n (s : ByteArray) (c : UInt8) (a b : Bytes) (n : Int) (hc : cutB c s.data.toList = some (a, b)) (hn : num? a = some n) {R : ByteArray} (hR : S b = R) (hs : s.size ≤ 100000000) (w : World) (hE : Env w) :
    Calls Tryz.prog 37 #[.string s, .string ⟨#[c]⟩] w fun e w' => e = .returned (.tuple #[.int .i64 n, .string R, .bool true]) ∧ Below w.heap.size w w' := by
  rw [← hR]; exact number_ok s c a b n hc hn hs w hE
theorem cut_n (s : ByteArray) (c : UInt8) (hs : s.size ≤ 100000000) {x y : ByteArray} {o : Bool} (h : (match cutB c s.data.toList with | some (a, b) => (S a, S b, true) | none => (s, S [], false)) = (x, y, o)) (w : World) (hE : Env w) :
    Calls Tryz.prog 38 #[.string s, .string ⟨#[c]⟩] w fun e w' => e = .returned (.tuple #[.string x, .string y, .bool o]) ∧ Below w.heap.size w w' := by
  have hcut := cut_c s ⟨#[c]⟩ w hE (by omega)
  have e1 : (⟨#[c]⟩ : ByteArray).data.toList = [c] := rfl
  rw [e1, cut_byte] at hcut
  refine hcut.mono ?_
  rintro e w' ⟨rfl, hb⟩
  refine ⟨?_, hb⟩
  cases hc : cutB c s.data.toList with
  | none => rw [hc] at h; simp only [Prod.mk.injEq] at h; obtain ⟨rfl, rfl, rfl⟩ := h; rfl
  | some p => obtain ⟨a, b⟩ := p; rw [hc] at h; simp only [Prod.mk.injEq] at h; obtain ⟨rfl, rfl, rfl⟩ := h; rfl

/-- before the arguments: what is known of the two blocks -/
structure MEnv (w W0 : World) : Prop where
  b : Below w.heap.size w W0
  z : W0.heap.size = w.heap.size + 1
  k : W0.heap[w.heap.size]? = some (.cells #[.int .i64 0, .string ⟨#[]⟩, .slice none 0 0] 24)
theorem MEnv.of (w : World) : MEnv w (w.alloc (.cells #[.int .i64 0, .string ⟨#[]⟩, .slice none 0 0] 24)) :=
  ⟨(Below.refl _ _).alloc (Nat.le_refl _) _, by simp, heap_alloc_new w _⟩
theorem MEnv.three {w W0 X : World} (h : MEnv w W0) (hb : Below W0.heap.size W0 X) : Three X w.heap.size (.int .i64 0) (.string ⟨#[]⟩) (.slice none 0 0) :=
  Three.of ((hb.block w.heap.size (by rw [h.z]; omega)).trans h.k)

set_option maxRecDepth 100000 in
set_option maxHeartbeats 800000 in
theorem message_bad (s : ByteArray) (hs : s.size ≤ 90000000)
    (h : numAt 32 s.data.toList = none ∨ ∃ x r n, cutB 32 s.data.toList = some (x, r) ∧ num? x = some n ∧ (cutB 10 r = none ∨ ∃ y q, cutB 10 r = some (y, q) ∧ validM y = false)) (w : World) (hE : Env w) :
    Calls Tryz.prog 25 #[.string s] w (ParsePost s.data.toList w) := by
  obtain ⟨W0, hW0⟩ : ∃ W0 : World, w.alloc (.cells #[.int .i64 0, .string ⟨#[]⟩, .slice none 0 0] 24) = W0 := ⟨_, rfl⟩
  have M : MEnv w W0 := by rw [← hW0]; exact MEnv.of w
  have hE0 := hE.below M.b
  have HW := Lib.hid hW0
  have HM := Lib.hid M
  clear hW0 M
  rcases h with h | ⟨x, r, n, hc, hn, h⟩
  · have HPN := Lib.hid (show parse s.data.toList = none by
      unfold numAt at h
      cases hc : cutB 32 s.data.toList with
      | none => exact parse_none1 hc
      | some p => obtain ⟨x, r⟩ := p; rw [hc] at h; simp only [Option.map_eq_none_iff] at h; exact parse_none2 hc h)
    have HN := Lib.hid (number_bad s 32 h (by omega) W0 hE0)
    clear h
    go_enter Tryz.func25, Tryz.ntmps25
    go_wp2_with (go_at_call 37; rw [HW.out]; refine HN.out.mono ?_; rintro e w1 ⟨n, t, rfl, hb1⟩; refine Hid.out ?_)
    obtain ⟨q0, q1, q2, qf⟩ := HM.out.three hb1
    refine Lib.hid ?_
    go_wp2
    refine bodyPost_ret (v := .tuple #[zero3V, .bool false]) (by simp [results, Tryz.results25, go_sem, zero3V, *]) rfl (ParsePost.bad HPN.out ?_)
    exact below3 HM.out.b hb1 _ _ _
  · have hrs : r.length ≤ s.size := by
      obtain ⟨e, _⟩ := cutB_some hc
      have := congrArg List.length e
      rw [List.length_append, List.length_cons, ← Lib.size_eq] at this; omega
    obtain ⟨R, hR⟩ : ∃ R, S r = R := ⟨_, rfl⟩
    have hRl : R.data.toList = r := by rw [← hR, S_list]
    have hRs : R.size ≤ 100000000 := by rw [Lib.size_eq, hRl]; omega
    have HN := Lib.hid (number_n s 32 x r n hc hn hR (by omega) W0 hE0)
    rcases h with h | ⟨y, q, h, hv⟩
    · have HPN := Lib.hid (parse_none3 hc h)
      have HC := Lib.hid (fun W hW => cut_n R 10 hRs (x := R) (y := S []) (o := false) (by rw [hRl, h]) W hW)
      clear h hc hn hR hRl
      go_enter Tryz.func25, Tryz.ntmps25
      go_wp2_with (go_at_call 37; rw [HW.out]; refine HN.out.mono ?_; rintro e w1 ⟨rfl, hb1⟩; refine Hid.out ?_)
      have hE1 := hE0.below hb1
      refine Lib.hid ?_
      go_wp2_with (go_at_call 38; refine (HC.out _ hE1).mono ?_; rintro e w2 ⟨rfl, hb2⟩; refine Hid.out ?_)
      have hb3 := hb1.trans (hb2.mono hb1.size)
      obtain ⟨q0, q1, q2, qf⟩ := HM.out.three hb3
      refine Lib.hid ?_
      go_wp2
      refine bodyPost_ret (v := .tuple #[zero3V, .bool false]) (by simp [results, Tryz.results25, go_sem, zero3V, *]) rfl (ParsePost.bad HPN.out ?_)
      exact below3 HM.out.b hb3 _ _ _
    · have HPN := Lib.hid (parse_none4 hc h hv)
      obtain ⟨Y, hY⟩ : ∃ Y, S y = Y := ⟨_, rfl⟩
      have hYl : Y.data.toList = y := by rw [← hY, S_list]
      have HC := Lib.hid (fun W hW => cut_n R 10 hRs (x := Y) (y := S q) (o := true) (by rw [hRl, h, ← hY]) W hW)
      have hVm := fun W => validMethod_any Y W
      rw [hYl, hv] at hVm
      have HV := Lib.hid hVm
      clear h hc hn hR hRl hY hYl hVm hv
      go_enter Tryz.func25, Tryz.ntmps25
      go_wp2_with (go_at_call 37; rw [HW.out]; refine HN.out.mono ?_; rintro e w1 ⟨rfl, hb1⟩; refine Hid.out ?_)
      have hE1 := hE0.below hb1
      refine Lib.hid ?_
      go_wp2_with (go_at_call 38; refine (HC.out _ hE1).mono ?_; rintro e w2 ⟨rfl, hb2⟩; refine Hid.out ?_)
      have hb3 := hb1.trans (hb2.mono hb1.size)
      refine Lib.hid ?_
      go_wp2_with (go_at_call 18; refine (HV.out _).mono ?_; rintro e w3 ⟨rfl, hb4⟩; refine Hid.out ?_)
      have hb5 := hb3.trans (hb4.mono hb3.size)
      obtain ⟨q0, q1, q2, qf⟩ := HM.out.three hb5
      refine Lib.hid ?_
      go_wp2
      refine bodyPost_ret (v := .tuple #[zero3V, .bool false]) (by simp [results, Tryz.results25, go_sem, zero3V, *]) rfl (ParsePost.bad HPN.out ?_)
      exact below3 HM.out.b hb5 _ _ _

set_option maxRecDepth 100000 in
set_option maxHeartbeats 4000000 in
theorem message_args (s : ByteArray) (hs : s.size ≤ 90000000) (x r y q : Bytes) (id : Int) (hc : cutB 32 s.data.toList = some (x, r))
    (hn : num? x = some id) (h : cutB 10 r = some (y, q)) (hv : validM y = true) (w : World) (hE : Env w) :
    Calls Tryz.prog 25 #[.string s] w (ParsePost s.data.toList w) := by
  obtain ⟨i0, hi0, hz0, hz1, hz2⟩ := info_parts str_info
  obtain ⟨W0, hW0⟩ : ∃ W0 : World, w.alloc (.cells #[.int .i64 0, .string ⟨#[]⟩, .slice none 0 0] 24) = W0 := ⟨_, rfl⟩
  have M : MEnv w W0 := by rw [← hW0]; exact MEnv.of w
  have hE0 := hE.below M.b
  have HW := Lib.hid hW0
  have HM := Lib.hid M
  clear hW0 M
  have hrs : r.length ≤ s.size := by
    obtain ⟨e, _⟩ := cutB_some hc
    have := congrArg List.length e
    rw [List.length_append, List.length_cons, ← Lib.size_eq] at this; omega
  have hqs : q.length ≤ r.length := by
    obtain ⟨e, _⟩ := cutB_some h
    have := congrArg List.length e
    rw [List.length_append, List.length_cons] at this; omega
  obtain ⟨R, hR⟩ : ∃ R, S r = R := ⟨_, rfl⟩
  have hRl : R.data.toList = r := by rw [← hR, S_list]
  have hRs : R.size ≤ 100000000 := by rw [Lib.size_eq, hRl]; omega
  have HN := Lib.hid (number_n s 32 x r id hc hn hR (by omega) W0 hE0)
  have hpa := parse_args hc hn h hv
  have HPN' := Lib.hid (show pargs 10 q = none → parse s.data.toList = none from fun e => by rw [hpa, e]; rfl)
  have HPS := Lib.hid (show ∀ l, pargs 10 q = some l → parse s.data.toList = some ⟨id, y, l⟩ from fun l e => by rw [hpa, e]; rfl)
  obtain ⟨Y, hY⟩ : ∃ Y, S y = Y := ⟨_, rfl⟩
  have hYl : Y.data.toList = y := by rw [← hY, S_list]
  obtain ⟨Q, hQ⟩ : ∃ Q, S q = Q := ⟨_, rfl⟩
  have hQl : Q.data.toList = q := by rw [← hQ, S_list]
  have hQs : Q.size ≤ 90000000 := by rw [Lib.size_eq, hQl]; omega
  have HC := Lib.hid (fun W hW => cut_n R 10 hRs (x := Y) (y := Q) (o := true) (by rw [hRl, h, ← hY, ← hQ]) W hW)
  have hVm := fun W => validMethod_any Y W
  rw [hYl, hv] at hVm
  have HV := Lib.hid hVm
  have HQ := Lib.hid hQl
  have HY := Lib.hid hY
  clear h hc hn hR hRl hY hYl hVm hv hpa hQ hQl hrs hqs
  go_enter Tryz.func25, Tryz.ntmps25
  go_wp2_with (go_at_call 37; rw [HW.out]; refine HN.out.mono ?_; rintro e w1 ⟨rfl, hb1⟩; refine Hid.out ?_)
  have hE1 := hE0.below hb1
  refine Lib.hid ?_
  go_wp2_with (go_at_call 38; refine (HC.out _ hE1).mono ?_; rintro e w2 ⟨rfl, hb2⟩; refine Hid.out ?_)
  have hb3 := hb1.trans (hb2.mono hb1.size)
  refine Lib.hid ?_
  go_wp2_with (go_at_call 18; refine (HV.out _).mono ?_; rintro e w3 ⟨rfl, hb4⟩; refine Hid.out ?_)
  have hb5 := hb3.trans (hb4.mono hb3.size)
  have hE3 := hE0.belowB hb5 hE0.size
  have HB5 := Lib.hid hb5
  have hlt3 : w.heap.size < w3.heap.size := by have := hb5.size; rw [HM.out.z] at this; omega
  clear hb1 hb2 hb3 hb4 hb5 hE1 hE0
  refine Lib.hid ?_
  go_wp2
  go_loopw [0, 8] (fun sv v wr => ∃ (b : ByteArray) (l : List Bytes), sv = .string b ∧ ArgSs q b w3 wr l v) (fun sv _ _ => strLen sv)
  case atStart => exact ⟨Q, [], rfl, ⟨hQs, by simp, by rw [HQ.out]; simp, World.ownsRow_nil _ _ _ _, Below.refl _ _⟩⟩
  case round =>
    obtain ⟨b, l, rfl, hst⟩ := hrel
    have HS := Lib.hid hst
    have hbs := hst.sz
    have hEr := hE3.below hst.below
    clear hst
    obtain ⟨va, vcap, rfl⟩ : ∃ va vcap, u8 = .slice va l.length vcap := by
      rcases HS.out.own.2 with ⟨hv, h0⟩ | ⟨g, cap, cur, hv, _⟩
      · exact ⟨none, 0, by rw [hv, h0]⟩
      · exact ⟨_, _, hv⟩
    obtain ⟨L, hL⟩ : ∃ L, l.length = L := ⟨_, rfl⟩
    have HO := Lib.hid (show wr.ownsRow w3.heap.size 9 1 (.slice va L vcap) L (strV l) by rw [← hL]; exact HS.out.own)
    have h10 : L ≤ 10 := by rw [← hL]; exact HS.out.h10
    rw [hL]
    have HL := Lib.hid hL
    clear hL
    have HBW := Lib.hid (show Below W0.heap.size W0 wr from HB5.out.trans (HS.out.below.mono HB5.out.size))
    obtain ⟨q0, q1, q2, qf⟩ := HM.out.three HBW.out
    by_cases hemp : b.data.toList = []
    · have hem : b.toList.isEmpty = true := by rw [Lib.toList_data, hemp]; rfl
      have hem2 : b.toList = [] := by rw [Lib.toList_data, hemp]
      have HPD := Lib.hid (HPS.out l (HS.out.done hemp))
      clear hemp
      rw [← HY.out]
      go_wp2
      refine bodyPost_ret (v := .tuple #[.agg #[.int .i64 id, .string (S y), .slice va L vcap], .bool true]) (by simp [results, Tryz.results25, go_sem, *]) rfl (ParsePost.good HPD.out ?_ ?_)
      · refine ⟨va, vcap, by rw [List.length_map, HL.out], ?_, ?_⟩
        · intro ad had
          subst had
          have := (HO.out.lt ad.block rfl).1
          have : w3.heap.size ≤ ad.block := this
          omega
        exact RdS.of_own (ownsRow_setCell_below (ownsRow_setCell_below (ownsRow_setCell_below HO.out (a := ⟨w.heap.size, 0, none⟩) hlt3 _) (a := ⟨w.heap.size, 1, none⟩) hlt3 _) (a := ⟨w.heap.size, 2, none⟩) hlt3 _)
      · exact below3 HM.out.b HBW.out _ _ _
    · have hem : b.toList.isEmpty = false := by
        rw [Lib.toList_data]
        cases hq : b.data.toList with
        | nil => exact absurd hq hemp
        | cons a b => rfl
      have hem2 : (!b.toList.isEmpty) = true := by rw [hem]; rfl
      have HE := Lib.hid hemp
      clear hemp
      cases hna : numAt 58 b.data.toList with
      | none =>
        have HPN := Lib.hid (HPN'.out (HS.out.fail HE.out hna))
        have HNb := Lib.hid (number_bad b 58 hna (by omega) wr hEr)
        clear hna
        go_wp2_with (go_at_call 37; refine HNb.out.mono ?_; rintro e w4 ⟨n, t, rfl, hb6⟩; refine Hid.out ?_)
        have hb7 := HBW.out.trans (hb6.mono HBW.out.size)
        obtain ⟨q0, q1, q2, qf⟩ := HM.out.three hb7
        refine Lib.hid ?_
        go_wp2
        refine bodyPost_ret (v := .tuple #[zero3V, .bool false]) (by simp [results, Tryz.results25, go_sem, zero3V, *]) rfl (ParsePost.bad HPN.out ?_)
        exact below3 HM.out.b hb7 _ _ _
      | some p =>
        obtain ⟨n, rr⟩ := p
        obtain ⟨u, hcc, hnn⟩ : ∃ u, cutB 58 b.data.toList = some (u, rr) ∧ num? u = some n := by
          unfold numAt at hna
          cases hq : cutB 58 b.data.toList with
          | none => rw [hq] at hna; cases hna
          | some p =>
            obtain ⟨u, r2⟩ := p
            rw [hq] at hna
            simp only at hna
            cases hq2 : num? u with
            | none => rw [hq2] at hna; cases hna
            | some n2 => rw [hq2] at hna; simp only [Option.map_some, Option.some.injEq, Prod.mk.injEq] at hna; obtain ⟨rfl, rfl⟩ := hna; exact ⟨u, rfl, hq2⟩
        obtain ⟨Z, hZ⟩ : ∃ Z, S rr = Z := ⟨_, rfl⟩
        have hZl : Z.data.toList = rr := by rw [← hZ, S_list]
        have hZs : Z.size = rr.length := by rw [Lib.size_eq, hZl]
        have hrb : rr.length ≤ b.size := by
          obtain ⟨e, _⟩ := cutB_some hcc
          have := congrArg List.length e
          rw [List.length_append, List.length_cons, ← Lib.size_eq] at this; omega
        have hrb2 : Z.size < b.size := by
          obtain ⟨e, _⟩ := cutB_some hcc
          have := congrArg List.length e
          rw [List.length_append, List.length_cons, ← Lib.size_eq] at this; omega
        have HNo := Lib.hid (number_n b 58 u rr n hcc hnn hZ (by omega) wr hEr)
        have hni := (num?_some.1 hnn).2
        unfold inR at hni
        obtain ⟨hni1, hni2⟩ := hni
        by_cases hbad : n < 0 ∨ (rr.length : Int) ≤ n ∨ rr[n.toNat]? ≠ some 10
        · have HPN := Lib.hid (HPN'.out (HS.out.fail2 HE.out hcc hnn hbad))
          by_cases n0 : n < 0
          · clear hna hcc hnn hZ hZl hZs hrb hbad
            go_wp2_with (go_at_call 37; refine HNo.out.mono ?_; rintro e w4 ⟨rfl, hb6⟩; refine Hid.out ?_)
            have hb7 := HBW.out.trans (hb6.mono HBW.out.size)
            obtain ⟨q0, q1, q2, qf⟩ := HM.out.three hb7
            refine Lib.hid ?_
            go_wp2
            refine bodyPost_ret (v := .tuple #[zero3V, .bool false]) (by simp [results, Tryz.results25, go_sem, zero3V, *]) rfl (ParsePost.bad HPN.out ?_)
            exact below3 HM.out.b hb7 _ _ _
          · by_cases n1 : (rr.length : Int) ≤ n
            · have n1' : (Z.size : Int) ≤ n := by omega
              clear hna hcc hnn hZ hZl hZs hrb hbad n1
              go_wp2_with (go_at_call 37; refine HNo.out.mono ?_; rintro e w4 ⟨rfl, hb6⟩; refine Hid.out ?_)
              have hb7 := HBW.out.trans (hb6.mono HBW.out.size)
              obtain ⟨q0, q1, q2, qf⟩ := HM.out.three hb7
              refine Lib.hid ?_
              go_wp2
              refine bodyPost_ret (v := .tuple #[zero3V, .bool false]) (by simp [results, Tryz.results25, go_sem, zero3V, *]) rfl (ParsePost.bad HPN.out ?_)
              exact below3 HM.out.b hb7 _ _ _
            · obtain ⟨m, rfl⟩ : ∃ m : Nat, n = (m : Int) := ⟨n.toNat, by omega⟩
              have hms : m < Z.size := by omega
              have hb10' : (((Z[m]'hms).toNat : Int) != 10) = true := by
                have h3 : rr[m]? ≠ some 10 := by
                  rcases hbad with h | h | h
                  · omega
                  · omega
                  · rwa [Int.toNat_natCast] at h
                rw [bne_iff_ne]
                intro h4
                apply h3
                rw [← hZl]
                have h5 : m < Z.data.toList.length := by rw [← Lib.size_eq]; exact hms
                rw [List.getElem?_eq_getElem h5]
                congr 1
                apply UInt8.toNat_inj.1
                have h6 : Z.data.toList[m] = Z[m]'hms := rfl
                rw [h6]; simp; omega
              clear hna hcc hnn hZ hZl hZs hrb hbad
              go_wp2_with (go_at_call 37; refine HNo.out.mono ?_; rintro e w4 ⟨rfl, hb6⟩; refine Hid.out ?_)
              have hb7 := HBW.out.trans (hb6.mono HBW.out.size)
              obtain ⟨q0, q1, q2, qf⟩ := HM.out.three hb7
              refine Lib.hid ?_
              go_wp2
              refine bodyPost_ret (v := .tuple #[zero3V, .bool false]) (by simp [results, Tryz.results25, go_sem, zero3V, *]) rfl (ParsePost.bad HPN.out ?_)
              exact below3 HM.out.b hb7 _ _ _
        · obtain ⟨m, rfl⟩ : ∃ m : Nat, n = (m : Int) := ⟨n.toNat, by omega⟩
          have hmr : m < rr.length := by omega
          have hms : m < Z.size := by omega
          have hb10r : rr[m]? = some 10 := by
            have h : ¬ rr[(m : Int).toNat]? ≠ some 10 := fun h => hbad (.inr (.inr h))
            rwa [Int.toNat_natCast, Ne, Decidable.not_not] at h
          have hb10' : (((Z[m]'hms).toNat : Int) != 10) = false := by
            have h7 : Z[m]'hms = 10 := by
              have h5 : m < Z.data.toList.length := by rw [← Lib.size_eq]; exact hms
              rw [← hZl, List.getElem?_eq_getElem h5] at hb10r
              injection hb10r
            rw [h7]; rfl
          by_cases hL10 : L = 10
          · have HPN := Lib.hid (HPN'.out (HS.out.full HE.out (by rw [HL.out]; exact hL10)))
            subst hL10
            clear hna hcc hnn hZ hZl hZs hrb hbad hb10r hmr
            go_wp2_with (go_at_call 37; refine HNo.out.mono ?_; rintro e w4 ⟨rfl, hb6⟩; refine Hid.out ?_)
            have hb7 := HBW.out.trans (hb6.mono HBW.out.size)
            obtain ⟨q0, q1, q2, qf⟩ := HM.out.three hb7
            refine Lib.hid ?_
            go_wp2
            refine bodyPost_ret (v := .tuple #[zero3V, .bool false]) (by simp [results, Tryz.results25, go_sem, zero3V, *]) rfl (ParsePost.bad HPN.out ?_)
            exact below3 HM.out.b hb7 _ _ _
          · have hL10' : ((L : Int) == 10) = false := by rw [beq_eq_false_iff_ne]; omega
            have hX : Z.extract 0 m = S (rr.take m) := S_ext (by rw [ext_list, S_list, hZl]; simp)
            have HX := Lib.hid hX
            have hD : (Z.extract (m + 1) Z.size).data.toList = rr.drop (m + 1) := by rw [ext_end, hZl]
            have hDs : (Z.extract (m + 1) Z.size).size < b.size := by rw [Lib.size_eq, hD, List.length_drop]; omega
            have HPU := Lib.hid (fun (w2 : World) (v' : Value) => HS.out.push (b' := Z.extract (m + 1) Z.size) (w2 := w2) (v' := v') HE.out (by rw [HL.out]; omega) hcc hnn hmr hb10r hD)
            have HDS := Lib.hid hDs
            clear hna hcc hnn hZ hZl hZs hrb hbad hb10r hmr hX hD hDs
            go_wp2_with (go_at_call 37; refine HNo.out.mono ?_; rintro e w4 ⟨rfl, hb6⟩; refine Hid.out ?_)
            have hb7 := HS.out.below.trans (hb6.mono HS.out.below.size)
            have hown1 := HO.out.kept (w' := w4) (row := none) ⟨hb6.os, hb6.tape, hb6.output, hb6.size, fun i hi _ => hb6.block i hi⟩ (by rcases HO.out.2 with ⟨hv, _⟩ | ⟨g, cap, cur, hv, _⟩ <;> rw [hv] <;> simp [Value.ownBlock])
            have HB7 := Lib.hid hb7
            have hbs4 := hb7.size
            clear hb7
            refine Lib.hid ?_
            go_wp2_with (at_builtin; rw [HX.out]; refine wpList_append_own _ rfl (.tmp 67) (.tmp 71) 22 rfl w3.heap.size 9 i0 (.string ⟨#[]⟩) 1 16 Tryz.underlying22 hi0 hz0 hz1 hz2 rfl (by decide) _ L (strV l) rfl (hown1.alloc _) ⟨w4.heap.size, 0, none⟩ 1 1 [.string (S (rr.take m))] rfl rfl (cell_one_new _ _ _) (by simp [Value.oneCell']) (by unfold maxLen; omega) (by omega) (by simp; omega) ?_; intro v' w5 hown2 hg2 _; refine Hid.out ?_)
            have hb8 := (HB7.out.alloc HB7.out.size (.cells #[.string (S (rr.take m))] 9)).grown hg2 (by simp; omega) (fun q hq => (hown1.lt q hq).1)
            have hst2 := HPU.out w5 v' (by rw [HL.out]; exact hown2) hb8
            refine Lib.hid ?_
            clear hown2 hg2 hown1 hb6
            go_wp2
            go_roundw
            case rel => exact ⟨_, _, rfl, hst2⟩
            case measure => exact HDS.out

theorem message_any (s : ByteArray) (hs : s.size ≤ 90000000) (w : World) (hE : Env w) : Calls Tryz.prog 25 #[.string s] w (ParsePost s.data.toList w) := by
  cases h : cutB 32 s.data.toList with
  | none => exact message_bad s hs (.inl (by unfold numAt; rw [h])) w hE
  | some p =>
    obtain ⟨x, r⟩ := p
    cases hn : num? x with
    | none => exact message_bad s hs (.inl (by unfold numAt; rw [h]; simp only [hn]; rfl)) w hE
    | some id =>
      cases hc : cutB 10 r with
      | none => exact message_bad s hs (.inr ⟨x, r, id, h, hn, .inl hc⟩) w hE
      | some p =>
        obtain ⟨y, q⟩ := p
        cases hv : validM y with
        | true => exact message_args s hs x r y q id h hn hc hv w hE
        | false => exact message_bad s hs (.inr ⟨x, r, id, h, hn, .inr ⟨y, q, hc, hv⟩⟩) w hE
end Go.Proofs.YthooajbhiikbfaaGreatDoor
