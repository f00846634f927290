/- A part of the proofs of the statements of emendatelaw55 (layer protocol): parse of the reference. Conditions: those that stand in each theorem, no other. -/
import Derived.Test.YthooajbhiikbfaaGreatDoorEmQ
namespace Go.Proofs.YthooajbhiikbfaaGreatDoor
open Go Go.RowKit Em

def strV (l : List Bytes) : List Value := l.map fun a => .string (S a)

/-- the state at the head of the loop over the arguments -/
structure ArgSt (q : Bytes) (s : ByteArray) (W1 wr : World) (l : List Bytes) (a : Nat) (v : Value) : Prop where
  ha : a ≤ s.size
  h10 : l.length ≤ 10
  eq : (pargs (10 - l.length) (s.data.toList.drop a)).map (l ++ ·) = pargs 10 q
  own : wr.ownsRow W1.heap.size 9 1 v l.length (strV l)
  below : Below W1.heap.size W1 wr

theorem ArgSt.done {q : Bytes} {s : ByteArray} {W1 wr : World} {l : List Bytes} {a : Nat} {v : Value} (h : ArgSt q s W1 wr l a v) (he : s.size ≤ a) : pargs 10 q = some l := by
  rw [← h.eq, List.drop_of_length_le (by rw [← Lib.size_eq]; exact he), pargs_nil]; simp
theorem ArgSt.ne {s : ByteArray} {a : Nat} (h : a < s.size) : s.data.toList.drop a ≠ [] := by
  rw [Ne, List.drop_eq_nil_iff, ← Lib.size_eq]; omega
theorem ArgSt.full {q : Bytes} {s : ByteArray} {W1 wr : World} {l : List Bytes} {a : Nat} {v : Value} (h : ArgSt q s W1 wr l a v) (hl : a < s.size) (h10 : l.length = 10) : pargs 10 q = none := by
  rw [← h.eq, h10, Nat.sub_self, pargs_zero _ (ArgSt.ne hl)]; rfl
theorem ArgSt.fail {q : Bytes} {s : ByteArray} {W1 wr : World} {l : List Bytes} {a : Nat} {v : Value} (h : ArgSt q s W1 wr l a v) (hl : a < s.size) (h10 : l.length < 10)
    (hn : numAt 58 (s.data.toList.drop a) = none) : pargs 10 q = none := by
  have e : 10 - l.length = (9 - l.length) + 1 := by omega
  rw [← h.eq, e, pargs_step _ _ (ArgSt.ne hl)]
  unfold numAt at hn
  cases hc : cutB 58 (s.data.toList.drop a) with
  | none => rfl
  | some p =>
    rw [hc] at hn
    simp only [Option.map_eq_none_iff] at hn
    simp only [hn]; rfl
theorem ArgSt.fail2 {q : Bytes} {s : ByteArray} {W1 wr : World} {l : List Bytes} {a : Nat} {v : Value} (h : ArgSt q s W1 wr l a v) (hl : a < s.size) (h10 : l.length < 10)
    {x r : Bytes} {n : Int} (hc : cutB 58 (s.data.toList.drop a) = some (x, r)) (hn : num? x = some n) (hb : n < 0 ∨ (r.length : Int) ≤ n ∨ r[n.toNat]? ≠ some 10) : pargs 10 q = none := by
  have e : 10 - l.length = (9 - l.length) + 1 := by omega
  rw [← h.eq, e, pargs_step _ _ (ArgSt.ne hl), hc]
  simp only [hn, if_pos hb]; rfl
theorem ArgSt.push {q : Bytes} {s : ByteArray} {W1 wr w2 : World} {l : List Bytes} {a a' : Nat} {v v' : Value} (h : ArgSt q s W1 wr l a v) (hl : a < s.size) (h10 : l.length < 10)
    {x r : Bytes} {n : Nat} (hc : cutB 58 (s.data.toList.drop a) = some (x, r)) (hn : num? x = some (n : Int)) (hlt : n < r.length) (hb : r[n]? = some 10)
    (ha' : a' = a + x.length + 2 + n) (hown : w2.ownsRow W1.heap.size 9 1 v' (l.length + 1) (strV l ++ [.string (S (r.take n))])) (hbl : Below W1.heap.size W1 w2) :
    ArgSt q s W1 w2 (l ++ [r.take n]) a' v' where
  ha := by
    obtain ⟨_, _, hr, hlen⟩ := cut_find hc (by rw [← Lib.size_eq]; exact h.ha)
    have := congrArg List.length hr
    rw [List.length_drop, ← Lib.size_eq] at this
    omega
  h10 := by simp; omega
  eq := by
    obtain ⟨_, _, hr, _⟩ := cut_find hc (by rw [← Lib.size_eq]; exact h.ha)
    have e : 10 - l.length = (9 - l.length) + 1 := by omega
    have hcond : ¬ ((n : Int) < 0 ∨ (r.length : Int) ≤ (n : Int) ∨ r[(n : Int).toNat]? ≠ some 10) := by
      rw [Int.toNat_natCast, hb]; simp; omega
    rw [← h.eq, e, pargs_step _ _ (ArgSt.ne hl), hc]
    simp only [hn]
    rw [if_neg hcond]
    simp only [Int.toNat_natCast]
    have e2 : 10 - (l ++ [r.take n]).length = 9 - l.length := by rw [List.length_append, List.length_singleton]; omega
    have e3 : s.data.toList.drop a' = r.drop (n + 1) := by rw [hr, List.drop_drop, ha']; congr 1; omega
    rw [e2, e3]
    cases pargs (9 - l.length) (r.drop (n + 1)) with
    | none => rfl
    | some z => simp
  own := by rw [List.length_append]; simpa [strV] using hown
  below := hbl

theorem RdS.of_own {w : World} {base : Nat} {A : Option Addr} {c L : Nat} {l : List Bytes} (h : w.ownsRow base 9 1 (.slice A L c) L (strV l)) : RdS w w.heap.size A (l.map S) := by
  intro k s hk
  rw [List.getElem?_map] at hk
  cases hl : l[k]? with
  | none => rw [hl] at hk; cases hk
  | some x =>
    rw [hl] at hk
    simp only [Option.map_some, Option.some.injEq] at hk
    rcases h.2 with ⟨hv, h0⟩ | ⟨g, cap, cur, hv, _⟩
    · have := h.1
      unfold strV at this
      rw [List.length_map] at this
      have h2 := (List.getElem?_eq_some_iff.1 hl).1
      omega
    · injection hv with h1 _ _
      subst h1
      have hc := h.cells (g := g) rfl k (.string (S x)) (by unfold strV; rw [List.getElem?_map, hl]; rfl)
      exact ⟨⟨g, 0, none⟩, rfl, (h.lt g rfl).2, by rw [hc, ← hk]⟩

theorem int_of (s : ByteArray) (hs : s.size ≤ 90000000) {x : Bytes} (hx : s.data.toList = x) {o : Option Int} (ho : num? x = o) (w : World) :
    Calls Tryz.prog 41 #[.string s] w fun e w' => e = .returned (.tuple #[.int .i64 (o.getD 0), .bool o.isSome]) ∧ Below w.heap.size w w' := by
  have := integerR_any s hs w
  rw [hx, ho] at this; exact this

set_option maxRecDepth 100000 in
set_option maxHeartbeats 4000000 in
theorem parseR_args (s : ByteArray) (hs : s.size ≤ 90000000) (x r y q : Bytes) (id : Int) (h : cutB 32 s.data.toList = some (x, r))
    (hn : num? x = some id) (hc : cutB 10 r = some (y, q)) (hv : validM y = true) (w : World) :
    Calls Tryz.prog 27 #[.string s] w (ParsePost s.data.toList w) := by
  obtain ⟨i0, hi0, hz0, hz1, hz2⟩ := info_parts str_info
  have E := HeadAt.of h
  obtain ⟨b, hb⟩ : ∃ b, x.length = b := ⟨_, rfl⟩
  rw [hb] at E
  have hbs := E.lt
  have hxs : (s.extract 0 b).size ≤ 90000000 := by
    rw [Lib.size_eq, E.x_, hb]; omega
  have HI := Lib.hid (fun W => int_of (s.extract 0 b) hxs E.x_ hn W)
  have hf := Lib.hid (fun W => find_is s 0 32 b E.f (Nat.zero_le _) (by omega) W)
  obtain ⟨W0, hW0⟩ : ∃ W0 : World, w.alloc (.cells #[.int .i64 0, .string ⟨#[]⟩, .slice none 0 0] 24) = W0 := ⟨_, rfl⟩
  have HB := Lib.hid (show Below w.heap.size w W0 by rw [← hW0]; exact (Below.refl _ _).alloc (Nat.le_refl _) _)
  have HZ := Lib.hid (show W0.heap.size = w.heap.size + 1 by rw [← hW0]; simp)
  have HK := Lib.hid (show W0.heap[w.heap.size]? = some (.cells #[.int .i64 0, .string ⟨#[]⟩, .slice none 0 0] 24) by rw [← hW0]; exact heap_alloc_new w _)
  have HW := Lib.hid hW0
  clear hW0
  have hpa := parse_args h hn hc hv
  have HPN' := Lib.hid (show pargs 10 q = none → parse s.data.toList = none from fun e => by rw [hpa, e]; rfl)
  have HPS := Lib.hid (show ∀ l, pargs 10 q = some l → parse s.data.toList = some ⟨id, y, l⟩ from fun l e => by rw [hpa, e]; rfl)
  rw [E.r_] at hc
  obtain ⟨a1, a2, a3, a4⟩ := cut_find hc (by rw [← Lib.size_eq]; exact hbs)
  obtain ⟨e, he⟩ : ∃ e, b + 1 + y.length = e := ⟨_, rfl⟩
  rw [he] at a1 a2 a3 a4
  have hes : e < s.size := by rw [Lib.size_eq]; exact a4
  have hz : findZ 10 b s.data.toList = (e : Int) := by rw [E.n_]; exact a1
  have hf2 := Lib.hid (fun W => find_is s b 10 e hz (by omega) (by omega) W)
  have hm := fun W => method_any (s.extract (b + 1) e) W (by rw [Lib.size_eq, ext_list, a2]; omega)
  rw [ext_list, a2, hv] at hm
  have HM := Lib.hid hm
  have HY := Lib.hid (show s.extract (b + 1) e = S y from S_ext (by rw [ext_list, a2, S_list]))
  have HQ := Lib.hid a3
  have hbe : b + 1 ≤ e := by omega
  clear hpa h hn E hz hb hc hm a1 a2 a3 a4 he hv
  go_enter Tryz.func27, Tryz.ntmps27
  go_wp2_with (first | (go_at_call 41; rw [HW.out]; refine (HI.out _).mono ?_; rintro e w1 ⟨rfl, hb1⟩; refine Hid.out ?_) | (go_at_call 40; refine (hf.out _).mono ?_; rintro e w1 ⟨rfl, rfl⟩))
  have HB1 := Lib.hid hb1
  have HK1 := Lib.hid ((hb1.block w.heap.size (by rw [HZ.out]; omega)).trans HK.out)
  clear hb1
  refine Lib.hid ?_
  go_wp2_with (first | (go_at_call 40; refine (hf2.out _).mono ?_; rintro e w2 ⟨rfl, rfl⟩) | (go_at_call 21; refine (HM.out _).mono ?_; rintro e w2 ⟨rfl, rfl⟩))
  rw [HY.out]
  obtain ⟨W1, hW1⟩ : ∃ W1 : World, w1.alloc (.cells #[.int .i64 id, .string (S y), .slice none 0 0] 24) = W1 := ⟨_, rfl⟩
  have HB2 := Lib.hid (show Below W0.heap.size W0 W1 by rw [← hW1]; exact HB1.out.alloc HB1.out.size _)
  have HZ1 := Lib.hid (show W1.heap.size = w1.heap.size + 1 by rw [← hW1]; simp)
  have hlt1 : w.heap.size < w1.heap.size := by have := HB1.out.size; rw [HZ.out] at this; omega
  have HK2 := Lib.hid (show W1.heap[w.heap.size]? = some (.cells #[.int .i64 0, .string ⟨#[]⟩, .slice none 0 0] 24) by rw [← hW1, Below.heap_alloc _ _ _ hlt1]; exact HK1.out)
  have HK3 := Lib.hid (show W1.heap[w1.heap.size]? = some (.cells #[.int .i64 id, .string (S y), .slice none 0 0] 24) by rw [← hW1]; exact heap_alloc_new w1 _)
  rw [hW1]
  clear hW1
  go_loopw [9, 10] (fun v ai wr => ∃ (l : List Bytes) (a : Nat), ai = .int .i64 a ∧ ArgSt q s W1 wr l a v) (fun _ ai _ => s.size - (intOf ai).toNat)
  case atStart => exact ⟨[], e + 1, by go_num, ⟨by omega, by simp, by rw [← HQ.out]; simp, World.ownsRow_nil _ _ _ _, Below.refl _ _⟩⟩
  case round =>
    obtain ⟨l, a, rfl, hst⟩ := hrel
    have HS := Lib.hid hst
    clear hst
    obtain ⟨va, vcap, rfl⟩ : ∃ va vcap, u9 = .slice va l.length vcap := by
      rcases HS.out.own.2 with ⟨hv, h0⟩ | ⟨g, cap, cur, hv, _⟩
      · exact ⟨none, 0, by rw [hv, h0]⟩
      · exact ⟨_, _, hv⟩
    have ha := HS.out.ha
    obtain ⟨L, hL⟩ : ∃ L, l.length = L := ⟨_, rfl⟩
    have HO := Lib.hid (show wr.ownsRow W1.heap.size 9 1 (.slice va L vcap) L (strV l) by rw [← hL]; exact HS.out.own)
    have h10 : L ≤ 10 := by rw [← hL]; exact HS.out.h10
    rw [hL]
    have HL := Lib.hid hL
    clear hL
    have hlt1' := hlt1
    have hbW0 : Below W0.heap.size W0 wr := HB2.out.trans (HS.out.below.mono HB2.out.size)
    obtain ⟨q0, q1, q2, qf⟩ := Three.of ((HS.out.below.block w.heap.size (by rw [HZ1.out]; omega)).trans HK2.out)
    have HBW := Lib.hid hbW0
    clear hbW0
    by_cases hlt : a < s.size
    · cases hcc : cutB 58 (s.data.toList.drop a) with
      | none =>
        have HPN := Lib.hid (HPN'.out (by
          rcases Nat.lt_or_ge L 10 with h | h
          · exact HS.out.fail hlt (by rw [HL.out]; exact h) (by unfold numAt; rw [hcc])
          · exact HS.out.full hlt (by rw [HL.out]; omega)))
        have hf3 := Lib.hid (fun W => find_is s a 58 (-1) (cut_find_none hcc) ha (by omega) W)
        clear hcc
        go_wp2_with (go_at_call 40; refine (hf3.out _).mono ?_; rintro e w2 ⟨rfl, rfl⟩)
        refine bodyPost_ret (v := .tuple #[zero3V, .bool false]) (by simp [results, Tryz.results27, go_sem, zero3V, *]) rfl (ParsePost.bad HPN.out ?_)
        exact below3 HB.out HBW.out _ _ _
      | some p =>
        obtain ⟨u, rr⟩ := p
        obtain ⟨a1, a2, a3, a4⟩ := cut_find hcc (by rw [← Lib.size_eq]; exact ha)
        obtain ⟨c, hce⟩ : ∃ c, a + u.length = c := ⟨_, rfl⟩
        rw [hce] at a1 a2 a3 a4
        have hcs : c < s.size := by rw [Lib.size_eq]; exact a4
        have hac : a ≤ c := by omega
        have hf3 := Lib.hid (fun W => find_is s a 58 c a1 ha (by omega) W)
        have hrl : rr.length + c + 1 = s.size := by
          have := congrArg List.length a3; rw [List.length_drop, ← Lib.size_eq] at this; omega
        by_cases h10' : L = 10
        · have HPN := Lib.hid (HPN'.out (HS.out.full hlt (by rw [HL.out]; exact h10')))
          subst h10'
          clear a1 a2 a3 a4 hce hcc
          go_wp2_with (go_at_call 40; refine (hf3.out _).mono ?_; rintro e w2 ⟨rfl, rfl⟩)
          refine bodyPost_ret (v := .tuple #[zero3V, .bool false]) (by simp [results, Tryz.results27, go_sem, zero3V, *]) rfl (ParsePost.bad HPN.out ?_)
          exact below3 HB.out HBW.out _ _ _
        · have hL10 : L < 10 := by omega
          have hb10 : ((L : Int) == 10) = false := by rw [beq_eq_false_iff_ne]; omega
          have hus : (s.extract a c).size ≤ 90000000 := by rw [Lib.size_eq, ext_list, a2]; omega
          cases hnn : num? u with
          | none =>
            have HI2 := Lib.hid (fun W => int_of (s.extract a c) hus ((ext_list s a c).trans a2) hnn W)
            simp only [Option.getD_none, Option.isSome_none] at HI2
            have HPN := Lib.hid (HPN'.out (HS.out.fail hlt (by rw [HL.out]; exact hL10) (by unfold numAt; rw [hcc]; simp only [hnn]; rfl)))
            clear a1 a2 a3 a4 hce hcc hus hnn h10'
            go_wp2_with (first | (go_at_call 40; refine (hf3.out _).mono ?_; rintro e w2 ⟨rfl, rfl⟩) | (go_at_call 41; refine (HI2.out _).mono ?_; rintro e w2 ⟨rfl, hb2⟩; refine Hid.out ?_))
            have hb3 := HBW.out.trans (hb2.mono HBW.out.size)
            obtain ⟨q0, q1, q2, qf⟩ := Three.of ((hb2.block w.heap.size (by have := HBW.out.size; rw [HZ.out] at this; omega)).trans ((HS.out.below.block w.heap.size (by rw [HZ1.out]; omega)).trans HK2.out))
            refine Lib.hid ?_
            go_wp2
            refine bodyPost_ret (v := .tuple #[zero3V, .bool false]) (by simp [results, Tryz.results27, go_sem, zero3V, *]) rfl (ParsePost.bad HPN.out ?_)
            exact below3 HB.out hb3 _ _ _
          | some n =>
            have HI2 := Lib.hid (fun W => int_of (s.extract a c) hus ((ext_list s a c).trans a2) hnn W)
            simp only [Option.getD_some, Option.isSome_some] at HI2
            have hni := (num?_some.1 hnn).2
            unfold inR at hni
            obtain ⟨hni1, hni2⟩ := hni
            by_cases hbad : n < 0 ∨ (rr.length : Int) ≤ n ∨ rr[n.toNat]? ≠ some 10
            · have HPN := Lib.hid (HPN'.out (HS.out.fail2 hlt (by rw [HL.out]; exact hL10) hcc hnn hbad))
              by_cases n0 : n < 0
              · clear a1 a2 a3 a4 hce hcc hus hnn h10' hbad
                go_wp2_with (first | (go_at_call 40; refine (hf3.out _).mono ?_; rintro e w2 ⟨rfl, rfl⟩) | (go_at_call 41; refine (HI2.out _).mono ?_; rintro e w2 ⟨rfl, hb2⟩; refine Hid.out ?_))
                have hb3 := HBW.out.trans (hb2.mono HBW.out.size)
                obtain ⟨q0, q1, q2, qf⟩ := Three.of ((hb2.block w.heap.size (by have := HBW.out.size; rw [HZ.out] at this; omega)).trans ((HS.out.below.block w.heap.size (by rw [HZ1.out]; omega)).trans HK2.out))
                refine Lib.hid ?_
                go_wp2
                refine bodyPost_ret (v := .tuple #[zero3V, .bool false]) (by simp [results, Tryz.results27, go_sem, zero3V, *]) rfl (ParsePost.bad HPN.out ?_)
                exact below3 HB.out hb3 _ _ _
              · by_cases n1 : (rr.length : Int) ≤ n
                · have n1' : (s.size : Int) - (c : Int) - 1 ≤ n := by omega
                  clear a1 a2 a3 a4 hce hcc hus hnn h10' hbad
                  go_wp2_with (first | (go_at_call 40; refine (hf3.out _).mono ?_; rintro e w2 ⟨rfl, rfl⟩) | (go_at_call 41; refine (HI2.out _).mono ?_; rintro e w2 ⟨rfl, hb2⟩; refine Hid.out ?_))
                  have hb3 := HBW.out.trans (hb2.mono HBW.out.size)
                  obtain ⟨q0, q1, q2, qf⟩ := Three.of ((hb2.block w.heap.size (by have := HBW.out.size; rw [HZ.out] at this; omega)).trans ((HS.out.below.block w.heap.size (by rw [HZ1.out]; omega)).trans HK2.out))
                  refine Lib.hid ?_
                  go_wp2
                  refine bodyPost_ret (v := .tuple #[zero3V, .bool false]) (by simp [results, Tryz.results27, go_sem, zero3V, *]) rfl (ParsePost.bad HPN.out ?_)
                  exact below3 HB.out hb3 _ _ _
                · obtain ⟨m, rfl⟩ : ∃ m : Nat, n = (m : Int) := ⟨n.toNat, by omega⟩
                  have hms : c + 1 + m < s.size := by omega
                  have hb10' : (((s[c + 1 + m]'hms).toNat : Int) != 10) = true := by
                    have h3 : rr[m]? ≠ some 10 := by
                      rcases hbad with h | h | h
                      · omega
                      · omega
                      · rwa [Int.toNat_natCast] at h
                    rw [bne_iff_ne]
                    intro h4
                    apply h3
                    rw [a3, List.getElem?_drop]
                    have h5 : c + 1 + m < s.data.toList.length := by rw [← Lib.size_eq]; exact hms
                    rw [List.getElem?_eq_getElem h5]
                    congr 1
                    apply UInt8.toNat_inj.1
                    have h6 : s.data.toList[c + 1 + m] = s[c + 1 + m]'hms := rfl
                    rw [h6]; simp; omega
                  have HMS := Lib.hid hms
                  clear a1 a2 a3 a4 hce hcc hus hnn h10' hbad
                  go_wp2_with (first | (go_at_call 40; refine (hf3.out _).mono ?_; rintro e w2 ⟨rfl, rfl⟩) | (go_at_call 41; refine (HI2.out _).mono ?_; rintro e w2 ⟨rfl, hb2⟩; refine Hid.out ?_))
                  have hb3 := HBW.out.trans (hb2.mono HBW.out.size)
                  obtain ⟨q0, q1, q2, qf⟩ := Three.of ((hb2.block w.heap.size (by have := HBW.out.size; rw [HZ.out] at this; omega)).trans ((HS.out.below.block w.heap.size (by rw [HZ1.out]; omega)).trans HK2.out))
                  refine Lib.hid ?_
                  go_wp2
                  refine bodyPost_ret (v := .tuple #[zero3V, .bool false]) (by simp [results, Tryz.results27, go_sem, zero3V, *]) rfl (ParsePost.bad HPN.out ?_)
                  exact below3 HB.out hb3 _ _ _
            · obtain ⟨m, rfl⟩ : ∃ m : Nat, n = (m : Int) := ⟨n.toNat, by omega⟩
              have hmr : m < rr.length := by omega
              have hms : c + 1 + m < s.size := by omega
              have hb10r : rr[m]? = some 10 := by
                have h : ¬ rr[(m : Int).toNat]? ≠ some 10 := fun h => hbad (.inr (.inr h))
                rwa [Int.toNat_natCast, Ne, Decidable.not_not] at h
              have hb10' : (((s[c + 1 + m]'hms).toNat : Int) != 10) = false := by
                rw [a3, List.getElem?_drop] at hb10r
                have h5 : c + 1 + m < s.data.toList.length := by rw [← Lib.size_eq]; exact hms
                rw [List.getElem?_eq_getElem h5] at hb10r
                have h6 : s.data.toList[c + 1 + m] = s[c + 1 + m]'hms := rfl
                rw [h6] at hb10r
                injection hb10r with h7
                rw [h7]; rfl
              have hX : s.extract (c + 1) (c + 1 + m) = S (rr.take m) := by rw [ext_take, a3]
              have HX := Lib.hid hX
              have HPU := Lib.hid (fun (w2 : World) (v' : Value) => HS.out.push (a' := c + 2 + m) (w2 := w2) (v' := v') hlt (by rw [HL.out]; exact hL10) hcc hnn hmr hb10r (by omega))
              have hcm : c + 2 + m ≤ s.size := by omega
              clear a1 a2 a3 a4 hce hcc hus hnn h10' hbad hX hb10r
              go_wp2_with (first | (go_at_call 40; refine (hf3.out _).mono ?_; rintro e w2 ⟨rfl, rfl⟩) | (go_at_call 41; refine (HI2.out _).mono ?_; rintro e w2 ⟨rfl, hb2⟩; refine Hid.out ?_))
              have hb4 := HS.out.below.trans (hb2.mono HS.out.below.size)
              have hown1 := HO.out.kept (w' := w2) (row := none) ⟨hb2.os, hb2.tape, hb2.output, hb2.size, fun i hi _ => hb2.block i hi⟩ (by rcases HO.out.2 with ⟨hv, _⟩ | ⟨g, cap, cur, hv, _⟩ <;> rw [hv] <;> simp [Value.ownBlock])
              have HB4 := Lib.hid hb4
              have hbs2 := hb4.size
              clear hb4
              refine Lib.hid ?_
              go_wp2_with (at_builtin; rw [HX.out]; refine wpList_append_own _ rfl (.tmp 102) (.tmp 111) 22 rfl W1.heap.size 9 i0 (.string ⟨#[]⟩) 1 16 Tryz.underlying22 hi0 hz0 hz1 hz2 rfl (by decide) _ L (strV l) rfl (hown1.alloc _) ⟨w2.heap.size, 0, none⟩ 1 1 [.string (S (rr.take m))] rfl rfl (cell_one_new _ _ _) (by simp [Value.oneCell']) (by unfold maxLen; omega) (by omega) (by simp; omega) ?_; intro v' w3 hown2 hg2 _; refine Hid.out ?_)
              have hb3 := (HB4.out.alloc HB4.out.size (.cells #[.string (S (rr.take m))] 9)).grown hg2 (by simp; omega) (fun q hq => (hown1.lt q hq).1)
              have hst2 := HPU.out w3 v' (by rw [HL.out]; exact hown2) hb3
              refine Lib.hid ?_
              clear hown2 hg2 hown1 hb2
              go_wp2
              go_roundw
              case rel => exact ⟨_, c + 2 + m, by go_num, hst2⟩
              case measure => simp [intOf]; omega
    · have HPD := Lib.hid (HPS.out l (HS.out.done (by omega)))
      have hd : decide ((a : Int) < (s.size : Int)) = false := by simp; omega
      obtain ⟨r0, r1, r2, rf⟩ := Three.of ((HS.out.below.block w1.heap.size (by rw [HZ1.out]; omega)).trans HK3.out)
      have hne : w.heap.size ≠ w1.heap.size := by omega
      go_wp2
      refine bodyPost_ret (v := .tuple #[.agg #[.int .i64 id, .string (S y), .slice va L vcap], .bool true]) (by simp [results, Tryz.results27, go_sem, *]) rfl (ParsePost.good HPD.out ?_ ?_)
      · refine ⟨va, vcap, by rw [List.length_map, HL.out], ?_, ?_⟩
        · intro ad had
          subst had
          have := (HO.out.lt ad.block rfl).1
          have := HZ1.out
          omega
        have hz1 := HZ1.out
        exact RdS.of_own (ownsRow_setCell_below (ownsRow_setCell_below (ownsRow_setCell_below (ownsRow_setCell_below HO.out (a := ⟨w1.heap.size, 2, none⟩) (by show w1.heap.size < W1.heap.size; omega) _) (a := ⟨w.heap.size, 0, none⟩) (by show w.heap.size < W1.heap.size; omega) _) (a := ⟨w.heap.size, 1, none⟩) (by show w.heap.size < W1.heap.size; omega) _) (a := ⟨w.heap.size, 2, none⟩) (by show w.heap.size < W1.heap.size; omega) _)
      · exact ((((HB.out.trans (HBW.out.mono HB.out.size)).setCell (p := ⟨w1.heap.size, 2, none⟩) (by show w.heap.size ≤ w1.heap.size; omega) _).setCell (Nat.le_refl _) _).setCell (Nat.le_refl _) _).setCell (Nat.le_refl _) _

theorem parseR_any (s : ByteArray) (hs : s.size ≤ 90000000) (w : World) : Calls Tryz.prog 27 #[.string s] w (ParsePost s.data.toList w) := by
  cases h : cutB 32 s.data.toList with
  | none => exact parseR_none1 s hs h w
  | some p =>
    obtain ⟨x, r⟩ := p
    cases hn : num? x with
    | none => exact parseR_none234 s hs x r h (.inl hn) w
    | some id =>
      cases hc : cutB 10 r with
      | none => exact parseR_none234 s hs x r h (.inr (.inl hc)) w
      | some p =>
        obtain ⟨y, q⟩ := p
        cases hv : validM y with
        | true => exact parseR_args s hs x r y q id h hn hc hv w
        | false => exact parseR_none234 s hs x r h (.inr (.inr ⟨y, q, hc, hv⟩)) w

theorem headerR_any (s : ByteArray) (hs : s.size ≤ 90000000) (w : World) :
    Calls Tryz.prog 26 #[.string s] w fun e w' => e = .returned (.tuple #[.int .i64 (refH s.data.toList).1, .int .i64 (refH s.data.toList).2]) ∧ w = w' := by
  by_cases h16 : s.size < 16
  · exact headerR_short s h16 w
  · cases hp : pre.isPrefixOf s.data.toList with
    | true => exact headerR_yes s (by omega) (by omega) hp w
    | false => exact headerR_not s (by omega) (by omega) hp w
end Go.Proofs.YthooajbhiikbfaaGreatDoor
