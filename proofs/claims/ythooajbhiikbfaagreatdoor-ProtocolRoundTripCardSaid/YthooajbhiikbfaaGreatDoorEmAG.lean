/- A part of the proofs of the statements of emendatelaw55 (layer protocol): run of undo with a workspace. Conditions: those that stand in each theorem, no other. -/
import Derived.Test.YthooajbhiikbfaaGreatDoorEmAF
import Derived.Deep.RegionWith
import Derived.Deep.Cut
namespace Go.Proofs.YthooajbhiikbfaaGreatDoor
open Go Go.RowKit Em

theorem requests_g (W : World) : Calls Tryz.prog 42 #[] W fun e w' => ∃ m g a, e = .returned (.map (some m)) ∧ Below W.heap.size W w' ∧
    (∀ X, Below w'.heap.size w' X → (Instr.lookup 88 (.map (some m)) (.string ⟨#[117, 110, 100, 111]⟩) true).run Tryz.prog X = .ok (.tuple #[.agg #[.int .i64 1, .bool false, .func (.func 73) #[] #[.pointer (some ⟨g, 0, none⟩)]], .bool true]) X) ∧
    w'.cell? ⟨g, 0, none⟩ = some (.func (.func 53) #[] #[.pointer (some ⟨a, 0, none⟩)]) ∧ w'.cell? ⟨a, 0, none⟩ = some (.int .i64 3) ∧ W.heap.size ≤ g ∧ W.heap.size ≤ a ∧ g < w'.heap.size ∧ a < w'.heap.size := by
  refine (requests_f W).mono ?_
  rintro e w' ⟨v, D, rfl, ⟨a, g, rfl, hg, ha, hal, hgl, hao, hgo⟩, hM, hat, hh⟩
  exact ⟨W.heap.size, g, a, rfl, hM.bel, fun X hX => look_undo (hM.below hX) hat hh, hg, ha, by omega, by omega, hgl, hal⟩

/-- behind the entry's store -/
def RunR (W0 wx : World) (q g a : Nat) : Prop :=
  Below W0.heap.size W0 wx ∧ wx.cell? ⟨q, 0, none⟩ = some (.int .i64 1) ∧ wx.cell? ⟨q, 1, none⟩ = some (.bool false) ∧ wx.cell? ⟨q, 2, none⟩ = some (.func (.func 73) #[] #[.pointer (some ⟨g, 0, none⟩)]) ∧
  wx.cell? ⟨g, 0, none⟩ = some (.func (.func 53) #[] #[.pointer (some ⟨a, 0, none⟩)]) ∧ wx.cell? ⟨a, 0, none⟩ = some (.int .i64 3) ∧ q < wx.heap.size ∧ g < wx.heap.size ∧ a < wx.heap.size

theorem RunR.below {W0 wx wy : World} {q g a : Nat} (h : RunR W0 wx q g a) (hb : Below wx.heap.size wx wy) : RunR W0 wy q g a := by
  obtain ⟨h1, h2, h3, h4, h5, h6, h7, h8, h9⟩ := h
  have := hb.size
  exact ⟨h1.trans (hb.mono h1.size), (hb.cell h7).trans h2, (hb.cell h7).trans h3, (hb.cell h7).trans h4, (hb.cell h8).trans h5, (hb.cell h9).trans h6, by omega, by omega, by omega⟩

/-- the entry's cells made behind the call -/
theorem RunR.after {W0 wn : World} {g a : Nat} (hb : Below W0.heap.size W0 wn) (hg : wn.cell? ⟨g, 0, none⟩ = some (.func (.func 53) #[] #[.pointer (some ⟨a, 0, none⟩)])) (ha : wn.cell? ⟨a, 0, none⟩ = some (.int .i64 3))
    (hgl : g < wn.heap.size) (hal : a < wn.heap.size) : RunR W0 (wn.alloc (.cells #[.int .i64 1, .bool false, .func (.func 73) #[] #[.pointer (some ⟨g, 0, none⟩)]] 86)) wn.heap.size g a := by
  have hx : Below wn.heap.size wn (wn.alloc (.cells #[.int .i64 1, .bool false, .func (.func 73) #[] #[.pointer (some ⟨g, 0, none⟩)]] 86)) := (Below.refl _ _).alloc (Nat.le_refl _) _
  refine ⟨hb.alloc hb.size _, cell_of_row _ _ 0 _ 86 (0, 0) (heap_alloc_new _ _), cell_of_row _ _ 1 _ 86 (0, 0) (heap_alloc_new _ _), cell_of_row _ _ 2 _ 86 (0, 0) (heap_alloc_new _ _), (hx.cell hgl).trans hg, (hx.cell hal).trans ha, ?_, ?_, ?_⟩
  all_goals (simp; try omega)

theorem set3_same {X : World} {b : Nat} {u0 u1 u2 : Value} (h : Three X b u0 u1 u2) (x y z : Value) :
    (((X.setCell ⟨b, 0, none⟩ x).setCell ⟨b, 1, none⟩ y).setCell ⟨b, 2, none⟩ z).cell? ⟨b, 0, none⟩ = some x ∧
    (((X.setCell ⟨b, 0, none⟩ x).setCell ⟨b, 1, none⟩ y).setCell ⟨b, 2, none⟩ z).cell? ⟨b, 1, none⟩ = some y ∧
    (((X.setCell ⟨b, 0, none⟩ x).setCell ⟨b, 1, none⟩ y).setCell ⟨b, 2, none⟩ z).cell? ⟨b, 2, none⟩ = some z := by
  obtain ⟨h0, h1, h2, -⟩ := h
  have n : ∀ i j : Nat, i ≠ j → (⟨b, i, none⟩ : Addr) ≠ ⟨b, j, none⟩ := fun i j hij e => hij (by injection e)
  refine ⟨?_, ?_, ?_⟩
  · rw [World.cell?_setCell_other _ _ _ _ (n 2 0 (by decide)), World.cell?_setCell_other _ _ _ _ (n 1 0 (by decide))]
    exact World.cell?_setCell_same _ _ _ h0
  · rw [World.cell?_setCell_other _ _ _ _ (n 2 1 (by decide))]
    exact World.cell?_setCell_same _ _ _ ((World.cell?_setCell_other _ _ _ _ (n 0 1 (by decide))).trans h1)
  · exact World.cell?_setCell_same _ _ _ ((World.cell?_setCell_other _ _ _ _ (n 1 2 (by decide))).trans ((World.cell?_setCell_other _ _ _ _ (n 0 2 (by decide))).trans h2))

/-- the entry's cells made ahead of the call -/
theorem RunR.before {W0 wn : World} {q g a : Nat} {u0 u1 u2 : Value} (hb : Below W0.heap.size W0 wn) (hg : wn.cell? ⟨g, 0, none⟩ = some (.func (.func 53) #[] #[.pointer (some ⟨a, 0, none⟩)])) (ha : wn.cell? ⟨a, 0, none⟩ = some (.int .i64 3))
    (hgl : g < wn.heap.size) (hal : a < wn.heap.size) (hq : Three wn q u0 u1 u2) (hq0 : W0.heap.size ≤ q) (hqg : q < g) (hqa : q < a) :
    RunR W0 (((wn.setCell ⟨q, 0, none⟩ (.int .i64 1)).setCell ⟨q, 1, none⟩ (.bool false)).setCell ⟨q, 2, none⟩ (.func (.func 73) #[] #[.pointer (some ⟨g, 0, none⟩)])) q g a := by
  obtain ⟨s0, s1, s2⟩ := set3_same hq (.int .i64 1) (.bool false) (.func (.func 73) #[] #[.pointer (some ⟨g, 0, none⟩)])
  refine ⟨((hb.setCell hq0 _).setCell hq0 _).setCell hq0 _, s0, s1, s2, ?_, ?_, ?_, ?_, ?_⟩
  · rw [cell3 _ _ _ _ _ _ (by simp; omega)]; exact hg
  · rw [cell3 _ _ _ _ _ _ (by simp; omega)]; exact ha
  all_goals (simp; try omega)

theorem own_zero {w : World} {B n : Nat} {v : Value} (h : w.ownsRow B 3 1 v n [.int .i64 0]) : ∃ g c, v = .slice (some ⟨g, 0, none⟩) 1 c ∧ Zero1 w ⟨g, 0, none⟩ := by
  obtain ⟨hl, h | ⟨g, cap, cur, rfl, hb, hg, hn, hm, hc, ht⟩⟩ := h
  · obtain ⟨-, rfl⟩ := h
    simp at hl
  · have hn1 : n = 1 := by simp at hl; omega
    subst hn1
    have h0 : cur[0]? = some (.int .i64 0) := by
      have := congrArg (fun l => l[0]?) ht
      simpa using this
    have hc0 : w.cell? ⟨g, 0, none⟩ = some (.int .i64 0) := (cell_of_row w g 0 _ 3 (0, 0) hg).trans h0
    refine ⟨g, cap, rfl, hc0, ?_⟩
    rcases Nat.lt_or_ge g w.heap.size with h' | h'
    · exact h'
    · rw [Array.getElem?_eq_none h'] at hg; cases hg

set_option maxRecDepth 100000 in
set_option maxHeartbeats 2000000 in
theorem run_undo (b : Nat) (v : Value) (ad : Addr) (c : Nat) (w : World) (hE : Env w) (hW : Ws w b v) (hA : w.cell? ad = some (.string ⟨#[48]⟩)) (hal : ad.block < w.heap.size) :
    Calls Tryz.prog 29 #[.pointer (some ⟨b, 0, none⟩), .agg #[.int .i64 7, .string ⟨#[117, 110, 100, 111]⟩, .slice (some ad) 1 c]] w fun e w' => (∃ v, e = .returned (.tuple #[v, .int .i64 15])) ∧ Below w.heap.size w w' := by
  obtain ⟨i0, hi0, hz0, hz1, hz2⟩ := info_parts int_info
  obtain ⟨W0, hW0⟩ : ∃ W0 : World, w.alloc (.cells #[.int .i64 7, .string ⟨#[117, 110, 100, 111]⟩, .slice (some ad) 1 c] 24) = W0 := ⟨_, rfl⟩
  have HB := Lib.hid (show Below w.heap.size w W0 by rw [← hW0]; exact (Below.refl _ _).alloc (Nat.le_refl _) _)
  have HZ := Lib.hid (show W0.heap.size = w.heap.size + 1 by rw [← hW0]; simp)
  have HT := Lib.hid (show ∀ X, Below W0.heap.size W0 X → Three X w.heap.size (.int .i64 7) (.string ⟨#[117, 110, 100, 111]⟩) (.slice (some ad) 1 c) from fun X hb =>
    Three.of ((hb.block w.heap.size (by rw [HZ.out]; omega)).trans (by rw [← hW0]; exact heap_alloc_new w _)))
  have HWs := Lib.hid (show ∀ X, Below W0.heap.size W0 X → Ws X b v from fun X hb => (hW.below HB.out).below hb)
  have HA := Lib.hid (show ∀ X, Below W0.heap.size W0 X → X.cell? ad = some (.string ⟨#[48]⟩) from fun X hb => (hb.cell (Nat.lt_of_lt_of_le hal HB.out.size)).trans ((HB.out.cell hal).trans hA))
  have HEn := Lib.hid (show ∀ X, Below W0.heap.size W0 X → Env X from fun X hb => (hE.below HB.out).below hb)
  have HW := Lib.hid hW0
  clear hW0 hE hW hA hal
  have hsf := fun W a f x y => run_store_fn Tryz.prog W a f x y
  go_enter Tryz.func29, Tryz.ntmps29
  go_upto_region 3 with fail
  rw [HW.out]
  go_cut [6, 7] (fun q k wx => ∃ qn g a, q = .pointer (some ⟨qn, 0, none⟩) ∧ k = .bool true ∧ RunR W0 wx qn g a)
  case first =>
    obtain ⟨t0, t1, t2, -⟩ := HT.out W0.drew ((Below.refl _ _).drew)
    obtain ⟨x0, x1, x2, -⟩ := HT.out (W0.drew.alloc (.cells #[.int .i64 0, .bool false, .nilFunc] 86)) ((Below.refl _ _).drew.alloc (Nat.le_refl _) _)
    obtain ⟨z0, z1, z2, -⟩ := HT.out W0 (Below.refl _ _)
    have hne0 : w.heap.size ≠ W0.heap.size := by rw [HZ.out]; omega
    have hne1 : W0.heap.size ≠ w.heap.size := by rw [HZ.out]; omega
    have hne2 : w.heap.size < W0.heap.size := by rw [HZ.out]; omega
    go_region_with (go_at_call 42; refine (requests_g _).mono ?_; rintro e wn ⟨m, g, a, rfl, hbw, hl, hg, ha, hgo, hao, hgl, hal⟩; have hbW : Below W0.heap.size W0 wn := (by first | exact (Below.refl _ _).drew.trans hbw | exact ((Below.refl _ _).drew.alloc (Nat.le_refl _) _).trans (hbw.mono (by simp))); have l1 := hl wn (Below.refl _ _); have l2 := hl (wn.alloc (.cells #[.int .i64 0, .bool false, .nilFunc] 86)) ((Below.refl _ _).alloc (Nat.le_refl _) _); obtain ⟨s0, s1, s2, -⟩ := HT.out wn hbW; obtain ⟨y0, y1, y2, -⟩ := HT.out (wn.alloc (.cells #[.int .i64 0, .bool false, .nilFunc] 86)) (hbW.alloc hbW.size _); first | (have hq := Three.of ((hbw.block W0.heap.size (by simp)).trans (heap_alloc_new W0.drew _)); obtain ⟨q0, q1, q2, qf⟩ := hq) | skip)
    all_goals (go_wp2_with fail; go_meet)
    all_goals first
      | exact ⟨_, g, a, rfl, rfl, RunR.after hbW hg ha hgl hal⟩
      | exact ⟨_, g, a, rfl, rfl, RunR.before hbW hg ha hgl hal (Three.of ((hbw.block _ (by simp)).trans (heap_alloc_new _ _))) (Nat.le_refl _) (by simp at hgo; omega) (by simp at hao; omega)⟩
  case rest =>
    obtain ⟨qn, g, a, rfl, rfl, hR⟩ := hcut
    have HR := Lib.hid hR
    obtain ⟨hb, q0, q1, q2, -, -, hql, hgl, hal⟩ := hR
    obtain ⟨t0, t1, t2, -⟩ := HT.out _ hb
    have hA := HA.out _ hb
    have HD := Lib.hid (fun W (hb : Below W0.heap.size W0 W) => decimal0 W (HEn.out W hb))
    clear hA t0 t1 t2 hb q0 q1 q2 hql hgl hal
    obtain ⟨t0, t1, t2, -⟩ := HT.out _ HR.out.1
    obtain ⟨-, q0, q1, q2, -, -, hql, hgl, hal⟩ := HR.out
    go_wp2
    go_loopw [10, 51] (fun nv i wr => (i = .int .i64 0 ∧ nv = .slice none 0 0 ∧ RunR W0 wr qn g a) ∨ (i = .int .i64 1 ∧ (∃ ad2 c2, nv = .slice (some ad2) 1 c2 ∧ Zero1 wr ad2) ∧ RunR W0 wr qn g a)) (fun _ i _ => 1 - (intOf i).toNat)
    case atStart => exact .inl ⟨rfl, rfl, HR.out⟩
    case round =>
      rcases hrel with ⟨rfl, rfl, hR⟩ | ⟨rfl, ⟨ad2, c2, rfl, hz⟩, hR⟩
      · have hA1 := HA.out _ hR.1
        have hA2 : wr.cell? (ad.add 0) = some (.string ⟨#[48]⟩) := by simpa [Addr.add] using hA1
        have HR2 := Lib.hid hR
        clear hR q0 q1 q2 hql hgl hal
        go_wp2_with (go_at_call 36; refine (HD.out _ HR2.out.1).mono ?_; rintro e w1 ⟨rfl, hb1⟩; refine Hid.out ?_)
        have HR3 := Lib.hid (HR2.out.below hb1)
        have hle : W0.heap.size ≤ w1.heap.size := HR3.out.1.size
        clear hb1 hA1 hA2
        refine Lib.hid ?_
        go_wp2_with (at_builtin; refine wpList_append_own _ rfl (.tmp 62) (.tmp 64) 90 rfl W0.heap.size 3 i0 (.int .i64 0) 1 8 Tryz.underlying90 hi0 hz0 hz1 hz2 rfl (by decide) _ 0 [] rfl (World.ownsRow_nil _ _ _ _) ⟨w1.heap.size, 0, none⟩ 1 1 [.int .i64 0] rfl rfl (cell_one_new _ _ _) (by simp [Value.oneCell']) (by unfold maxLen; omega) (by omega) (by simp; omega) ?_; intro v' w2 hown2 hg2 _; refine Hid.out ?_)
        have hx : Below w1.heap.size w1 w2 := ((Below.refl w1.heap.size w1).alloc (Nat.le_refl _) (.cells #[.int .i64 0] 3)).grown hg2 (by simp) (fun k hk => by have hk' : (none : Option Nat) = some k := hk; cases hk')
        have HR4 := Lib.hid (HR3.out.below hx)
        obtain ⟨g2, c2, rfl, hz⟩ : ∃ g2 c2, v' = .slice (some ⟨g2, 0, none⟩) 1 c2 ∧ Zero1 w2 ⟨g2, 0, none⟩ := own_zero hown2
        have HZ2 := Lib.hid hz
        clear hown2 hg2 hx hz
        refine Lib.hid ?_
        go_wp2
        go_roundw
        case rel => exact .inr ⟨by go_num, ⟨_, _, rfl, HZ2.out⟩, HR4.out⟩
        case measure => simp [intOf]
      · have HR2 := Lib.hid hR
        obtain ⟨hb, q0, q1, q2, hg, ha, hql, hgl, hal⟩ := hR
        have HRun := Lib.hid (run_ev b v a g ad2 c2 ⟨#[]⟩ wr (HEn.out _ hb) (HWs.out _ hb) hz ha hal hg)
        clear hb hg ha hz
        go_wp2_with (go_at_call 73; refine HRun.out.mono ?_; rintro e w9 ⟨⟨v9, rfl⟩, hb9⟩)
        refine bodyPost_ret (v := .tuple #[v9, .int .i64 15]) (by simp [results, Tryz.results29, go_sem, *]) rfl ⟨⟨_, rfl⟩, ?_⟩
        exact HB.out.trans ((HR2.out.1.trans (hb9.mono HR2.out.1.size)).mono HB.out.size)
end Go.Proofs.YthooajbhiikbfaaGreatDoor
