/- A part of the proofs of the statements of emendatelaw55 (layer protocol): the requests. Conditions: those that stand in each theorem, no other. -/
import Derived.Test.YthooajbhiikbfaaGreatDoorEmAC
import Derived.Maps.OwnSet
import Derived.StringKeys
namespace Go.Proofs.YthooajbhiikbfaaGreatDoor
open Go Go.RowKit Em
open Go.Maps (Keyed)

/-- how an entry reads: as itself -/
def Rg (v : Value) : Option (DataW Value × List MemPlace) := some (.held v, [])

theorem wpList_insert_own {H : Type} {P : Program} (w : World) {ops : Array Oper} {rest : List Oper} {o : Oper} {a : Act} {Q : Exit → Act → World → Prop}
    (hg : o.guard = none) (m x v : Operand) (t : TypeId) (hop : o.op = Op.insert t m x v)
    (k e : TypeId) (K : Keyed P k) (ht : P.underlying t = some (.map k e)) (R : Value → Option (DataW H × List MemPlace)) (b n : Nat) (D : DataW H)
    (hm : a.eval m = .map (some b)) (hown : w.ownsMap P k R b n D) (hn : n < maxLen) (key val : Value) (kl : Lit) (hx : a.eval x = key) (hv : a.eval v = val) (hkey : keyOf P k key = some kl)
    (d : DataW H) (ps : List MemPlace) (hval : R val = some (d, ps))
    (hK : ∀ w', w'.ownsMap P k R b (n + 1) (D.put kl d) → w.grownBy w' (some b) → wpList P ops Q rest (a.put o.dst undef) w') :
    wpList P ops Q (o :: rest) a w := by
  refine wpList_plain hg fun K' hK' => ?_
  obtain ⟨w', hrun, r1, r2⟩ := hown.update K ht hn hkey hval
  unfold Oper.wp
  simp [execOp, hop, hm, hx, hv, hrun, Result.andThen]
  exact hK' _ _ (hK w' r1 r2)

theorem under88 : Tryz.prog.underlying 88 = some (.map 9 86) := by kernel_rfl
theorem under9 : Tryz.prog.underlying 9 = some .string := by kernel_rfl

/-- the map under way -/
structure Mp (w : World) (n : Nat) (D : DataW Value) (W : World) : Prop where
  own : W.ownsMap Tryz.prog 9 Rg w.heap.size n D
  bel : Below w.heap.size w W
theorem Mp.made (w : World) : Mp w 0 (.map []) (w.alloc (.map #[] 0)) := ⟨World.ownsMap_made w _ _ _, (Below.refl _ _).alloc (Nat.le_refl _) _⟩
theorem Below.grown {W W' : World} (h : Below W.heap.size W W') : W.grownBy W' none := ⟨h.os, h.tape, h.output, h.size, fun k hk _ => h.block k hk⟩
theorem Mp.below {w W W' : World} {n : Nat} {D : DataW Value} (h : Mp w n D W) (hb : Below W.heap.size W W') : Mp w n D W' :=
  ⟨h.own.kept (Below.grown hb) (by simp), h.bel.trans (hb.mono h.bel.size)⟩
theorem Mp.alloc {w W : World} {n : Nat} {D : DataW Value} (h : Mp w n D W) (o : Obj) : Mp w n D (W.alloc o) := h.below ((Below.refl _ _).alloc (Nat.le_refl _) _)
theorem Mp.insert {w W W' : World} {n n' : Nat} {D D' : DataW Value} (h : Mp w n D W) (ho : W'.ownsMap Tryz.prog 9 Rg w.heap.size n' D') (hg : W.grownBy W' (some w.heap.size)) : Mp w n' D' W' :=
  ⟨ho, h.bel.trans ⟨hg.os, hg.tape, hg.output, hg.size, fun k hk => hg.block k (Nat.lt_of_lt_of_le hk h.bel.size) (by simp; omega)⟩⟩
theorem Entry.grown {L B : Nat} {k : Int} {v : Value} {W W' : World} (h : Entry L k v W) (hg : W.grownBy W' (some B)) (hB : B < L) : Entry L k v W' := by
  obtain ⟨a, b, h1, h2, h3, h4, h5, h6, h7⟩ := h
  have hs := hg.size
  have hc : ∀ i, L ≤ i → i < W.heap.size → W'.cell? ⟨i, 0, none⟩ = W.cell? ⟨i, 0, none⟩ := by
    intro i hi hl
    have := hg.block i hl (by simp; omega)
    simp [World.cell?, this]
  exact ⟨a, b, h1, (hc _ h7 h5).trans h2, (hc _ h6 h4).trans h3, by omega, by omega, h6, h7⟩
theorem Entry.more {L L' : Nat} {k : Int} {v : Value} {W : World} (h : Entry L k v W) (hl : L' ≤ L) : Entry L' k v W := by
  obtain ⟨a, b, h1, h2, h3, h4, h5, h6, h7⟩ := h
  exact ⟨a, b, h1, h2, h3, h4, h5, by omega, by omega⟩

theorem key9 (s : ByteArray) (h : s.size ≤ 100) : keyOf Tryz.prog 9 (.string s) = some (.string s.data.toList) := WideMaps.keyOf_string_mk under9 (by unfold maxLen; omega)

theorem event_b (n : Nat) (cs : Array Value) (w : World) :
    Calls Tryz.prog 52 #[.func (.func n) #[] cs] w fun e w' => (∃ g, e = .returned (.func (.func 73) #[] #[.pointer (some ⟨g, 0, none⟩)])) ∧ Below w.heap.size w w' := by
  refine (event_f n cs w).mono ?_
  rintro e w' ⟨rfl, rfl⟩
  exact ⟨⟨_, rfl⟩, (Below.refl _ _).alloc (Nat.le_refl _) _⟩

set_option maxRecDepth 100000 in
set_option maxHeartbeats 1000000 in
theorem requests_f (w : World) :
    Calls Tryz.prog 42 #[] w fun e w' => ∃ v D, e = .returned (.map (some w.heap.size)) ∧ Entry (w.heap.size + 1) 3 v w' ∧ Mp w 8 D w' ∧ (∀ z, D.atKey (.string [117, 110, 100, 111]) z = .held v) ∧ Maps.has D (.string [117, 110, 100, 111]) = true := by
  have hmm := @run_makeMap Tryz.prog
  have hM := Mp.made w
  go_enter Tryz.func42, Tryz.ntmps42
  have K9 : Keyed Tryz.prog 9 := Maps.string_keyed under9
  go_wp2_with (first
    | (go_at_call 52; refine (event_b _ _ _).mono ?_; rintro e wn ⟨⟨g, rfl⟩, hbn⟩; have hM := Mp.below hM hbn; first | have hU := Entry.below hU hbn | skip)
    | (go_at_call 51; refine (only_f _ _).mono ?_; rintro e wn ⟨⟨v, rfl, hen⟩, hbn⟩; have hM0 := hM; have hM := Mp.below hM hbn; first | have hU := Entry.below hU hbn | have hU := Entry.more hen (show w.heap.size + 1 ≤ _ from Nat.lt_of_lt_of_le hM0.own.lt (Nat.le_refl _)))
    | (refine wpList_insert_own _ rfl _ _ _ 88 rfl 9 86 K9 under88 Rg _ _ _ rfl hM.own (by unfold maxLen; omega) _ _ _ rfl rfl (key9 _ (by decide)) _ _ rfl ?_; intro wn hown hgn; have hM := Mp.insert hM hown hgn; first | have hU := Entry.grown hU hgn (Nat.lt_succ_self _) | skip))
  go_ret
  exact ⟨rfl, _, hU, _, hM, fun _ => rfl, rfl⟩
end Go.Proofs.YthooajbhiikbfaaGreatDoor
