/- A part of the proofs of the statements of emendatelaw55 (layer protocol): a message among the arguments is opened. Conditions: those that stand in each theorem, no other. -/
import Derived.Test.YthooajbhiikbfaaGreatDoorEmC
import Derived.Deep.Slices
import Derived.Deep.Strs
import Derived.Deep.Fields
import Derived.Lib.SmallJoins
import Derived.SliceStrings
import Derived.SizedLaws
namespace Go.Proofs.YthooajbhiikbfaaGreatDoor
open Go Go.RowKit Go.ChangeShapes Go.WideShapes Go.Deep Em

theorem cell_lt {w : World} {p : Addr} {v : Value} (h : w.cell? p = some v) : p.block < w.heap.size := by
  rcases Nat.lt_or_ge p.block w.heap.size with h' | h'
  · exact h'
  · unfold World.cell? at h
    rw [Array.getElem?_eq_none h'] at h
    simp at h

theorem weightsAll_in {H : Type} {P : Program} {e : TypeId} : ∀ {l : List (DataW H)} {d : DataW H}, d ∈ l → ∀ n ∈ d.weights P e, n ∈ DataW.weightsAll P e l
  | d' :: r, d, hd, n, hn => by
    simp only [DataW.weightsAll, List.mem_append]
    rcases List.mem_cons.1 hd with rfl | h
    · exact Or.inl hn
    · exact Or.inr (weightsAll_in h n hn)

section
variable {H : Type} {enc : TypeId × Value → H} {P : Program} {w : World} {base : Nat} {spare : Nat → Bool} {held : Bool}

/-- a message among the arguments -/
theorem open_msg {t te : TypeId} {f0 f1 f2 : Field} (hs : P.underlying t = some (.struct #[f0, f1, f2])) (hone : oneCellFields P #[f0, f1, f2] = true) (hC : P.cellsOf t = 3)
    (h0 : P.underlying f0.type = some (.int .i64)) (h1 : P.underlying f1.type = some .string) (h2 : P.underlying f2.type = some (.slice te)) (he : P.underlying te = some .string) (hce : P.cellsOf te = 1)
    (hbe : P.bytesOf te = 16) {fuel : Nat} {cs : List Value} {x : DataW H × List MemPlace} (h : DataW.trod enc P w base spare held fuel t cs = some x) (hw : ∀ n ∈ x.1.weights P t, n ≤ reachBytes) :
    ∃ (id : Int) (m : ByteArray) (A : Option Addr) (c : Nat) (ss : List ByteArray), cs = [.int .i64 id, .string m, .slice A ss.length c] ∧ inR id ∧ m.size ≤ reachBytes ∧ RdS w w.heap.size A ss ∧ (∀ s ∈ ss, s.size ≤ reachBytes) ∧ ss.length * 16 ≤ reachBytes := by
  obtain ⟨y0, y1, y2, n, rfl, hl, g0, g1, g2⟩ := trod_struct3 hs h
  obtain ⟨o0, k0⟩ := hone_of hone 0 f0 rfl
  obtain ⟨o1, k1⟩ := hone_of hone 1 f1 rfl
  obtain ⟨o2, k2⟩ := hone_of hone 2 f2 rfl
  rw [hC] at hl
  match cs, hl with
  | [c0, c1, c2], _ =>
    rw [o0, k0] at g0
    rw [o1, k1] at g1
    rw [o2, k2] at g2
    obtain ⟨id, e0, rfl, wa⟩ := DataW.trod_int h0 g0
    obtain ⟨m, e1, rfl, wm⟩ := DataW.trod_string h1 g1
    have hwt : ∀ n ∈ DataW.weightsEach P [f0.type, f1.type, f2.type] [(DataW.lit (.int .i64 id) : DataW H), .lit (.string m.data.toList), y2.1], n ≤ reachBytes := by
      intro n hn
      refine hw n ?_
      simpa [DataW.weights, hs] using hn
    have hms : m.size ≤ reachBytes := hwt m.size (by rw [Lib.size_eq]; simp only [DataW.weightsEach, DataW.weights, List.nil_append, List.mem_append, List.mem_singleton, true_or])
    have hid : inR id := by
      have e1 : IntKind.i64.min = -9223372036854775808 := rfl
      have e2 : IntKind.i64.max = 9223372036854775807 := rfl
      simp [Lit.wf, e1, e2] at wa
      exact wa
    have e0' : c0 = .int .i64 id := by simpa using e0
    have e1' : c1 = .string m := by simpa using e1
    subst e0'; subst e1'
    rcases open_strings h2 he hce g2 with ⟨e2, rfl⟩ | ⟨a, len, cap, ss, e2, hb, hl, hm, hz, rfl, hcell, hsz⟩
    · have e2' : c2 = .slice none 0 0 := by simpa using e2
      subst e2'
      exact ⟨id, m, none, 0, [], rfl, hid, hms, RdS.nil _ _ _, by simp, by simp⟩
    · have e2' : c2 = .slice (some a) len cap := by simpa using e2
      subst e2'
      have hle : len ≤ ss.length := by rw [hz]; split <;> omega
      have hlen : (ss.take len).length = len := by simp [hle]
      refine ⟨id, m, some a, cap, ss.take len, by rw [hlen], hid, hms, ?_, ?_, ?_⟩
      · intro k s hk
        have hkl : k < len := by
          have := (List.getElem?_eq_some_iff.1 hk).1
          simp at this
          omega
        rw [List.getElem?_take_of_lt hkl] at hk
        have hc := hcell k (by omega)
        rw [List.getD, hk] at hc
        exact ⟨a, rfl, by simpa [blk_add] using cell_lt hc, hc⟩
      · intro s hsm
        refine hwt s.size ?_
        have hin : (DataW.lit (.string s.data.toList) : DataW H) ∈ strs (ss.take len) := List.mem_map.2 ⟨s, hsm, rfl⟩
        have := weightsAll_in (P := P) (e := te) hin s.size (by rw [Lib.size_eq]; simp only [DataW.weights, List.mem_singleton])
        simp only [DataW.weightsEach, DataW.weights, h2, List.nil_append, List.mem_append, List.mem_cons, this, true_or, or_true]
      · have h5 := hwt (((strs (H := H) (ss.take len)).length + (strs (H := H) (ss.drop len)).length) * 16) (by
          simp only [DataW.weightsEach, DataW.weights, h2, hbe, List.nil_append, List.mem_append, List.mem_cons, true_or, or_true])
        have h6 : (strs (H := H) (ss.take len)).length = len := by simp [strs, hle]
        rw [h6] at h5
        rw [hlen]
        have h7 : len * 16 ≤ (len + (strs (H := H) (ss.drop len)).length) * 16 := Nat.mul_le_mul_right _ (Nat.le_add_right _ _)
        exact Nat.le_trans h7 h5
end
end Go.Proofs.YthooajbhiikbfaaGreatDoor
