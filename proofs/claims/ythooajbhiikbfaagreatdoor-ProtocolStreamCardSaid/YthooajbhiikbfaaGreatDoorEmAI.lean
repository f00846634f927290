/- A part of the proofs of the statements of emendatelaw55 (layer protocol): the calls that awake makes. Conditions: those that stand in each theorem, no other. -/
import Derived.Test.YthooajbhiikbfaaGreatDoorEmAH
import Derived.Test.YthooajbhiikbfaaGreatDoorEmRM
namespace Go.Proofs.YthooajbhiikbfaaGreatDoor
open Go Go.RowKit Em

theorem RdS.one {X : World} {k : Nat} {s : ByteArray} (h : X.cell? ⟨k, 0, none⟩ = some (.string s)) (hk : k < X.heap.size) : RdS X X.heap.size (some ⟨k, 0, none⟩) [s] := by
  intro i t ht
  cases i with
  | zero =>
    simp only [List.getElem?_cons_zero, Option.some.injEq] at ht
    subst ht
    exact ⟨_, rfl, hk, by simpa [Addr.add] using h⟩
  | succ i => simp at ht
theorem three_keep {X Y : World} {b : Nat} {c0 c1 c2 : Value} (h : X.heap[b]? = some (.cells #[c0, c1, c2] 24 (0, 0))) (hb : Below X.heap.size X Y) : Three Y b c0 c1 c2 := by
  have hlt : b < X.heap.size := by
    rcases Nat.lt_or_ge b X.heap.size with h' | h'
    · exact h'
    · rw [Array.getElem?_eq_none h'] at h; cases h
  exact Three.of ((hb.block b hlt).trans h)

theorem undo_encVal : encVal undoM = .tuple #[.string ⟨#[67, 111, 110, 116, 101, 110, 116, 45, 76, 101, 110, 103, 116, 104, 58, 32, 49, 49, 13, 10, 13, 10, 55, 32, 117, 110, 100, 111, 10, 49, 58, 48, 10]⟩, .int .i64 0] := by
  unfold encVal
  rw [undo_valid, undo_enc]
  rfl

theorem enc9 (k : Nat) (W : World) (hE : Env W) (hc : W.cell? ⟨k, 0, none⟩ = some (.string ⟨#[48]⟩)) (hk : k < W.heap.size) :
    Calls Tryz.prog 10 #[.agg #[.int .i64 7, .string ⟨#[117, 110, 100, 111]⟩, .slice (some ⟨k, 0, none⟩) 1 1]] W fun e w' =>
      e = .returned (.tuple #[.string ⟨#[67, 111, 110, 116, 101, 110, 116, 45, 76, 101, 110, 103, 116, 104, 58, 32, 49, 49, 13, 10, 13, 10, 55, 32, 117, 110, 100, 111, 10, 49, 58, 48, 10]⟩, .int .i64 0]) ∧ Below W.heap.size W w' := by
  have h := encode_any 7 ⟨#[117, 110, 100, 111]⟩ (some ⟨k, 0, none⟩) 1 [⟨#[48]⟩] W hE (by unfold inR; omega) (by decide) (by decide) (RdS.one hc hk) (by intro s hs; simp at hs; subst hs; decide)
  rw [show msgOf 7 ⟨#[117, 110, 100, 111]⟩ [⟨#[48]⟩] = undoM from rfl, undo_encVal] at h
  exact h

theorem dc1 (W : World) (hE : Env W) : Calls Tryz.prog 12 #[.string ⟨#[67, 111, 110, 116, 101, 110, 116, 45, 76, 101, 110, 103, 116, 104, 58, 32, 49, 49, 13, 10, 13, 10, 55, 32, 117, 110, 100, 111, 10, 49, 58, 48, 10, 109, 111, 114, 101]⟩] W fun e w' =>
    (∃ A c, e = .returned (.tuple #[.agg #[.int .i64 7, .string ⟨#[117, 110, 100, 111]⟩, .slice A 1 c], .int .i64 33, .int .i64 0]) ∧ RdS w' w'.heap.size A [⟨#[48]⟩]) ∧ Below W.heap.size W w' := by
  refine (decode_any _ (by decide) W hE).mono ?_
  intro e w' h
  unfold DecPost at h
  rw [show (⟨#[67, 111, 110, 116, 101, 110, 116, 45, 76, 101, 110, 103, 116, 104, 58, 32, 49, 49, 13, 10, 13, 10, 55, 32, 117, 110, 100, 111, 10, 49, 58, 48, 10, 109, 111, 114, 101]⟩ : ByteArray).data.toList = [67, 111, 110, 116, 101, 110, 116, 45, 76, 101, 110, 103, 116, 104, 58, 32, 49, 49, 13, 10, 13, 10, 55, 32, 117, 110, 100, 111, 10, 49, 58, 48, 10] ++ [109, 111, 114, 101] from rfl, dec_c1] at h
  obtain ⟨v, rfl, ⟨A, c, rfl, -, hr⟩, hb⟩ := h
  exact ⟨⟨A, c, rfl, hr⟩, hb⟩

theorem dc2 (W : World) (hE : Env W) : Calls Tryz.prog 12 #[.string ⟨#[67, 111, 110, 116, 101, 110, 116, 45, 76, 101, 110, 103, 116, 104, 58, 32, 49, 49, 13, 10, 13, 10, 55, 32, 117, 110, 100, 111, 10, 49, 58, 48]⟩] W fun e w' =>
    e = .returned (.tuple #[.agg #[.int .i64 0, .string ⟨#[]⟩, .slice none 0 0], .int .i64 0, .int .i64 6]) ∧ Below W.heap.size W w' := by
  refine (decode_any _ (by decide) W hE).mono ?_
  intro e w' h
  unfold DecPost at h
  rw [show (⟨#[67, 111, 110, 116, 101, 110, 116, 45, 76, 101, 110, 103, 116, 104, 58, 32, 49, 49, 13, 10, 13, 10, 55, 32, 117, 110, 100, 111, 10, 49, 58, 48]⟩ : ByteArray).data.toList = [67, 111, 110, 116, 101, 110, 116, 45, 76, 101, 110, 103, 116, 104, 58, 32, 49, 49, 13, 10, 13, 10, 55, 32, 117, 110, 100, 111, 10, 49, 58, 48] from rfl, dec_c2] at h
  exact h

theorem dc3 (W : World) (hE : Env W) : Calls Tryz.prog 12 #[.string ⟨#[99, 111, 110, 116, 101, 110, 116]⟩] W fun e w' =>
    e = .returned (.tuple #[.agg #[.int .i64 0, .string ⟨#[]⟩, .slice none 0 0], .int .i64 0, .int .i64 7]) ∧ Below W.heap.size W w' := by
  refine (decode_any _ (by decide) W hE).mono ?_
  intro e w' h
  unfold DecPost at h
  rw [show (⟨#[99, 111, 110, 116, 101, 110, 116]⟩ : ByteArray).data.toList = [99, 111, 110, 116, 101, 110, 116] from rfl, dec_c3] at h
  exact h

theorem same_c (id : Int) (m s : ByteArray) (A A' : Option Addr) (c c' : Nat) (w : World) (hr : RdS w w.heap.size A [s]) (hr' : RdS w w.heap.size A' [s]) :
    Calls Tryz.prog 14 #[.agg #[.int .i64 id, .string m, .slice A 1 c], .agg #[.int .i64 id, .string m, .slice A' 1 c']] w fun e w' => e = .returned (.bool true) ∧ Below w.heap.size w w' :=
  same_true id m A A' c c' [s] w (by simp) hr hr'
end Go.Proofs.YthooajbhiikbfaaGreatDoor
