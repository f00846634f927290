/- A part of the proofs of the statements of emendatelaw55 (layer protocol): the message of awake in plain words. Conditions: those that stand in each theorem, no other. -/
import Derived.Test.YthooajbhiikbfaaGreatDoorEmHdr
namespace Go.Proofs.YthooajbhiikbfaaGreatDoor
open Go Em

/-- the message of awake -/
def undoM : Msg := ⟨7, [117, 110, 100, 111], [[48]]⟩
theorem itoa7 : Lib.itoa 7 = [55] := by simp [Lib.itoa, decDigits_small]
theorem itoa1 : Lib.itoa 1 = [49] := by simp [Lib.itoa, decDigits_small]
theorem itoa11 : Lib.itoa 11 = [49, 49] := by simp [Lib.itoa, decDigits_big, decDigits_small]
theorem itoa15 : Lib.itoa 15 = [49, 53] := by simp [Lib.itoa, decDigits_big, decDigits_small]
theorem undo_body : body undoM = [55, 32, 117, 110, 100, 111, 10, 49, 58, 48, 10] := by
  simp [body, undoM, argsL, argL, itoa7, itoa1]
theorem undo_enc : encL undoM = [67, 111, 110, 116, 101, 110, 116, 45, 76, 101, 110, 103, 116, 104, 58, 32, 49, 49, 13, 10, 13, 10, 55, 32, 117, 110, 100, 111, 10, 49, 58, 48, 10] := by
  unfold encL
  rw [undo_body]
  simp [header, pre, crlf, itoa11]
theorem undo_valid : valid undoM = true := by
  unfold valid
  rw [undo_body]
  decide
theorem undo_in : inR undoM.id := by unfold undoM inR; simp
theorem dec_c1 : dec ([67, 111, 110, 116, 101, 110, 116, 45, 76, 101, 110, 103, 116, 104, 58, 32, 49, 49, 13, 10, 13, 10, 55, 32, 117, 110, 100, 111, 10, 49, 58, 48, 10] ++ [109, 111, 114, 101]) = .ok undoM 33 := by
  have := dec_enc undoM undo_valid undo_in [109, 111, 114, 101]
  rw [undo_enc] at this
  exact this
theorem dec_c2 : dec [67, 111, 110, 116, 101, 110, 116, 45, 76, 101, 110, 103, 116, 104, 58, 32, 49, 49, 13, 10, 13, 10, 55, 32, 117, 110, 100, 111, 10, 49, 58, 48] = .more := by
  have := dec_prefix undoM undo_valid 32 (by rw [undo_enc]; decide)
  rw [undo_enc] at this
  exact this
theorem dec_c3 : dec [99, 111, 110, 116, 101, 110, 116] = .bad := by
  rfl
end Go.Proofs.YthooajbhiikbfaaGreatDoor
