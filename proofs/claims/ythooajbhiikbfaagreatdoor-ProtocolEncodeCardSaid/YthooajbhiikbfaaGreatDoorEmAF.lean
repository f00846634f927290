/- A part of the proofs of the statements of emendatelaw55 (layer protocol): run without a workspace. Conditions: those that stand in each theorem, no other. -/
import Derived.Test.YthooajbhiikbfaaGreatDoorEmAE
namespace Go.Proofs.YthooajbhiikbfaaGreatDoor
open Go Go.RowKit Em
open Go.Maps (Keyed)

theorem decimal0 (w : World) (hE : Env w) : Calls Tryz.prog 36 #[.string ⟨#[48]⟩] w fun e w' => e = .returned (.tuple #[.int .i64 0, .bool true]) ∧ Below w.heap.size w w' :=
  decimal_ok ⟨#[48]⟩ 0 num?_zero (by decide) w hE

/-- the look-up, ahead -/
theorem look_undo {w W : World} {D : DataW Value} {v : Value} (h : Mp w 8 D W) (hat : ∀ z, D.atKey (.string [117, 110, 100, 111]) z = .held v) (hh : Maps.has D (.string [117, 110, 100, 111]) = true) :
    (Instr.lookup 88 (.map (some w.heap.size)) (.string ⟨#[117, 110, 100, 111]⟩) true).run Tryz.prog W = .ok (.tuple #[v, .bool true]) W := by
  have hz : (zeroValue 86).run Tryz.prog W = .ok (.agg #[.int .i64 0, .bool false, .nilFunc]) W := by
    kernel_rfl
  obtain ⟨v', ps, hrun, hv⟩ := h.own.look_ok (Maps.string_keyed under9) under88 hz (zd := .held (.agg #[.int .i64 0, .bool false, .nilFunc])) (zp := []) rfl (key9 ⟨#[117, 110, 100, 111]⟩ (by decide))
  rw [hrun]
  rw [show (⟨#[117, 110, 100, 111]⟩ : ByteArray).data.toList = [117, 110, 100, 111] from rfl, hh]
  rw [show (⟨#[117, 110, 100, 111]⟩ : ByteArray).data.toList = [117, 110, 100, 111] from rfl, hat] at hv
  unfold Rg at hv
  simp only [Option.some.injEq, Prod.mk.injEq, DataW.held.injEq] at hv
  rw [hv.1]

theorem under40 : (Tryz.prog.underlying 40).isSome = true := by kernel_rfl

set_option maxRecDepth 100000 in
set_option maxHeartbeats 400000 in
theorem run_nil (m : Value) (ss : Value) (w : World) :
    Calls Tryz.prog 29 #[.pointer none, .agg #[.int .i64 7, m, ss]] w fun e w' => e = .returned (.tuple #[.slice none 0 0, .int .i64 15]) ∧ Below w.heap.size w w' := by
  go_enter Tryz.func29, Tryz.ntmps29
  go_wp2
  refine bodyPost_ret (v := .tuple #[.slice none 0 0, .int .i64 15]) (by simp [results, Tryz.results29, go_sem, *]) rfl ⟨rfl, ?_⟩
  exact (Below.refl _ _).alloc (Nat.le_refl _) _
end Go.Proofs.YthooajbhiikbfaaGreatDoor
