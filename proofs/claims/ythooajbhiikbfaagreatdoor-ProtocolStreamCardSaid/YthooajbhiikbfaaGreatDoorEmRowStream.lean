/- The law emendatelaw55.ProtocolStream returns true for every input, and its arguments read behind the call as they read before: the row, and the card that ties what the row lists to the program's text. Conditions: those that the given row prints, no other. -/
import Derived.Test.YthooajbhiikbfaaGreatDoorEmRC
import Derived.Test.YthooajbhiikbfaaGreatDoorEmRowStreamF
import Derived.Test.YthooajbhiikbfaaGreatDoorEmRS
import Derived.Test.YthooajbhiikbfaaGreatDoorTie
import Derived.Test.YthooajbhiikbfaaGreatDoorCards
import Derived.SevenTiedAt
namespace Go.Proofs.YthooajbhiikbfaaGreatDoor
open Go Go.ChangeShapes Go.WideShapes Go.ChangeAt Go.RowKit Em
open Go.ChangeMaps (open_string shut_string)

set_option maxRecDepth 100000 in
theorem protocolStream_lifted (os : Os) (started : os.Started) (H : Type) (enc : TypeId × Value → H) :
    ReturnsInHanded {} Tryz.checked os 7 .any (fun w args => (Rows.protocolStreamSpec.pre enc Tryz.prog Tryz.f7 [] false w args ∧ laidMetH Tryz.prog laid6 w) ∧ sizedMet enc Tryz.prog Tryz.f7 (OpenSpec.ofChange Rows.protocolStreamSpec) false w args)
      (Rows.protocolStreamSpec.post enc Tryz.prog Tryz.f7 false true false false) := by
  refine lifted2 started (by kernel_rfl) Tryz.func7 Tryz.params7 (by kernel_rfl) rfl (fun _ _ => rfl) (by kernel_rfl) (of_decide_eq_true (by kernel_rfl)) (by kernel_rfl) (of_decide_eq_true (by kernel_rfl))
    (ChangeSpec.witness_shaped (enc := enc) (C := Tryz.checked) (os := os) (X := fun w _ => laidMetH Tryz.prog laid6 w) false (World.doorLaid Tryz.prog 68 os) #[.slice none 0 0, .int .u16 0] 8 rfl (World.shaped_of_RefB (by kernel_rfl) (by kernel_rfl)) (by kernel_rfl) (by kernel_rfl) (by kernel_rfl) (door_met os _)) ?_
  · intro W base v0 v1 d0 d1 p0 p1 k0 h0 n0 k1 h1 n1 hE
    obtain ⟨AA, CC, ms, rfl, hM, hL⟩ := open37 k0 h0 n0
    obtain ⟨z, rfl, rfl, rfl, wz⟩ := open_int Tryz.underlying35 k1 h1
    obtain ⟨C, rfl, hC⟩ := u16_nat wz
    exact law_stream AA CC ms C hC W hE hM hL

theorem protocolStream_row : Rows.ProtocolStreamSaid :=
  OpenClaim.holds_of_wide 7 Tryz.f7 rfl rfl rfl rfl rfl rfl rfl ⟨rfl, rfl, rfl, rfl, rfl⟩ rfl rfl rfl rfl rfl protocolStream_name Tryz.func7 protocolStream_closed
    protocolStream_inst protocolStream_wrap
    (fun os started H enc _ => protocolStream_lifted os started H enc)

theorem protocolStream_card : Rows.ProtocolStreamCardSaid :=
  Claim7.holds_tied_plain_at .later [] [.data, .data, .data, .data, .sentinel, .sentinel] true (true, "61b19200f06adbccbccd27a5cf5467f25aa18304d26c9438fa05cb6f291bb564") true
    protocolStream_row (fun _ h => by cases h) protocolStream_text (fun _ h => by cases h) protocolStream_row_tie rfl ⟨rfl, rfl⟩ card_main rfl
    (fun f fn hf hfn => by
      obtain rfl : f = 7 := Option.some.inj (protocolStream_name.symm.trans hf) |>.symm
      obtain rfl : fn = Tryz.f7 := (Option.some.inj (Tryz.func7.symm.trans hfn)).symm
      exact ⟨card_looks, fun j t ht => by
        rw [Tryz.params7] at ht
        have hm : t ∈ [37, 35] := by simpa using Array.mem_of_getElem? ht
        exact (show Tryz.prog.wantsStandIn t = false by simpa using List.all_eq_true.1 protocolStream_stand t hm)⟩)
    protocolStream_goes
#print axioms protocolStream_card
end Go.Proofs.YthooajbhiikbfaaGreatDoor
