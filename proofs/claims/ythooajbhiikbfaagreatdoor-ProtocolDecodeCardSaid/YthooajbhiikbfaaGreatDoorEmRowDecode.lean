/- The law emendatelaw55.ProtocolDecode returns true for every input, and its arguments read behind the call as they read before: the row, and the card that ties what the row lists to the program's text. Conditions: those that the given row prints, no other. -/
import Derived.Test.YthooajbhiikbfaaGreatDoorEmRC
import Derived.Test.YthooajbhiikbfaaGreatDoorEmRowDecodeF
import Derived.Test.YthooajbhiikbfaaGreatDoorEmLB
import Derived.Test.YthooajbhiikbfaaGreatDoorTie
import Derived.Test.YthooajbhiikbfaaGreatDoorCards
import Derived.SevenTiedAt
namespace Go.Proofs.YthooajbhiikbfaaGreatDoor
open Go Go.ChangeShapes Go.WideShapes Go.ChangeAt Go.RowKit Em
open Go.ChangeMaps (open_string shut_string)

set_option maxRecDepth 100000 in
theorem protocolDecode_lifted (os : Os) (started : os.Started) (H : Type) (enc : TypeId × Value → H) :
    ReturnsInHanded {} Tryz.checked os 4 .any (fun w args => (Rows.protocolDecodeSpec.pre enc Tryz.prog Tryz.f4 [] false w args ∧ laidMetH Tryz.prog laid6 w) ∧ sizedMet enc Tryz.prog Tryz.f4 (OpenSpec.ofChange Rows.protocolDecodeSpec) false w args)
      (Rows.protocolDecodeSpec.post enc Tryz.prog Tryz.f4 false true false false) := by
  refine lifted1 started (by kernel_rfl) Tryz.func4 Tryz.params4 (by kernel_rfl) rfl (fun _ => rfl) (by kernel_rfl) (of_decide_eq_true (by kernel_rfl))
    (ChangeSpec.witness_shaped (enc := enc) (C := Tryz.checked) (os := os) (X := fun w _ => laidMetH Tryz.prog laid6 w) false (World.doorLaid Tryz.prog 68 os) #[.string ⟨#[]⟩] 8 rfl (World.shaped_of_RefB (by kernel_rfl) (by kernel_rfl)) (by kernel_rfl) (by kernel_rfl) (by kernel_rfl) (door_met os _)) ?_
  · intro W base v0 d0 p0 k0 h0 n0 hE
    obtain ⟨t, rfl, rfl, rfl, ht⟩ := open_string Tryz.underlying9 k0 h0
    exact law_decode t (str_le n0) W hE

theorem protocolDecode_row : Rows.ProtocolDecodeSaid :=
  OpenClaim.holds_of_wide 4 Tryz.f4 rfl rfl rfl rfl rfl rfl rfl ⟨rfl, rfl, rfl, rfl, rfl⟩ rfl rfl rfl rfl rfl protocolDecode_name Tryz.func4 protocolDecode_closed
    protocolDecode_inst protocolDecode_wrap
    (fun os started H enc _ => protocolDecode_lifted os started H enc)

theorem protocolDecode_card : Rows.ProtocolDecodeCardSaid :=
  Claim7.holds_tied_plain_at .later [] [.data, .data, .data, .data, .sentinel, .sentinel] true (true, "61b19200f06adbccbccd27a5cf5467f25aa18304d26c9438fa05cb6f291bb564") true
    protocolDecode_row (fun _ h => by cases h) protocolDecode_text (fun _ h => by cases h) protocolDecode_row_tie rfl ⟨rfl, rfl⟩ card_main rfl
    (fun f fn hf hfn => by
      obtain rfl : f = 4 := Option.some.inj (protocolDecode_name.symm.trans hf) |>.symm
      obtain rfl : fn = Tryz.f4 := (Option.some.inj (Tryz.func4.symm.trans hfn)).symm
      exact ⟨card_looks, fun j t ht => by
        rw [Tryz.params4] at ht
        have hm : t ∈ [9] := by simpa using Array.mem_of_getElem? ht
        exact (show Tryz.prog.wantsStandIn t = false by simpa using List.all_eq_true.1 protocolDecode_stand t hm)⟩)
    protocolDecode_goes
#print axioms protocolDecode_card
end Go.Proofs.YthooajbhiikbfaaGreatDoor
