/- The law emendatelaw55.ProtocolEncode returns true for every input, and its arguments read behind the call as they read before: the row, and the card that ties what the row lists to the program's text. Conditions: those that the given row prints, no other. -/
import Derived.Test.YthooajbhiikbfaaGreatDoorEmRC
import Derived.Test.YthooajbhiikbfaaGreatDoorEmRowEncodeF
import Derived.Test.YthooajbhiikbfaaGreatDoorEmLA
import Derived.Test.YthooajbhiikbfaaGreatDoorTie
import Derived.Test.YthooajbhiikbfaaGreatDoorCards
import Derived.SevenTiedAt
namespace Go.Proofs.YthooajbhiikbfaaGreatDoor
open Go Go.ChangeShapes Go.WideShapes Go.ChangeAt Go.RowKit Em
open Go.ChangeMaps (open_string shut_string)

set_option maxRecDepth 100000 in
theorem protocolEncode_lifted (os : Os) (started : os.Started) (H : Type) (enc : TypeId × Value → H) :
    ReturnsInHanded {} Tryz.checked os 3 .any (fun w args => (Rows.protocolEncodeSpec.pre enc Tryz.prog Tryz.f3 [] false w args ∧ laidMetH Tryz.prog laid6 w) ∧ sizedMet enc Tryz.prog Tryz.f3 (OpenSpec.ofChange Rows.protocolEncodeSpec) false w args)
      (Rows.protocolEncodeSpec.post enc Tryz.prog Tryz.f3 false true false false) := by
  refine lifted1 started (by kernel_rfl) Tryz.func3 Tryz.params3 (by kernel_rfl) rfl (fun _ => rfl) (by kernel_rfl) (of_decide_eq_true (by kernel_rfl))
    (ChangeSpec.witness_shaped (enc := enc) (C := Tryz.checked) (os := os) (X := fun w _ => laidMetH Tryz.prog laid6 w) false (World.doorLaid Tryz.prog 68 os) #[.agg #[.int .i64 0, .string ⟨#[]⟩, .slice none 0 0]] 8 rfl (World.shaped_of_RefB (by kernel_rfl) (by kernel_rfl)) (by kernel_rfl) (by kernel_rfl) (by kernel_rfl) (door_met os _)) ?_
  · intro W base v0 d0 p0 k0 h0 n0 hE
    obtain ⟨id, m, A, c, ss, rfl, hM⟩ := open24 k0 h0 n0
    exact law_encode id m A c ss W hE hM

theorem protocolEncode_row : Rows.ProtocolEncodeSaid :=
  OpenClaim.holds_of_wide 3 Tryz.f3 rfl rfl rfl rfl rfl rfl rfl ⟨rfl, rfl, rfl, rfl, rfl⟩ rfl rfl rfl rfl rfl protocolEncode_name Tryz.func3 protocolEncode_closed
    protocolEncode_inst protocolEncode_wrap
    (fun os started H enc _ => protocolEncode_lifted os started H enc)

theorem protocolEncode_card : Rows.ProtocolEncodeCardSaid :=
  Claim7.holds_tied_plain_at .later [] [.data, .data, .data, .data, .sentinel, .sentinel] true (true, "61b19200f06adbccbccd27a5cf5467f25aa18304d26c9438fa05cb6f291bb564") true
    protocolEncode_row (fun _ h => by cases h) protocolEncode_text (fun _ h => by cases h) protocolEncode_row_tie rfl ⟨rfl, rfl⟩ card_main rfl
    (fun f fn hf hfn => by
      obtain rfl : f = 3 := Option.some.inj (protocolEncode_name.symm.trans hf) |>.symm
      obtain rfl : fn = Tryz.f3 := (Option.some.inj (Tryz.func3.symm.trans hfn)).symm
      exact ⟨card_looks, fun j t ht => by
        rw [Tryz.params3] at ht
        have hm : t ∈ [24] := by simpa using Array.mem_of_getElem? ht
        exact (show Tryz.prog.wantsStandIn t = false by simpa using List.all_eq_true.1 protocolEncode_stand t hm)⟩)
    protocolEncode_goes
#print axioms protocolEncode_card
end Go.Proofs.YthooajbhiikbfaaGreatDoor
