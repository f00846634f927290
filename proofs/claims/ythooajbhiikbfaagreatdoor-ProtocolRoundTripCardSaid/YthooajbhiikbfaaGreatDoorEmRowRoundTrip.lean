/- The law emendatelaw55.ProtocolRoundTrip returns true for every input, and its arguments read behind the call as they read before: the row, and the card that ties what the row lists to the program's text. Conditions: those that the given row prints, no other. -/
import Derived.Test.YthooajbhiikbfaaGreatDoorEmRC
import Derived.Test.YthooajbhiikbfaaGreatDoorEmRowRoundTripF
import Derived.Test.YthooajbhiikbfaaGreatDoorEmLC
import Derived.Test.YthooajbhiikbfaaGreatDoorTie
import Derived.Test.YthooajbhiikbfaaGreatDoorCards
import Derived.SevenTiedAt
namespace Go.Proofs.YthooajbhiikbfaaGreatDoor
open Go Go.ChangeShapes Go.WideShapes Go.ChangeAt Go.RowKit Em
open Go.ChangeMaps (open_string shut_string)

set_option maxRecDepth 100000 in
theorem protocolRoundTrip_lifted (os : Os) (started : os.Started) (H : Type) (enc : TypeId × Value → H) :
    ReturnsInHanded {} Tryz.checked os 5 .any (fun w args => (Rows.protocolRoundTripSpec.pre enc Tryz.prog Tryz.f5 [] false w args ∧ laidMetH Tryz.prog laid6 w) ∧ sizedMet enc Tryz.prog Tryz.f5 (OpenSpec.ofChange Rows.protocolRoundTripSpec) false w args)
      (Rows.protocolRoundTripSpec.post enc Tryz.prog Tryz.f5 false true false false) := by
  refine lifted2 started (by kernel_rfl) Tryz.func5 Tryz.params5 (by kernel_rfl) rfl (fun _ _ => rfl) (by kernel_rfl) (of_decide_eq_true (by kernel_rfl)) (by kernel_rfl) (of_decide_eq_true (by kernel_rfl))
    (ChangeSpec.witness_shaped (enc := enc) (C := Tryz.checked) (os := os) (X := fun w _ => laidMetH Tryz.prog laid6 w) false (World.doorLaid Tryz.prog 68 os) #[.agg #[.int .i64 0, .string ⟨#[]⟩, .slice none 0 0], .string ⟨#[]⟩] 8 rfl (World.shaped_of_RefB (by kernel_rfl) (by kernel_rfl)) (by kernel_rfl) (by kernel_rfl) (by kernel_rfl) (door_met os _)) ?_
  · intro W base v0 v1 d0 d1 p0 p1 k0 h0 n0 k1 h1 n1 hE
    obtain ⟨id, m, A, c, ss, rfl, hM⟩ := open24 k0 h0 n0
    obtain ⟨t, rfl, rfl, rfl, ht⟩ := open_string Tryz.underlying9 k1 h1
    exact law_round id m A c ss t W hE hM (str_le n1)

theorem protocolRoundTrip_row : Rows.ProtocolRoundTripSaid :=
  OpenClaim.holds_of_wide 5 Tryz.f5 rfl rfl rfl rfl rfl rfl rfl ⟨rfl, rfl, rfl, rfl, rfl⟩ rfl rfl rfl rfl rfl protocolRoundTrip_name Tryz.func5 protocolRoundTrip_closed
    protocolRoundTrip_inst protocolRoundTrip_wrap
    (fun os started H enc _ => protocolRoundTrip_lifted os started H enc)

theorem protocolRoundTrip_card : Rows.ProtocolRoundTripCardSaid :=
  Claim7.holds_tied_plain_at .later [] [.data, .data, .data, .data, .sentinel, .sentinel] true (true, "61b19200f06adbccbccd27a5cf5467f25aa18304d26c9438fa05cb6f291bb564") true
    protocolRoundTrip_row (fun _ h => by cases h) protocolRoundTrip_text (fun _ h => by cases h) protocolRoundTrip_row_tie rfl ⟨rfl, rfl⟩ card_main rfl
    (fun f fn hf hfn => by
      obtain rfl : f = 5 := Option.some.inj (protocolRoundTrip_name.symm.trans hf) |>.symm
      obtain rfl : fn = Tryz.f5 := (Option.some.inj (Tryz.func5.symm.trans hfn)).symm
      exact ⟨card_looks, fun j t ht => by
        rw [Tryz.params5] at ht
        have hm : t ∈ [24, 9] := by simpa using Array.mem_of_getElem? ht
        exact (show Tryz.prog.wantsStandIn t = false by simpa using List.all_eq_true.1 protocolRoundTrip_stand t hm)⟩)
    protocolRoundTrip_goes
#print axioms protocolRoundTrip_card
end Go.Proofs.YthooajbhiikbfaaGreatDoor
