/- The law emendatelaw55.ProtocolPrefix returns true for every input, and its arguments read behind the call as they read before: the row, and the card that ties what the row lists to the program's text. Conditions: those that the given row prints, no other. -/
import Derived.Test.YthooajbhiikbfaaGreatDoorEmRC
import Derived.Test.YthooajbhiikbfaaGreatDoorEmRowPrefixF
import Derived.Test.YthooajbhiikbfaaGreatDoorEmLP
import Derived.Test.YthooajbhiikbfaaGreatDoorTie
import Derived.Test.YthooajbhiikbfaaGreatDoorCards
import Derived.SevenTiedAt
namespace Go.Proofs.YthooajbhiikbfaaGreatDoor
open Go Go.ChangeShapes Go.WideShapes Go.ChangeAt Go.RowKit Em
open Go.ChangeMaps (open_string shut_string)

set_option maxRecDepth 100000 in
theorem protocolPrefix_lifted (os : Os) (started : os.Started) (H : Type) (enc : TypeId × Value → H) :
    ReturnsInHanded {} Tryz.checked os 6 .any (fun w args => (Rows.protocolPrefixSpec.pre enc Tryz.prog Tryz.f6 [] false w args ∧ laidMetH Tryz.prog laid6 w) ∧ sizedMet enc Tryz.prog Tryz.f6 (OpenSpec.ofChange Rows.protocolPrefixSpec) false w args)
      (Rows.protocolPrefixSpec.post enc Tryz.prog Tryz.f6 false true false false) := by
  refine lifted2 started (by kernel_rfl) Tryz.func6 Tryz.params6 (by kernel_rfl) rfl (fun _ _ => rfl) (by kernel_rfl) (of_decide_eq_true (by kernel_rfl)) (by kernel_rfl) (of_decide_eq_true (by kernel_rfl))
    (ChangeSpec.witness_shaped (enc := enc) (C := Tryz.checked) (os := os) (X := fun w _ => laidMetH Tryz.prog laid6 w) false (World.doorLaid Tryz.prog 68 os) #[.agg #[.int .i64 0, .string ⟨#[]⟩, .slice none 0 0], .int .u16 0] 8 rfl (World.shaped_of_RefB (by kernel_rfl) (by kernel_rfl)) (by kernel_rfl) (by kernel_rfl) (by kernel_rfl) (door_met os _)) ?_
  · intro W base v0 v1 d0 d1 p0 p1 k0 h0 n0 k1 h1 n1 hE
    obtain ⟨id, m, A, c, ss, rfl, hM⟩ := open24 k0 h0 n0
    obtain ⟨z, rfl, rfl, rfl, wz⟩ := open_int Tryz.underlying35 k1 h1
    obtain ⟨C, rfl, hC⟩ := u16_nat wz
    exact law_prefix id m A c ss C hC W hE hM

theorem protocolPrefix_row : Rows.ProtocolPrefixSaid :=
  OpenClaim.holds_of_wide 6 Tryz.f6 rfl rfl rfl rfl rfl rfl rfl ⟨rfl, rfl, rfl, rfl, rfl⟩ rfl rfl rfl rfl rfl protocolPrefix_name Tryz.func6 protocolPrefix_closed
    protocolPrefix_inst protocolPrefix_wrap
    (fun os started H enc _ => protocolPrefix_lifted os started H enc)

theorem protocolPrefix_card : Rows.ProtocolPrefixCardSaid :=
  Claim7.holds_tied_plain_at .later [] [.data, .data, .data, .data, .sentinel, .sentinel] true (true, "61b19200f06adbccbccd27a5cf5467f25aa18304d26c9438fa05cb6f291bb564") true
    protocolPrefix_row (fun _ h => by cases h) protocolPrefix_text (fun _ h => by cases h) protocolPrefix_row_tie rfl ⟨rfl, rfl⟩ card_main rfl
    (fun f fn hf hfn => by
      obtain rfl : f = 6 := Option.some.inj (protocolPrefix_name.symm.trans hf) |>.symm
      obtain rfl : fn = Tryz.f6 := (Option.some.inj (Tryz.func6.symm.trans hfn)).symm
      exact ⟨card_looks, fun j t ht => by
        rw [Tryz.params6] at ht
        have hm : t ∈ [24, 35] := by simpa using Array.mem_of_getElem? ht
        exact (show Tryz.prog.wantsStandIn t = false by simpa using List.all_eq_true.1 protocolPrefix_stand t hm)⟩)
    protocolPrefix_goes
#print axioms protocolPrefix_card
end Go.Proofs.YthooajbhiikbfaaGreatDoor
