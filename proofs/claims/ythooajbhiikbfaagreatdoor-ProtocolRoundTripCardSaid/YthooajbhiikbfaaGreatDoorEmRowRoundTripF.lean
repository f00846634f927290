/- Closed facts of the row of emendatelaw55.ProtocolRoundTrip, each by the kernel, and their sum. No condition. -/
import Derived.Test.YthooajbhiikbfaaGreatDoorEmRF
import Derived.SevenTiedAt
namespace Go.Proofs.YthooajbhiikbfaaGreatDoor
open Go
set_option maxRecDepth 100000
theorem protocolRoundTrip_fact0 : (Rows.protocolRoundTripRow.wf (OpenSpec.ofChange Rows.protocolRoundTripSpec)) = true := by kernel_rfl
theorem protocolRoundTrip_fact3 : (Tryz.f5.params.all (Tryz.prog.readableRec ·)) = true := by kernel_rfl
theorem protocolRoundTrip_fact4 : (namedTie Tryz.prog Rows.protocolRoundTripRow.named Rows.protocolRoundTripSpec.vars) = true := by kernel_rfl
theorem protocolRoundTrip_fact5 : ((Rows.protocolRoundTripRow.stops == [])) = true := by kernel_rfl
theorem protocolRoundTrip_fact7 : ((Rows.protocolRoundTripRow.knobs == [])) = true := by kernel_rfl
theorem protocolRoundTrip_fact9 : ((Rows.protocolRoundTripRow.inPlace == Tryz.prog.inPlace 5)) = true := by kernel_rfl
theorem protocolRoundTrip_fact10 : ((Rows.protocolRoundTripRow.unfollowed == Tryz.prog.unfollowed 5)) = true := by kernel_rfl
theorem protocolRoundTrip_fact11 : ((Rows.protocolRoundTripRow.recurses == Tryz.prog.recurses 5)) = true := by kernel_rfl
theorem protocolRoundTrip_fact12 : ((Rows.protocolRoundTripRow.named == Tryz.prog.varsNamed 5)) = true := by kernel_rfl
theorem protocolRoundTrip_fact13 : ((Rows.protocolRoundTripRow.maps == (Tryz.f5.params.toList ++ Rows.protocolRoundTripSpec.plain.varTypes Tryz.prog).any (Tryz.prog.mapsRec ·))) = true := by kernel_rfl
theorem protocolRoundTrip_fact14 : ((Rows.protocolRoundTripRow.ifaces == (Tryz.f5.params.toList ++ Rows.protocolRoundTripSpec.plain.varTypes Tryz.prog).any (Tryz.prog.ifacesRec ·))) = true := by kernel_rfl
theorem protocolRoundTrip_fact15 : ((Rows.protocolRoundTripRow.mapsOut == Tryz.prog.mapsAmong Tryz.f5.resultTypes.toList)) = true := by kernel_rfl
theorem protocolRoundTrip_fact16 : ((Rows.protocolRoundTripRow.loops == (Tryz.f5.params.toList ++ Rows.protocolRoundTripSpec.plain.varTypes Tryz.prog).any (Tryz.prog.loopsFrom ·))) = true := by kernel_rfl
theorem protocolRoundTrip_fact17 : ((Rows.protocolRoundTripRow.wideKeys == (Tryz.f5.params.toList ++ Rows.protocolRoundTripSpec.plain.varTypes Tryz.prog ++ Tryz.f5.resultTypes.toList).any (Tryz.prog.wideKeysFrom ·))) = true := by kernel_rfl
theorem protocolRoundTrip_fact18 : (Rows.protocolRoundTripSpec.vars.all (Tryz.prog.varReadable ·)) = true := by kernel_rfl
theorem protocolRoundTrip_fact19 : (Tryz.f5.resultTypes.all (fun t => Tryz.prog.readableRec t && decide (t < Tryz.prog.types.size))) = true := by kernel_rfl
theorem protocolRoundTrip_fact20 : ((Rows.protocolRoundTripRow.ifacesOut == Tryz.f5.resultTypes.toList.any (Tryz.prog.ifacesRec ·))) = true := by kernel_rfl
theorem protocolRoundTrip_fact21 : ((Rows.protocolRoundTripRow.loopsOut == Tryz.f5.resultTypes.toList.any (Tryz.prog.loopsFrom ·))) = true := by kernel_rfl
theorem protocolRoundTrip_fact22 : ((Rows.protocolRoundTripRow.plainKeys == Tryz.prog.plainKeys)) = true := fact22
theorem protocolRoundTrip_fact23 : (Rows.protocolRoundTripRow.shortTexts.isNone) = true := by kernel_rfl
theorem protocolRoundTrip_fact26 : ((Rows.protocolRoundTripRow.lifted == Tryz.prog.liftsFinal)) = true := fact26
theorem protocolRoundTrip_fact27 : ((Tryz.prog.make == some Rows.protocolRoundTripRow.make)) = true := fact27
theorem protocolRoundTrip_fact28 : ((Rows.protocolRoundTripRow.kinds == (if Rows.protocolRoundTripRow.domain.isEmpty then [] else Tryz.f5.params.toList.map fun t => match Tryz.prog.underlying t with | some (.int k) => some k | _ => none))) = true := by kernel_rfl
theorem protocolRoundTrip_fact29 : ((Rows.protocolRoundTripRow.pinned == Rows.protocolRoundTripRow.pinnedBy)) = true := by kernel_rfl
theorem protocolRoundTrip_fact30 : ((Rows.protocolRoundTripRow.veiled == (Tryz.f5.params.toList ++ Rows.protocolRoundTripSpec.plain.varTypes Tryz.prog ++ Tryz.f5.resultTypes.toList).any (Tryz.prog.veiledRec ·))) = true := by kernel_rfl
theorem protocolRoundTrip_fact31 : (Rows.protocolRoundTripRow.veiledFits Tryz.prog Tryz.f5.params.toList (Tryz.f5.params.toList ++ Rows.protocolRoundTripSpec.plain.varTypes Tryz.prog ++ Tryz.f5.resultTypes.toList)) = true := by kernel_rfl
theorem protocolRoundTrip_closed : joinedFacts Tryz.prog 5 Tryz.f5 Rows.protocolRoundTripSpec Rows.protocolRoundTripRow = true :=
  band (band (band (band (band (band (band (band (band (band (band (band (band (band (band (band (band (band (band (band (band (band (band (band (band (band (band (band (band (band (band (protocolRoundTrip_fact0) fact1) fact2) protocolRoundTrip_fact3) protocolRoundTrip_fact4) protocolRoundTrip_fact5) fact6) protocolRoundTrip_fact7) fact8) protocolRoundTrip_fact9) protocolRoundTrip_fact10) protocolRoundTrip_fact11) protocolRoundTrip_fact12) protocolRoundTrip_fact13) protocolRoundTrip_fact14) protocolRoundTrip_fact15) protocolRoundTrip_fact16) protocolRoundTrip_fact17) protocolRoundTrip_fact18) protocolRoundTrip_fact19) protocolRoundTrip_fact20) protocolRoundTrip_fact21) protocolRoundTrip_fact22) protocolRoundTrip_fact23) fact24) fact25) protocolRoundTrip_fact26) protocolRoundTrip_fact27) protocolRoundTrip_fact28) protocolRoundTrip_fact29) protocolRoundTrip_fact30) protocolRoundTrip_fact31
theorem protocolRoundTrip_name : Tryz.prog.funcNamed Rows.protocolRoundTripRow.func = some 5 := by kernel_rfl
theorem protocolRoundTrip_inst : Tryz.f5.isInstance Tryz.prog Rows.protocolRoundTripRow.origin Rows.protocolRoundTripRow.targs := of_decide_eq_true (by kernel_rfl)
theorem protocolRoundTrip_wrap : Tryz.f5.isWrapper Tryz.prog Rows.protocolRoundTripRow.wrapper Rows.protocolRoundTripRow.mainSum := by unfold Func.isWrapper; first | (rw [if_pos (by decide +kernel)]; kernel_rfl) | (rw [if_neg (by decide +kernel)]; exact ⟨rfl, rfl⟩)
theorem protocolRoundTrip_text : Rows.protocolRoundTripRow.wfByText (OpenSpec.ofChange Rows.protocolRoundTripSpec) = true := by kernel_rfl
theorem protocolRoundTrip_goes : false = Rows.protocolRoundTripRow.goesBy Tryz.prog := by kernel_rfl
theorem protocolRoundTrip_stand : ([24, 9].all fun u => !Tryz.prog.wantsStandIn u) = true := by kernel_rfl
end Go.Proofs.YthooajbhiikbfaaGreatDoor
