/- Closed facts of the row of emendatelaw55.ProtocolStream, each by the kernel, and their sum. No condition. -/
import Derived.Test.YthooajbhiikbfaaGreatDoorEmRF
import Derived.SevenTiedAt
namespace Go.Proofs.YthooajbhiikbfaaGreatDoor
open Go
set_option maxRecDepth 100000
theorem protocolStream_fact0 : (Rows.protocolStreamRow.wf (OpenSpec.ofChange Rows.protocolStreamSpec)) = true := by kernel_rfl
theorem protocolStream_fact3 : (Tryz.f7.params.all (Tryz.prog.readableRec ·)) = true := by kernel_rfl
theorem protocolStream_fact4 : (namedTie Tryz.prog Rows.protocolStreamRow.named Rows.protocolStreamSpec.vars) = true := by kernel_rfl
theorem protocolStream_fact5 : ((Rows.protocolStreamRow.stops == [])) = true := by kernel_rfl
theorem protocolStream_fact7 : ((Rows.protocolStreamRow.knobs == [])) = true := by kernel_rfl
theorem protocolStream_fact9 : ((Rows.protocolStreamRow.inPlace == Tryz.prog.inPlace 7)) = true := by kernel_rfl
theorem protocolStream_fact10 : ((Rows.protocolStreamRow.unfollowed == Tryz.prog.unfollowed 7)) = true := by kernel_rfl
theorem protocolStream_fact11 : ((Rows.protocolStreamRow.recurses == Tryz.prog.recurses 7)) = true := by kernel_rfl
theorem protocolStream_fact12 : ((Rows.protocolStreamRow.named == Tryz.prog.varsNamed 7)) = true := by kernel_rfl
theorem protocolStream_fact13 : ((Rows.protocolStreamRow.maps == (Tryz.f7.params.toList ++ Rows.protocolStreamSpec.plain.varTypes Tryz.prog).any (Tryz.prog.mapsRec ·))) = true := by kernel_rfl
theorem protocolStream_fact14 : ((Rows.protocolStreamRow.ifaces == (Tryz.f7.params.toList ++ Rows.protocolStreamSpec.plain.varTypes Tryz.prog).any (Tryz.prog.ifacesRec ·))) = true := by kernel_rfl
theorem protocolStream_fact15 : ((Rows.protocolStreamRow.mapsOut == Tryz.prog.mapsAmong Tryz.f7.resultTypes.toList)) = true := by kernel_rfl
theorem protocolStream_fact16 : ((Rows.protocolStreamRow.loops == (Tryz.f7.params.toList ++ Rows.protocolStreamSpec.plain.varTypes Tryz.prog).any (Tryz.prog.loopsFrom ·))) = true := by kernel_rfl
theorem protocolStream_fact17 : ((Rows.protocolStreamRow.wideKeys == (Tryz.f7.params.toList ++ Rows.protocolStreamSpec.plain.varTypes Tryz.prog ++ Tryz.f7.resultTypes.toList).any (Tryz.prog.wideKeysFrom ·))) = true := by kernel_rfl
theorem protocolStream_fact18 : (Rows.protocolStreamSpec.vars.all (Tryz.prog.varReadable ·)) = true := by kernel_rfl
theorem protocolStream_fact19 : (Tryz.f7.resultTypes.all (fun t => Tryz.prog.readableRec t && decide (t < Tryz.prog.types.size))) = true := by kernel_rfl
theorem protocolStream_fact20 : ((Rows.protocolStreamRow.ifacesOut == Tryz.f7.resultTypes.toList.any (Tryz.prog.ifacesRec ·))) = true := by kernel_rfl
theorem protocolStream_fact21 : ((Rows.protocolStreamRow.loopsOut == Tryz.f7.resultTypes.toList.any (Tryz.prog.loopsFrom ·))) = true := by kernel_rfl
theorem protocolStream_fact22 : ((Rows.protocolStreamRow.plainKeys == Tryz.prog.plainKeys)) = true := fact22
theorem protocolStream_fact23 : (Rows.protocolStreamRow.shortTexts.isNone) = true := by kernel_rfl
theorem protocolStream_fact26 : ((Rows.protocolStreamRow.lifted == Tryz.prog.liftsFinal)) = true := fact26
theorem protocolStream_fact27 : ((Tryz.prog.make == some Rows.protocolStreamRow.make)) = true := fact27
theorem protocolStream_fact28 : ((Rows.protocolStreamRow.kinds == (if Rows.protocolStreamRow.domain.isEmpty then [] else Tryz.f7.params.toList.map fun t => match Tryz.prog.underlying t with | some (.int k) => some k | _ => none))) = true := by kernel_rfl
theorem protocolStream_fact29 : ((Rows.protocolStreamRow.pinned == Rows.protocolStreamRow.pinnedBy)) = true := by kernel_rfl
theorem protocolStream_fact30 : ((Rows.protocolStreamRow.veiled == (Tryz.f7.params.toList ++ Rows.protocolStreamSpec.plain.varTypes Tryz.prog ++ Tryz.f7.resultTypes.toList).any (Tryz.prog.veiledRec ·))) = true := by kernel_rfl
theorem protocolStream_fact31 : (Rows.protocolStreamRow.veiledFits Tryz.prog Tryz.f7.params.toList (Tryz.f7.params.toList ++ Rows.protocolStreamSpec.plain.varTypes Tryz.prog ++ Tryz.f7.resultTypes.toList)) = true := by kernel_rfl
theorem protocolStream_closed : joinedFacts Tryz.prog 7 Tryz.f7 Rows.protocolStreamSpec Rows.protocolStreamRow = true :=
  band (band (band (band (band (band (band (band (band (band (band (band (band (band (band (band (band (band (band (band (band (band (band (band (band (band (band (band (band (band (band (protocolStream_fact0) fact1) fact2) protocolStream_fact3) protocolStream_fact4) protocolStream_fact5) fact6) protocolStream_fact7) fact8) protocolStream_fact9) protocolStream_fact10) protocolStream_fact11) protocolStream_fact12) protocolStream_fact13) protocolStream_fact14) protocolStream_fact15) protocolStream_fact16) protocolStream_fact17) protocolStream_fact18) protocolStream_fact19) protocolStream_fact20) protocolStream_fact21) protocolStream_fact22) protocolStream_fact23) fact24) fact25) protocolStream_fact26) protocolStream_fact27) protocolStream_fact28) protocolStream_fact29) protocolStream_fact30) protocolStream_fact31
theorem protocolStream_name : Tryz.prog.funcNamed Rows.protocolStreamRow.func = some 7 := by kernel_rfl
theorem protocolStream_inst : Tryz.f7.isInstance Tryz.prog Rows.protocolStreamRow.origin Rows.protocolStreamRow.targs := of_decide_eq_true (by kernel_rfl)
theorem protocolStream_wrap : Tryz.f7.isWrapper Tryz.prog Rows.protocolStreamRow.wrapper Rows.protocolStreamRow.mainSum := by unfold Func.isWrapper; first | (rw [if_pos (by decide +kernel)]; kernel_rfl) | (rw [if_neg (by decide +kernel)]; exact ⟨rfl, rfl⟩)
theorem protocolStream_text : Rows.protocolStreamRow.wfByText (OpenSpec.ofChange Rows.protocolStreamSpec) = true := by kernel_rfl
theorem protocolStream_goes : false = Rows.protocolStreamRow.goesBy Tryz.prog := by kernel_rfl
theorem protocolStream_stand : ([37, 35].all fun u => !Tryz.prog.wantsStandIn u) = true := by kernel_rfl
end Go.Proofs.YthooajbhiikbfaaGreatDoor
