/- Closed facts of the row of emendatelaw55.ProtocolDecode, each by the kernel, and their sum. No condition. -/
import Derived.Test.YthooajbhiikbfaaGreatDoorEmRF
import Derived.SevenTiedAt
namespace Go.Proofs.YthooajbhiikbfaaGreatDoor
open Go
set_option maxRecDepth 100000
theorem protocolDecode_fact0 : (Rows.protocolDecodeRow.wf (OpenSpec.ofChange Rows.protocolDecodeSpec)) = true := by kernel_rfl
theorem protocolDecode_fact3 : (Tryz.f4.params.all (Tryz.prog.readableRec ·)) = true := by kernel_rfl
theorem protocolDecode_fact4 : (namedTie Tryz.prog Rows.protocolDecodeRow.named Rows.protocolDecodeSpec.vars) = true := by kernel_rfl
theorem protocolDecode_fact5 : ((Rows.protocolDecodeRow.stops == [])) = true := by kernel_rfl
theorem protocolDecode_fact7 : ((Rows.protocolDecodeRow.knobs == [])) = true := by kernel_rfl
theorem protocolDecode_fact9 : ((Rows.protocolDecodeRow.inPlace == Tryz.prog.inPlace 4)) = true := by kernel_rfl
theorem protocolDecode_fact10 : ((Rows.protocolDecodeRow.unfollowed == Tryz.prog.unfollowed 4)) = true := by kernel_rfl
theorem protocolDecode_fact11 : ((Rows.protocolDecodeRow.recurses == Tryz.prog.recurses 4)) = true := by kernel_rfl
theorem protocolDecode_fact12 : ((Rows.protocolDecodeRow.named == Tryz.prog.varsNamed 4)) = true := by kernel_rfl
theorem protocolDecode_fact13 : ((Rows.protocolDecodeRow.maps == (Tryz.f4.params.toList ++ Rows.protocolDecodeSpec.plain.varTypes Tryz.prog).any (Tryz.prog.mapsRec ·))) = true := by kernel_rfl
theorem protocolDecode_fact14 : ((Rows.protocolDecodeRow.ifaces == (Tryz.f4.params.toList ++ Rows.protocolDecodeSpec.plain.varTypes Tryz.prog).any (Tryz.prog.ifacesRec ·))) = true := by kernel_rfl
theorem protocolDecode_fact15 : ((Rows.protocolDecodeRow.mapsOut == Tryz.prog.mapsAmong Tryz.f4.resultTypes.toList)) = true := by kernel_rfl
theorem protocolDecode_fact16 : ((Rows.protocolDecodeRow.loops == (Tryz.f4.params.toList ++ Rows.protocolDecodeSpec.plain.varTypes Tryz.prog).any (Tryz.prog.loopsFrom ·))) = true := by kernel_rfl
theorem protocolDecode_fact17 : ((Rows.protocolDecodeRow.wideKeys == (Tryz.f4.params.toList ++ Rows.protocolDecodeSpec.plain.varTypes Tryz.prog ++ Tryz.f4.resultTypes.toList).any (Tryz.prog.wideKeysFrom ·))) = true := by kernel_rfl
theorem protocolDecode_fact18 : (Rows.protocolDecodeSpec.vars.all (Tryz.prog.varReadable ·)) = true := by kernel_rfl
theorem protocolDecode_fact19 : (Tryz.f4.resultTypes.all (fun t => Tryz.prog.readableRec t && decide (t < Tryz.prog.types.size))) = true := by kernel_rfl
theorem protocolDecode_fact20 : ((Rows.protocolDecodeRow.ifacesOut == Tryz.f4.resultTypes.toList.any (Tryz.prog.ifacesRec ·))) = true := by kernel_rfl
theorem protocolDecode_fact21 : ((Rows.protocolDecodeRow.loopsOut == Tryz.f4.resultTypes.toList.any (Tryz.prog.loopsFrom ·))) = true := by kernel_rfl
theorem protocolDecode_fact22 : ((Rows.protocolDecodeRow.plainKeys == Tryz.prog.plainKeys)) = true := fact22
theorem protocolDecode_fact23 : (Rows.protocolDecodeRow.shortTexts.isNone) = true := by kernel_rfl
theorem protocolDecode_fact26 : ((Rows.protocolDecodeRow.lifted == Tryz.prog.liftsFinal)) = true := fact26
theorem protocolDecode_fact27 : ((Tryz.prog.make == some Rows.protocolDecodeRow.make)) = true := fact27
theorem protocolDecode_fact28 : ((Rows.protocolDecodeRow.kinds == (if Rows.protocolDecodeRow.domain.isEmpty then [] else Tryz.f4.params.toList.map fun t => match Tryz.prog.underlying t with | some (.int k) => some k | _ => none))) = true := by kernel_rfl
theorem protocolDecode_fact29 : ((Rows.protocolDecodeRow.pinned == Rows.protocolDecodeRow.pinnedBy)) = true := by kernel_rfl
theorem protocolDecode_fact30 : ((Rows.protocolDecodeRow.veiled == (Tryz.f4.params.toList ++ Rows.protocolDecodeSpec.plain.varTypes Tryz.prog ++ Tryz.f4.resultTypes.toList).any (Tryz.prog.veiledRec ·))) = true := by kernel_rfl
theorem protocolDecode_fact31 : (Rows.protocolDecodeRow.veiledFits Tryz.prog Tryz.f4.params.toList (Tryz.f4.params.toList ++ Rows.protocolDecodeSpec.plain.varTypes Tryz.prog ++ Tryz.f4.resultTypes.toList)) = true := by kernel_rfl
theorem protocolDecode_closed : joinedFacts Tryz.prog 4 Tryz.f4 Rows.protocolDecodeSpec Rows.protocolDecodeRow = true :=
  band (band (band (band (band (band (band (band (band (band (band (band (band (band (band (band (band (band (band (band (band (band (band (band (band (band (band (band (band (band (band (protocolDecode_fact0) fact1) fact2) protocolDecode_fact3) protocolDecode_fact4) protocolDecode_fact5) fact6) protocolDecode_fact7) fact8) protocolDecode_fact9) protocolDecode_fact10) protocolDecode_fact11) protocolDecode_fact12) protocolDecode_fact13) protocolDecode_fact14) protocolDecode_fact15) protocolDecode_fact16) protocolDecode_fact17) protocolDecode_fact18) protocolDecode_fact19) protocolDecode_fact20) protocolDecode_fact21) protocolDecode_fact22) protocolDecode_fact23) fact24) fact25) protocolDecode_fact26) protocolDecode_fact27) protocolDecode_fact28) protocolDecode_fact29) protocolDecode_fact30) protocolDecode_fact31
theorem protocolDecode_name : Tryz.prog.funcNamed Rows.protocolDecodeRow.func = some 4 := by kernel_rfl
theorem protocolDecode_inst : Tryz.f4.isInstance Tryz.prog Rows.protocolDecodeRow.origin Rows.protocolDecodeRow.targs := of_decide_eq_true (by kernel_rfl)
theorem protocolDecode_wrap : Tryz.f4.isWrapper Tryz.prog Rows.protocolDecodeRow.wrapper Rows.protocolDecodeRow.mainSum := by unfold Func.isWrapper; first | (rw [if_pos (by decide +kernel)]; kernel_rfl) | (rw [if_neg (by decide +kernel)]; exact ⟨rfl, rfl⟩)
theorem protocolDecode_text : Rows.protocolDecodeRow.wfByText (OpenSpec.ofChange Rows.protocolDecodeSpec) = true := by kernel_rfl
theorem protocolDecode_goes : false = Rows.protocolDecodeRow.goesBy Tryz.prog := by kernel_rfl
theorem protocolDecode_stand : ([9].all fun u => !Tryz.prog.wantsStandIn u) = true := by kernel_rfl
end Go.Proofs.YthooajbhiikbfaaGreatDoor
