/- Closed facts of the row of emendatelaw55.ProtocolEncode, each by the kernel, and their sum. No condition. -/
import Derived.Test.YthooajbhiikbfaaGreatDoorEmRF
import Derived.SevenTiedAt
namespace Go.Proofs.YthooajbhiikbfaaGreatDoor
open Go
set_option maxRecDepth 100000
theorem protocolEncode_fact0 : (Rows.protocolEncodeRow.wf (OpenSpec.ofChange Rows.protocolEncodeSpec)) = true := by kernel_rfl
theorem protocolEncode_fact3 : (Tryz.f3.params.all (Tryz.prog.readableRec ·)) = true := by kernel_rfl
theorem protocolEncode_fact4 : (namedTie Tryz.prog Rows.protocolEncodeRow.named Rows.protocolEncodeSpec.vars) = true := by kernel_rfl
theorem protocolEncode_fact5 : ((Rows.protocolEncodeRow.stops == [])) = true := by kernel_rfl
theorem protocolEncode_fact7 : ((Rows.protocolEncodeRow.knobs == [])) = true := by kernel_rfl
theorem protocolEncode_fact9 : ((Rows.protocolEncodeRow.inPlace == Tryz.prog.inPlace 3)) = true := by kernel_rfl
theorem protocolEncode_fact10 : ((Rows.protocolEncodeRow.unfollowed == Tryz.prog.unfollowed 3)) = true := by kernel_rfl
theorem protocolEncode_fact11 : ((Rows.protocolEncodeRow.recurses == Tryz.prog.recurses 3)) = true := by kernel_rfl
theorem protocolEncode_fact12 : ((Rows.protocolEncodeRow.named == Tryz.prog.varsNamed 3)) = true := by kernel_rfl
theorem protocolEncode_fact13 : ((Rows.protocolEncodeRow.maps == (Tryz.f3.params.toList ++ Rows.protocolEncodeSpec.plain.varTypes Tryz.prog).any (Tryz.prog.mapsRec ·))) = true := by kernel_rfl
theorem protocolEncode_fact14 : ((Rows.protocolEncodeRow.ifaces == (Tryz.f3.params.toList ++ Rows.protocolEncodeSpec.plain.varTypes Tryz.prog).any (Tryz.prog.ifacesRec ·))) = true := by kernel_rfl
theorem protocolEncode_fact15 : ((Rows.protocolEncodeRow.mapsOut == Tryz.prog.mapsAmong Tryz.f3.resultTypes.toList)) = true := by kernel_rfl
theorem protocolEncode_fact16 : ((Rows.protocolEncodeRow.loops == (Tryz.f3.params.toList ++ Rows.protocolEncodeSpec.plain.varTypes Tryz.prog).any (Tryz.prog.loopsFrom ·))) = true := by kernel_rfl
theorem protocolEncode_fact17 : ((Rows.protocolEncodeRow.wideKeys == (Tryz.f3.params.toList ++ Rows.protocolEncodeSpec.plain.varTypes Tryz.prog ++ Tryz.f3.resultTypes.toList).any (Tryz.prog.wideKeysFrom ·))) = true := by kernel_rfl
theorem protocolEncode_fact18 : (Rows.protocolEncodeSpec.vars.all (Tryz.prog.varReadable ·)) = true := by kernel_rfl
theorem protocolEncode_fact19 : (Tryz.f3.resultTypes.all (fun t => Tryz.prog.readableRec t && decide (t < Tryz.prog.types.size))) = true := by kernel_rfl
theorem protocolEncode_fact20 : ((Rows.protocolEncodeRow.ifacesOut == Tryz.f3.resultTypes.toList.any (Tryz.prog.ifacesRec ·))) = true := by kernel_rfl
theorem protocolEncode_fact21 : ((Rows.protocolEncodeRow.loopsOut == Tryz.f3.resultTypes.toList.any (Tryz.prog.loopsFrom ·))) = true := by kernel_rfl
theorem protocolEncode_fact22 : ((Rows.protocolEncodeRow.plainKeys == Tryz.prog.plainKeys)) = true := fact22
theorem protocolEncode_fact23 : (Rows.protocolEncodeRow.shortTexts.isNone) = true := by kernel_rfl
theorem protocolEncode_fact26 : ((Rows.protocolEncodeRow.lifted == Tryz.prog.liftsFinal)) = true := fact26
theorem protocolEncode_fact27 : ((Tryz.prog.make == some Rows.protocolEncodeRow.make)) = true := fact27
theorem protocolEncode_fact28 : ((Rows.protocolEncodeRow.kinds == (if Rows.protocolEncodeRow.domain.isEmpty then [] else Tryz.f3.params.toList.map fun t => match Tryz.prog.underlying t with | some (.int k) => some k | _ => none))) = true := by kernel_rfl
theorem protocolEncode_fact29 : ((Rows.protocolEncodeRow.pinned == Rows.protocolEncodeRow.pinnedBy)) = true := by kernel_rfl
theorem protocolEncode_fact30 : ((Rows.protocolEncodeRow.veiled == (Tryz.f3.params.toList ++ Rows.protocolEncodeSpec.plain.varTypes Tryz.prog ++ Tryz.f3.resultTypes.toList).any (Tryz.prog.veiledRec ·))) = true := by kernel_rfl
theorem protocolEncode_fact31 : (Rows.protocolEncodeRow.veiledFits Tryz.prog Tryz.f3.params.toList (Tryz.f3.params.toList ++ Rows.protocolEncodeSpec.plain.varTypes Tryz.prog ++ Tryz.f3.resultTypes.toList)) = true := by kernel_rfl
theorem protocolEncode_closed : joinedFacts Tryz.prog 3 Tryz.f3 Rows.protocolEncodeSpec Rows.protocolEncodeRow = true :=
  band (band (band (band (band (band (band (band (band (band (band (band (band (band (band (band (band (band (band (band (band (band (band (band (band (band (band (band (band (band (band (protocolEncode_fact0) fact1) fact2) protocolEncode_fact3) protocolEncode_fact4) protocolEncode_fact5) fact6) protocolEncode_fact7) fact8) protocolEncode_fact9) protocolEncode_fact10) protocolEncode_fact11) protocolEncode_fact12) protocolEncode_fact13) protocolEncode_fact14) protocolEncode_fact15) protocolEncode_fact16) protocolEncode_fact17) protocolEncode_fact18) protocolEncode_fact19) protocolEncode_fact20) protocolEncode_fact21) protocolEncode_fact22) protocolEncode_fact23) fact24) fact25) protocolEncode_fact26) protocolEncode_fact27) protocolEncode_fact28) protocolEncode_fact29) protocolEncode_fact30) protocolEncode_fact31
theorem protocolEncode_name : Tryz.prog.funcNamed Rows.protocolEncodeRow.func = some 3 := by kernel_rfl
theorem protocolEncode_inst : Tryz.f3.isInstance Tryz.prog Rows.protocolEncodeRow.origin Rows.protocolEncodeRow.targs := of_decide_eq_true (by kernel_rfl)
theorem protocolEncode_wrap : Tryz.f3.isWrapper Tryz.prog Rows.protocolEncodeRow.wrapper Rows.protocolEncodeRow.mainSum := by unfold Func.isWrapper; first | (rw [if_pos (by decide +kernel)]; kernel_rfl) | (rw [if_neg (by decide +kernel)]; exact ⟨rfl, rfl⟩)
theorem protocolEncode_text : Rows.protocolEncodeRow.wfByText (OpenSpec.ofChange Rows.protocolEncodeSpec) = true := by kernel_rfl
theorem protocolEncode_goes : false = Rows.protocolEncodeRow.goesBy Tryz.prog := by kernel_rfl
theorem protocolEncode_stand : ([24].all fun u => !Tryz.prog.wantsStandIn u) = true := by kernel_rfl
end Go.Proofs.YthooajbhiikbfaaGreatDoor
