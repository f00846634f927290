/- Closed facts of the row of emendatelaw55.ProtocolPrefix, each by the kernel, and their sum. No condition. -/
import Derived.Test.YthooajbhiikbfaaGreatDoorEmRF
import Derived.SevenTiedAt
namespace Go.Proofs.YthooajbhiikbfaaGreatDoor
open Go
set_option maxRecDepth 100000
theorem protocolPrefix_fact0 : (Rows.protocolPrefixRow.wf (OpenSpec.ofChange Rows.protocolPrefixSpec)) = true := by kernel_rfl
theorem protocolPrefix_fact3 : (Tryz.f6.params.all (Tryz.prog.readableRec ·)) = true := by kernel_rfl
theorem protocolPrefix_fact4 : (namedTie Tryz.prog Rows.protocolPrefixRow.named Rows.protocolPrefixSpec.vars) = true := by kernel_rfl
theorem protocolPrefix_fact5 : ((Rows.protocolPrefixRow.stops == [])) = true := by kernel_rfl
theorem protocolPrefix_fact7 : ((Rows.protocolPrefixRow.knobs == [])) = true := by kernel_rfl
theorem protocolPrefix_fact9 : ((Rows.protocolPrefixRow.inPlace == Tryz.prog.inPlace 6)) = true := by kernel_rfl
theorem protocolPrefix_fact10 : ((Rows.protocolPrefixRow.unfollowed == Tryz.prog.unfollowed 6)) = true := by kernel_rfl
theorem protocolPrefix_fact11 : ((Rows.protocolPrefixRow.recurses == Tryz.prog.recurses 6)) = true := by kernel_rfl
theorem protocolPrefix_fact12 : ((Rows.protocolPrefixRow.named == Tryz.prog.varsNamed 6)) = true := by kernel_rfl
theorem protocolPrefix_fact13 : ((Rows.protocolPrefixRow.maps == (Tryz.f6.params.toList ++ Rows.protocolPrefixSpec.plain.varTypes Tryz.prog).any (Tryz.prog.mapsRec ·))) = true := by kernel_rfl
theorem protocolPrefix_fact14 : ((Rows.protocolPrefixRow.ifaces == (Tryz.f6.params.toList ++ Rows.protocolPrefixSpec.plain.varTypes Tryz.prog).any (Tryz.prog.ifacesRec ·))) = true := by kernel_rfl
theorem protocolPrefix_fact15 : ((Rows.protocolPrefixRow.mapsOut == Tryz.prog.mapsAmong Tryz.f6.resultTypes.toList)) = true := by kernel_rfl
theorem protocolPrefix_fact16 : ((Rows.protocolPrefixRow.loops == (Tryz.f6.params.toList ++ Rows.protocolPrefixSpec.plain.varTypes Tryz.prog).any (Tryz.prog.loopsFrom ·))) = true := by kernel_rfl
theorem protocolPrefix_fact17 : ((Rows.protocolPrefixRow.wideKeys == (Tryz.f6.params.toList ++ Rows.protocolPrefixSpec.plain.varTypes Tryz.prog ++ Tryz.f6.resultTypes.toList).any (Tryz.prog.wideKeysFrom ·))) = true := by kernel_rfl
theorem protocolPrefix_fact18 : (Rows.protocolPrefixSpec.vars.all (Tryz.prog.varReadable ·)) = true := by kernel_rfl
theorem protocolPrefix_fact19 : (Tryz.f6.resultTypes.all (fun t => Tryz.prog.readableRec t && decide (t < Tryz.prog.types.size))) = true := by kernel_rfl
theorem protocolPrefix_fact20 : ((Rows.protocolPrefixRow.ifacesOut == Tryz.f6.resultTypes.toList.any (Tryz.prog.ifacesRec ·))) = true := by kernel_rfl
theorem protocolPrefix_fact21 : ((Rows.protocolPrefixRow.loopsOut == Tryz.f6.resultTypes.toList.any (Tryz.prog.loopsFrom ·))) = true := by kernel_rfl
theorem protocolPrefix_fact22 : ((Rows.protocolPrefixRow.plainKeys == Tryz.prog.plainKeys)) = true := fact22
theorem protocolPrefix_fact23 : (Rows.protocolPrefixRow.shortTexts.isNone) = true := by kernel_rfl
theorem protocolPrefix_fact26 : ((Rows.protocolPrefixRow.lifted == Tryz.prog.liftsFinal)) = true := fact26
theorem protocolPrefix_fact27 : ((Tryz.prog.make == some Rows.protocolPrefixRow.make)) = true := fact27
theorem protocolPrefix_fact28 : ((Rows.protocolPrefixRow.kinds == (if Rows.protocolPrefixRow.domain.isEmpty then [] else Tryz.f6.params.toList.map fun t => match Tryz.prog.underlying t with | some (.int k) => some k | _ => none))) = true := by kernel_rfl
theorem protocolPrefix_fact29 : ((Rows.protocolPrefixRow.pinned == Rows.protocolPrefixRow.pinnedBy)) = true := by kernel_rfl
theorem protocolPrefix_fact30 : ((Rows.protocolPrefixRow.veiled == (Tryz.f6.params.toList ++ Rows.protocolPrefixSpec.plain.varTypes Tryz.prog ++ Tryz.f6.resultTypes.toList).any (Tryz.prog.veiledRec ·))) = true := by kernel_rfl
theorem protocolPrefix_fact31 : (Rows.protocolPrefixRow.veiledFits Tryz.prog Tryz.f6.params.toList (Tryz.f6.params.toList ++ Rows.protocolPrefixSpec.plain.varTypes Tryz.prog ++ Tryz.f6.resultTypes.toList)) = true := by kernel_rfl
theorem protocolPrefix_closed : joinedFacts Tryz.prog 6 Tryz.f6 Rows.protocolPrefixSpec Rows.protocolPrefixRow = true :=
  band (band (band (band (band (band (band (band (band (band (band (band (band (band (band (band (band (band (band (band (band (band (band (band (band (band (band (band (band (band (band (protocolPrefix_fact0) fact1) fact2) protocolPrefix_fact3) protocolPrefix_fact4) protocolPrefix_fact5) fact6) protocolPrefix_fact7) fact8) protocolPrefix_fact9) protocolPrefix_fact10) protocolPrefix_fact11) protocolPrefix_fact12) protocolPrefix_fact13) protocolPrefix_fact14) protocolPrefix_fact15) protocolPrefix_fact16) protocolPrefix_fact17) protocolPrefix_fact18) protocolPrefix_fact19) protocolPrefix_fact20) protocolPrefix_fact21) protocolPrefix_fact22) protocolPrefix_fact23) fact24) fact25) protocolPrefix_fact26) protocolPrefix_fact27) protocolPrefix_fact28) protocolPrefix_fact29) protocolPrefix_fact30) protocolPrefix_fact31
theorem protocolPrefix_name : Tryz.prog.funcNamed Rows.protocolPrefixRow.func = some 6 := by kernel_rfl
theorem protocolPrefix_inst : Tryz.f6.isInstance Tryz.prog Rows.protocolPrefixRow.origin Rows.protocolPrefixRow.targs := of_decide_eq_true (by kernel_rfl)
theorem protocolPrefix_wrap : Tryz.f6.isWrapper Tryz.prog Rows.protocolPrefixRow.wrapper Rows.protocolPrefixRow.mainSum := by unfold Func.isWrapper; first | (rw [if_pos (by decide +kernel)]; kernel_rfl) | (rw [if_neg (by decide +kernel)]; exact ⟨rfl, rfl⟩)
theorem protocolPrefix_text : Rows.protocolPrefixRow.wfByText (OpenSpec.ofChange Rows.protocolPrefixSpec) = true := by kernel_rfl
theorem protocolPrefix_goes : false = Rows.protocolPrefixRow.goesBy Tryz.prog := by kernel_rfl
theorem protocolPrefix_stand : ([24, 35].all fun u => !Tryz.prog.wantsStandIn u) = true := by kernel_rfl
end Go.Proofs.YthooajbhiikbfaaGreatDoor
