/-
  The closed facts of the row of MoverOfNothing.
-/
import Derived.Test.YtkgkegclebikhaaGreatFacts
namespace Go.Proofs.YtkgkegclebikhaaGreat
theorem MoverOfNothing_wf : (Rows.moverOfNothingRow.wf (OpenSpec.ofChange Rows.moverOfNothingSpec)) = true := by kernel_rfl
theorem MoverOfNothing_readable : (Tryz.f5.params.all (Tryz.prog.readableRec ·)) = true := by kernel_rfl
theorem MoverOfNothing_named0 : (namedTie Tryz.prog Rows.moverOfNothingRow.named Rows.moverOfNothingSpec.vars) = true := by kernel_rfl
theorem MoverOfNothing_cstops : (Rows.moverOfNothingRow.stops == []) = true := by kernel_rfl
theorem MoverOfNothing_cknobs : (Rows.moverOfNothingRow.knobs == []) = true := by kernel_rfl
theorem MoverOfNothing_inPlace : (Rows.moverOfNothingRow.inPlace == Tryz.prog.inPlace 5) = true := by kernel_rfl
theorem MoverOfNothing_unfollowed : (Rows.moverOfNothingRow.unfollowed == Tryz.prog.unfollowed 5) = true := by kernel_rfl
theorem MoverOfNothing_recurses : (Rows.moverOfNothingRow.recurses == Tryz.prog.recurses 5) = true := by kernel_rfl
theorem MoverOfNothing_named : (Rows.moverOfNothingRow.named == Tryz.prog.varsNamed 5) = true := by kernel_rfl
theorem MoverOfNothing_maps : (Rows.moverOfNothingRow.maps == (Tryz.f5.params.toList ++ Rows.moverOfNothingSpec.plain.varTypes Tryz.prog).any (Tryz.prog.mapsRec ·)) = true := by kernel_rfl
theorem MoverOfNothing_ifaces : (Rows.moverOfNothingRow.ifaces == (Tryz.f5.params.toList ++ Rows.moverOfNothingSpec.plain.varTypes Tryz.prog).any (Tryz.prog.ifacesRec ·)) = true := by kernel_rfl
theorem MoverOfNothing_mapsOut : (Rows.moverOfNothingRow.mapsOut == Tryz.prog.mapsAmong Tryz.f5.resultTypes.toList) = true := by kernel_rfl
theorem MoverOfNothing_loops : (Rows.moverOfNothingRow.loops == (Tryz.f5.params.toList ++ Rows.moverOfNothingSpec.plain.varTypes Tryz.prog).any (Tryz.prog.loopsFrom ·)) = true := by kernel_rfl
theorem MoverOfNothing_wideKeys : (Rows.moverOfNothingRow.wideKeys == (Tryz.f5.params.toList ++ Rows.moverOfNothingSpec.plain.varTypes Tryz.prog ++ Tryz.f5.resultTypes.toList).any (Tryz.prog.wideKeysFrom ·)) = true := by kernel_rfl
theorem MoverOfNothing_vars : (Rows.moverOfNothingSpec.vars.all (Tryz.prog.varReadable ·)) = true := by kernel_rfl
theorem MoverOfNothing_results : (Tryz.f5.resultTypes.all (fun t => Tryz.prog.readableRec t && decide (t < Tryz.prog.types.size))) = true := by kernel_rfl
theorem MoverOfNothing_ifacesOut : (Rows.moverOfNothingRow.ifacesOut == Tryz.f5.resultTypes.toList.any (Tryz.prog.ifacesRec ·)) = true := by kernel_rfl
theorem MoverOfNothing_loopsOut : (Rows.moverOfNothingRow.loopsOut == Tryz.f5.resultTypes.toList.any (Tryz.prog.loopsFrom ·)) = true := by kernel_rfl
theorem MoverOfNothing_plainKeys : (Rows.moverOfNothingRow.plainKeys == Tryz.prog.plainKeys) = true := fk_plainKeys
theorem MoverOfNothing_short : (Rows.moverOfNothingRow.shortTexts.isNone) = true := by kernel_rfl
theorem MoverOfNothing_lifted : (Rows.moverOfNothingRow.lifted == Tryz.prog.liftsFinal) = true := fk_lifted
theorem MoverOfNothing_make : (Tryz.prog.make == some Rows.moverOfNothingRow.make) = true := by kernel_rfl
theorem MoverOfNothing_kinds : (Rows.moverOfNothingRow.kinds == (if Rows.moverOfNothingRow.domain.isEmpty then [] else Tryz.f5.params.toList.map fun t => match Tryz.prog.underlying t with | some (.int k) => some k | _ => none)) = true := by kernel_rfl
theorem MoverOfNothing_pinned : (Rows.moverOfNothingRow.pinned == Rows.moverOfNothingRow.pinnedBy) = true := by kernel_rfl
theorem MoverOfNothing_veiled : (Rows.moverOfNothingRow.veiled == (Tryz.f5.params.toList ++ Rows.moverOfNothingSpec.plain.varTypes Tryz.prog ++ Tryz.f5.resultTypes.toList).any (Tryz.prog.veiledRec ·)) = true := by kernel_rfl
theorem MoverOfNothing_veiledFits : (Rows.moverOfNothingRow.veiledFits Tryz.prog Tryz.f5.params.toList (Tryz.f5.params.toList ++ Rows.moverOfNothingSpec.plain.varTypes Tryz.prog ++ Tryz.f5.resultTypes.toList)) = true := by kernel_rfl

set_option maxRecDepth 100000 in
theorem MoverOfNothing_facts : joinedFacts Tryz.prog 5 Tryz.f5 Rows.moverOfNothingSpec Rows.moverOfNothingRow = true := by
  unfold joinedFacts
  exact and_tt (and_tt (and_tt (and_tt (and_tt (and_tt (and_tt (and_tt (and_tt (and_tt (and_tt (and_tt (and_tt (and_tt (and_tt (and_tt (and_tt (and_tt (and_tt (and_tt (and_tt (and_tt (and_tt (and_tt (and_tt (and_tt (and_tt (and_tt (and_tt (and_tt (and_tt (MoverOfNothing_wf) fk_laidOut) fk_mapsRowed) MoverOfNothing_readable) MoverOfNothing_named0) MoverOfNothing_cstops) fk_stops) MoverOfNothing_cknobs) fk_knobs) MoverOfNothing_inPlace) MoverOfNothing_unfollowed) MoverOfNothing_recurses) MoverOfNothing_named) MoverOfNothing_maps) MoverOfNothing_ifaces) MoverOfNothing_mapsOut) MoverOfNothing_loops) MoverOfNothing_wideKeys) MoverOfNothing_vars) MoverOfNothing_results) MoverOfNothing_ifacesOut) MoverOfNothing_loopsOut) MoverOfNothing_plainKeys) MoverOfNothing_short) fk_heard) fk_mayEnter) MoverOfNothing_lifted) MoverOfNothing_make) MoverOfNothing_kinds) MoverOfNothing_pinned) MoverOfNothing_veiled) MoverOfNothing_veiledFits
theorem MoverOfNothing_fn : Tryz.prog.funcNamed Rows.moverOfNothingRow.func = some 5 := by kernel_rfl
theorem MoverOfNothing_inst : Tryz.f5.isInstance Tryz.prog Rows.moverOfNothingRow.origin Rows.moverOfNothingRow.targs := of_decide_eq_true (by kernel_rfl)
theorem MoverOfNothing_wrap : Tryz.f5.isWrapper Tryz.prog Rows.moverOfNothingRow.wrapper Rows.moverOfNothingRow.mainSum := by unfold Func.isWrapper; first | (rw [if_pos (by decide +kernel)]; kernel_rfl) | (rw [if_neg (by decide +kernel)]; exact ⟨rfl, rfl⟩)
end Go.Proofs.YtkgkegclebikhaaGreat
