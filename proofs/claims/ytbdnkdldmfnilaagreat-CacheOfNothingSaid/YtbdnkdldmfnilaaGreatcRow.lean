/-
  The closed facts of the row of CacheOfNothing.
-/
import Derived.Test.YtbdnkdldmfnilaaGreatcFacts
namespace Go.Proofs.YtbdnkdldmfnilaaGreat
theorem CacheOfNothing_wf : (Rows.cacheOfNothingRow.wf (OpenSpec.ofChange Rows.cacheOfNothingSpec)) = true := by kernel_rfl
theorem CacheOfNothing_readable : (Tryz.f3.params.all (Tryz.prog.readableRec ·)) = true := by kernel_rfl
theorem CacheOfNothing_named0 : (namedTie Tryz.prog Rows.cacheOfNothingRow.named Rows.cacheOfNothingSpec.vars) = true := by kernel_rfl
theorem CacheOfNothing_cstops : (Rows.cacheOfNothingRow.stops == []) = true := by kernel_rfl
theorem CacheOfNothing_cknobs : (Rows.cacheOfNothingRow.knobs == []) = true := by kernel_rfl
theorem CacheOfNothing_inPlace : (Rows.cacheOfNothingRow.inPlace == Tryz.prog.inPlace 3) = true := by kernel_rfl
theorem CacheOfNothing_unfollowed : (Rows.cacheOfNothingRow.unfollowed == Tryz.prog.unfollowed 3) = true := by kernel_rfl
theorem CacheOfNothing_recurses : (Rows.cacheOfNothingRow.recurses == Tryz.prog.recurses 3) = true := by kernel_rfl
theorem CacheOfNothing_named : (Rows.cacheOfNothingRow.named == Tryz.prog.varsNamed 3) = true := by kernel_rfl
theorem CacheOfNothing_maps : (Rows.cacheOfNothingRow.maps == (Tryz.f3.params.toList ++ Rows.cacheOfNothingSpec.plain.varTypes Tryz.prog).any (Tryz.prog.mapsRec ·)) = true := by kernel_rfl
theorem CacheOfNothing_ifaces : (Rows.cacheOfNothingRow.ifaces == (Tryz.f3.params.toList ++ Rows.cacheOfNothingSpec.plain.varTypes Tryz.prog).any (Tryz.prog.ifacesRec ·)) = true := by kernel_rfl
theorem CacheOfNothing_mapsOut : (Rows.cacheOfNothingRow.mapsOut == Tryz.prog.mapsAmong Tryz.f3.resultTypes.toList) = true := by kernel_rfl
theorem CacheOfNothing_loops : (Rows.cacheOfNothingRow.loops == (Tryz.f3.params.toList ++ Rows.cacheOfNothingSpec.plain.varTypes Tryz.prog).any (Tryz.prog.loopsFrom ·)) = true := by kernel_rfl
theorem CacheOfNothing_wideKeys : (Rows.cacheOfNothingRow.wideKeys == (Tryz.f3.params.toList ++ Rows.cacheOfNothingSpec.plain.varTypes Tryz.prog ++ Tryz.f3.resultTypes.toList).any (Tryz.prog.wideKeysFrom ·)) = true := by kernel_rfl
theorem CacheOfNothing_vars : (Rows.cacheOfNothingSpec.vars.all (Tryz.prog.varReadable ·)) = true := by kernel_rfl
theorem CacheOfNothing_results : (Tryz.f3.resultTypes.all (fun t => Tryz.prog.readableRec t && decide (t < Tryz.prog.types.size))) = true := by kernel_rfl
theorem CacheOfNothing_ifacesOut : (Rows.cacheOfNothingRow.ifacesOut == Tryz.f3.resultTypes.toList.any (Tryz.prog.ifacesRec ·)) = true := by kernel_rfl
theorem CacheOfNothing_loopsOut : (Rows.cacheOfNothingRow.loopsOut == Tryz.f3.resultTypes.toList.any (Tryz.prog.loopsFrom ·)) = true := by kernel_rfl
theorem CacheOfNothing_plainKeys : (Rows.cacheOfNothingRow.plainKeys == Tryz.prog.plainKeys) = true := fk_plainKeys
theorem CacheOfNothing_short : (Rows.cacheOfNothingRow.shortTexts.isNone) = true := by kernel_rfl
theorem CacheOfNothing_lifted : (Rows.cacheOfNothingRow.lifted == Tryz.prog.liftsFinal) = true := fk_lifted
theorem CacheOfNothing_make : (Tryz.prog.make == some Rows.cacheOfNothingRow.make) = true := by kernel_rfl
theorem CacheOfNothing_kinds : (Rows.cacheOfNothingRow.kinds == (if Rows.cacheOfNothingRow.domain.isEmpty then [] else Tryz.f3.params.toList.map fun t => match Tryz.prog.underlying t with | some (.int k) => some k | _ => none)) = true := by kernel_rfl
theorem CacheOfNothing_pinned : (Rows.cacheOfNothingRow.pinned == Rows.cacheOfNothingRow.pinnedBy) = true := by kernel_rfl
theorem CacheOfNothing_veiled : (Rows.cacheOfNothingRow.veiled == (Tryz.f3.params.toList ++ Rows.cacheOfNothingSpec.plain.varTypes Tryz.prog ++ Tryz.f3.resultTypes.toList).any (Tryz.prog.veiledRec ·)) = true := by kernel_rfl
theorem CacheOfNothing_veiledFits : (Rows.cacheOfNothingRow.veiledFits Tryz.prog Tryz.f3.params.toList (Tryz.f3.params.toList ++ Rows.cacheOfNothingSpec.plain.varTypes Tryz.prog ++ Tryz.f3.resultTypes.toList)) = true := by kernel_rfl

set_option maxRecDepth 100000 in
theorem CacheOfNothing_facts : joinedFacts Tryz.prog 3 Tryz.f3 Rows.cacheOfNothingSpec Rows.cacheOfNothingRow = true := by
  unfold joinedFacts
  exact and_tt (and_tt (and_tt (and_tt (and_tt (and_tt (and_tt (and_tt (and_tt (and_tt (and_tt (and_tt (and_tt (and_tt (and_tt (and_tt (and_tt (and_tt (and_tt (and_tt (and_tt (and_tt (and_tt (and_tt (and_tt (and_tt (and_tt (and_tt (and_tt (and_tt (and_tt (CacheOfNothing_wf) fk_laidOut) fk_mapsRowed) CacheOfNothing_readable) CacheOfNothing_named0) CacheOfNothing_cstops) fk_stops) CacheOfNothing_cknobs) fk_knobs) CacheOfNothing_inPlace) CacheOfNothing_unfollowed) CacheOfNothing_recurses) CacheOfNothing_named) CacheOfNothing_maps) CacheOfNothing_ifaces) CacheOfNothing_mapsOut) CacheOfNothing_loops) CacheOfNothing_wideKeys) CacheOfNothing_vars) CacheOfNothing_results) CacheOfNothing_ifacesOut) CacheOfNothing_loopsOut) CacheOfNothing_plainKeys) CacheOfNothing_short) fk_heard) fk_mayEnter) CacheOfNothing_lifted) CacheOfNothing_make) CacheOfNothing_kinds) CacheOfNothing_pinned) CacheOfNothing_veiled) CacheOfNothing_veiledFits
theorem CacheOfNothing_fn : Tryz.prog.funcNamed Rows.cacheOfNothingRow.func = some 3 := by kernel_rfl
theorem CacheOfNothing_inst : Tryz.f3.isInstance Tryz.prog Rows.cacheOfNothingRow.origin Rows.cacheOfNothingRow.targs := of_decide_eq_true (by kernel_rfl)
theorem CacheOfNothing_wrap : Tryz.f3.isWrapper Tryz.prog Rows.cacheOfNothingRow.wrapper Rows.cacheOfNothingRow.mainSum := by unfold Func.isWrapper; first | (rw [if_pos (by decide +kernel)]; kernel_rfl) | (rw [if_neg (by decide +kernel)]; exact ⟨rfl, rfl⟩)
end Go.Proofs.YtbdnkdldmfnilaaGreat
