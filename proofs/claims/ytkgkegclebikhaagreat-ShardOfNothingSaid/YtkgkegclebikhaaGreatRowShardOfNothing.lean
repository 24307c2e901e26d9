/-
  The closed facts of the row of ShardOfNothing.
-/
import Derived.Test.YtkgkegclebikhaaGreatFacts
namespace Go.Proofs.YtkgkegclebikhaaGreat
theorem ShardOfNothing_wf : (Rows.shardOfNothingRow.wf (OpenSpec.ofChange Rows.shardOfNothingSpec)) = true := by kernel_rfl
theorem ShardOfNothing_readable : (Tryz.f12.params.all (Tryz.prog.readableRec ·)) = true := by kernel_rfl
theorem ShardOfNothing_named0 : (namedTie Tryz.prog Rows.shardOfNothingRow.named Rows.shardOfNothingSpec.vars) = true := by kernel_rfl
theorem ShardOfNothing_cstops : (Rows.shardOfNothingRow.stops == []) = true := by kernel_rfl
theorem ShardOfNothing_cknobs : (Rows.shardOfNothingRow.knobs == []) = true := by kernel_rfl
theorem ShardOfNothing_inPlace : (Rows.shardOfNothingRow.inPlace == Tryz.prog.inPlace 12) = true := by kernel_rfl
theorem ShardOfNothing_unfollowed : (Rows.shardOfNothingRow.unfollowed == Tryz.prog.unfollowed 12) = true := by kernel_rfl
theorem ShardOfNothing_recurses : (Rows.shardOfNothingRow.recurses == Tryz.prog.recurses 12) = true := by kernel_rfl
theorem ShardOfNothing_named : (Rows.shardOfNothingRow.named == Tryz.prog.varsNamed 12) = true := by kernel_rfl
theorem ShardOfNothing_maps : (Rows.shardOfNothingRow.maps == (Tryz.f12.params.toList ++ Rows.shardOfNothingSpec.plain.varTypes Tryz.prog).any (Tryz.prog.mapsRec ·)) = true := by kernel_rfl
theorem ShardOfNothing_ifaces : (Rows.shardOfNothingRow.ifaces == (Tryz.f12.params.toList ++ Rows.shardOfNothingSpec.plain.varTypes Tryz.prog).any (Tryz.prog.ifacesRec ·)) = true := by kernel_rfl
theorem ShardOfNothing_mapsOut : (Rows.shardOfNothingRow.mapsOut == Tryz.prog.mapsAmong Tryz.f12.resultTypes.toList) = true := by kernel_rfl
theorem ShardOfNothing_loops : (Rows.shardOfNothingRow.loops == (Tryz.f12.params.toList ++ Rows.shardOfNothingSpec.plain.varTypes Tryz.prog).any (Tryz.prog.loopsFrom ·)) = true := by kernel_rfl
theorem ShardOfNothing_wideKeys : (Rows.shardOfNothingRow.wideKeys == (Tryz.f12.params.toList ++ Rows.shardOfNothingSpec.plain.varTypes Tryz.prog ++ Tryz.f12.resultTypes.toList).any (Tryz.prog.wideKeysFrom ·)) = true := by kernel_rfl
theorem ShardOfNothing_vars : (Rows.shardOfNothingSpec.vars.all (Tryz.prog.varReadable ·)) = true := by kernel_rfl
theorem ShardOfNothing_results : (Tryz.f12.resultTypes.all (fun t => Tryz.prog.readableRec t && decide (t < Tryz.prog.types.size))) = true := by kernel_rfl
theorem ShardOfNothing_ifacesOut : (Rows.shardOfNothingRow.ifacesOut == Tryz.f12.resultTypes.toList.any (Tryz.prog.ifacesRec ·)) = true := by kernel_rfl
theorem ShardOfNothing_loopsOut : (Rows.shardOfNothingRow.loopsOut == Tryz.f12.resultTypes.toList.any (Tryz.prog.loopsFrom ·)) = true := by kernel_rfl
theorem ShardOfNothing_plainKeys : (Rows.shardOfNothingRow.plainKeys == Tryz.prog.plainKeys) = true := fk_plainKeys
theorem ShardOfNothing_short : (Rows.shardOfNothingRow.shortTexts.isNone) = true := by kernel_rfl
theorem ShardOfNothing_lifted : (Rows.shardOfNothingRow.lifted == Tryz.prog.liftsFinal) = true := fk_lifted
theorem ShardOfNothing_make : (Tryz.prog.make == some Rows.shardOfNothingRow.make) = true := by kernel_rfl
theorem ShardOfNothing_kinds : (Rows.shardOfNothingRow.kinds == (if Rows.shardOfNothingRow.domain.isEmpty then [] else Tryz.f12.params.toList.map fun t => match Tryz.prog.underlying t with | some (.int k) => some k | _ => none)) = true := by kernel_rfl
theorem ShardOfNothing_pinned : (Rows.shardOfNothingRow.pinned == Rows.shardOfNothingRow.pinnedBy) = true := by kernel_rfl
theorem ShardOfNothing_veiled : (Rows.shardOfNothingRow.veiled == (Tryz.f12.params.toList ++ Rows.shardOfNothingSpec.plain.varTypes Tryz.prog ++ Tryz.f12.resultTypes.toList).any (Tryz.prog.veiledRec ·)) = true := by kernel_rfl
theorem ShardOfNothing_veiledFits : (Rows.shardOfNothingRow.veiledFits Tryz.prog Tryz.f12.params.toList (Tryz.f12.params.toList ++ Rows.shardOfNothingSpec.plain.varTypes Tryz.prog ++ Tryz.f12.resultTypes.toList)) = true := by kernel_rfl

set_option maxRecDepth 100000 in
theorem ShardOfNothing_facts : joinedFacts Tryz.prog 12 Tryz.f12 Rows.shardOfNothingSpec Rows.shardOfNothingRow = true := by
  unfold joinedFacts
  exact and_tt (and_tt (and_tt (and_tt (and_tt (and_tt (and_tt (and_tt (and_tt (and_tt (and_tt (and_tt (and_tt (and_tt (and_tt (and_tt (and_tt (and_tt (and_tt (and_tt (and_tt (and_tt (and_tt (and_tt (and_tt (and_tt (and_tt (and_tt (and_tt (and_tt (and_tt (ShardOfNothing_wf) fk_laidOut) fk_mapsRowed) ShardOfNothing_readable) ShardOfNothing_named0) ShardOfNothing_cstops) fk_stops) ShardOfNothing_cknobs) fk_knobs) ShardOfNothing_inPlace) ShardOfNothing_unfollowed) ShardOfNothing_recurses) ShardOfNothing_named) ShardOfNothing_maps) ShardOfNothing_ifaces) ShardOfNothing_mapsOut) ShardOfNothing_loops) ShardOfNothing_wideKeys) ShardOfNothing_vars) ShardOfNothing_results) ShardOfNothing_ifacesOut) ShardOfNothing_loopsOut) ShardOfNothing_plainKeys) ShardOfNothing_short) fk_heard) fk_mayEnter) ShardOfNothing_lifted) ShardOfNothing_make) ShardOfNothing_kinds) ShardOfNothing_pinned) ShardOfNothing_veiled) ShardOfNothing_veiledFits
theorem ShardOfNothing_fn : Tryz.prog.funcNamed Rows.shardOfNothingRow.func = some 12 := by kernel_rfl
theorem ShardOfNothing_inst : Tryz.f12.isInstance Tryz.prog Rows.shardOfNothingRow.origin Rows.shardOfNothingRow.targs := of_decide_eq_true (by kernel_rfl)
theorem ShardOfNothing_wrap : Tryz.f12.isWrapper Tryz.prog Rows.shardOfNothingRow.wrapper Rows.shardOfNothingRow.mainSum := by unfold Func.isWrapper; first | (rw [if_pos (by decide +kernel)]; kernel_rfl) | (rw [if_neg (by decide +kernel)]; exact ⟨rfl, rfl⟩)
end Go.Proofs.YtkgkegclebikhaaGreat
