/-
  The closed facts of the rows: those of the program alone.
-/
import Derived.Test.YtbdnkdldmfnilaaGreatRows
import Derived.ProofKit
namespace Go.Proofs.YtbdnkdldmfnilaaGreat
theorem fk_laidOut : laidOutB Tryz.prog = true := by kernel_rfl
theorem fk_mapsRowed : mapsRowed Tryz.prog = true := by kernel_rfl
theorem fk_stops : (Tryz.prog.stops == []) = true := by kernel_rfl
theorem fk_knobs : (Tryz.prog.stopKnobs == []) = true := by kernel_rfl
theorem fk_plainKeys : (true == Tryz.prog.plainKeys) = true := by kernel_rfl
theorem fk_heard : Tryz.prog.stopsHeard = true := by kernel_rfl
theorem fk_mayEnter : Tryz.prog.mayEnter = true := by kernel_rfl
theorem fk_lifted : (false == Tryz.prog.liftsFinal) = true := by kernel_rfl
theorem and_tt {a b : Bool} (ha : a = true) (hb : b = true) : (a && b) = true := by rw [ha, hb]; rfl
end Go.Proofs.YtbdnkdldmfnilaaGreat
