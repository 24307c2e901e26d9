/-
  The program, with strings.Join by its law; what the examples come to.
-/
import Derived.Test.YtkgkegclebikhaaGreatShelf
import Derived.Test.YtkgkegclebikhaaGreatAbLib
import Derived.KernelRfl
namespace Go.Ab
open Go.Proofs

noncomputable def C0 : Cfg := { P := Tryz.prog, ext := fun f => if f = 347 then some joinG else none, gl := fun _ => false }

theorem join_law : JoinLaw Tryz.prog 347 := ⟨Tryz.strings_Join_none, Tryz.strings_Join⟩

theorem names_all : (Tryz.prog.funcs.toList.all fun fn => !(fn.name == "runtime.NumGoroutine")) = true := by kernel_rfl
theorem names_ok (f : FuncId) (fn : Func) (h : Tryz.prog.funcs[f]? = some fn) : (fn.name == "runtime.NumGoroutine") = false := by
  have := List.all_eq_true.1 names_all fn (by rw [← Array.getElem?_toList] at h; exact List.mem_of_getElem? h)
  simpa using this
theorem mixed_ok : Tryz.prog.follows .mixedOrders = true := by kernel_rfl

theorem fit0 : Fit C0 where
  mixed := mixed_ok
  names := names_ok
  ext := by
    intro f g args H v H' hg h
    simp only [C0] at hg
    split at hg
    · rename_i hf
      cases hg
      subst hf
      exact joinG_ok (C := C0) join_law h
    · cases hg
  exts := by
    intro f g hg
    simp only [C0] at hg
    split at hg
    · rename_i hf
      subst hf
      exact ⟨Tryz.f347, Tryz.func347, by kernel_rfl⟩
    · cases hg

/-- The example of chapter 23. -/
theorem known23 : (ev C0 100 18 [] ⟨.leaf, 4⟩).map (·.1) = some (.bool true) := by kernel_rfl
theorem known23_meets {C' : Cfg} (hP : C'.P = Tryz.prog) (H : Heap) : Meets C' 18 [] H (.bool true) H :=
  meets_closed fit0 (fun _ => rfl) hP known23 rfl (fun _ h => by cases h) H
end Go.Ab
