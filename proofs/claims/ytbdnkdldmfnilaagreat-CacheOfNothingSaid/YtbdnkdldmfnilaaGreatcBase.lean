/-
  The program of seat b; what its example comes to.
-/
import Derived.Test.YtbdnkdldmfnilaaGreatProg
import Derived.Test.YtbdnkdldmfnilaaGreatAbLib
import Derived.KernelRfl
namespace Go.Ab
open Go.Proofs

noncomputable def D0 : Cfg := { P := Tryz.prog, ext := fun _ => none, gl := fun _ => false }

theorem names_all : (Tryz.prog.funcs.toList.all fun fn => !(fn.name == "runtime.NumGoroutine")) = true := by kernel_rfl
theorem names_ok (f : FuncId) (fn : Func) (h : Tryz.prog.funcs[f]? = some fn) : (fn.name == "runtime.NumGoroutine") = false := by
  have := List.all_eq_true.1 names_all fn (by rw [← Array.getElem?_toList] at h; exact List.mem_of_getElem? h)
  simpa using this
theorem mixed_ok : Tryz.prog.follows .mixedOrders = true := by kernel_rfl

theorem fitD0 : Fit D0 where
  mixed := mixed_ok
  names := names_ok
  ext := by intro f g args H v H' hg h; cases hg
  exts := by intro f g hg; cases hg

/-- The example of chapter 26. -/
theorem known26 : (ev D0 100 15 [] ⟨.leaf, 4⟩).map (·.1) = some (.bool true) := by kernel_rfl
theorem known26_meets {C' : Cfg} (hP : C'.P = Tryz.prog) (H : Heap) : Meets C' 15 [] H (.bool true) H :=
  meets_closed fitD0 (fun _ => rfl) hP known26 rfl (fun _ h => by cases h) H

def trueG (args : List V) (H : Heap) : Option (V × Heap) :=
  match args with
  | [] => some (.bool true, H)
  | _ => none

noncomputable def D1 : Cfg := { P := Tryz.prog, ext := fun f => if f = 15 then some trueG else none, gl := fun _ => false }
theorem fitD1 : Fit D1 where
  mixed := mixed_ok
  names := names_ok
  ext := by
    intro f g args H v H' hg h
    simp only [D1] at hg
    split at hg
    · rename_i hf
      cases hg
      subst hf
      unfold trueG at h
      split at h
      · simp only [Option.some.injEq, Prod.mk.injEq] at h
        obtain ⟨rfl, rfl⟩ := h
        exact known26_meets (C' := D1) rfl H
      · cases h
    · cases hg
  exts := by
    intro f g hg
    simp only [D1] at hg
    split at hg
    · rename_i hf
      subst hf
      exact ⟨Tryz.f15, Tryz.func15, by kernel_rfl⟩
    · cases hg
end Go.Ab
