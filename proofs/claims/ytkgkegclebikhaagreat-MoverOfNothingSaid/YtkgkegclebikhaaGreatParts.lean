/-
  Parts of a body; a known call that answers true.
-/
import Derived.Test.YtkgkegclebikhaaGreatBase
namespace Go.Ab
open Go.Proofs

def trueG (args : List V) (H : Heap) : Option (V × Heap) :=
  match args with
  | [] => some (.bool true, H)
  | _ => none

/-! ### Parts of a body -/
def Code.fst' : Code → Code | .seq a _ => a | c => c
def Code.snd' : Code → Code | .seq _ b => b | c => c
def fin (C : Cfg) (fn : Func) : Option (Out × Env × Heap) → Option (V × Heap)
  | some (.normal, env, H') | some (.ret, env, H') => (evRes C H' env fn.results.toList).map fun vs => (tup vs, H')
  | _ => none
theorem evBody_fin {C : Cfg} {call : FuncId → List V → Heap → Option (V × Heap)} {n : Nat} {fn : Func} {args : List V} {H : Heap} {c : Code} (hb : fn.body = some c) :
    evBody C call n fn args H = fin C fn (evCode C call n c (args ++ List.replicate (fn.ntmps - args.length) V.un) H) := by
  unfold evBody
  rw [hb]
  simp only []
  unfold fin
  rfl
theorem evCode_seq_normal {C : Cfg} {call : FuncId → List V → Heap → Option (V × Heap)} {n : Nat} {a b : Code} {env env' : Env} {H H' : Heap} (h : evCode C call n a env H = some (.normal, env', H')) :
    evCode C call n (.seq a b) env H = evCode C call n b env' H' := by simp only [evCode, h]
theorem evCode_seq_ret {C : Cfg} {call : FuncId → List V → Heap → Option (V × Heap)} {n : Nat} {a b : Code} {env env' : Env} {H H' : Heap} (h : evCode C call n a env H = some (.ret, env', H')) :
    evCode C call n (.seq a b) env H = some (.ret, env', H') := by simp only [evCode, h]
theorem evCode_cond {C : Cfg} {call : FuncId → List V → Heap → Option (V × Heap)} {n : Nat} {x y : Code} {c : Operand} {env : Env} {H : Heap} {t : Bool} (h : opd C env c = some (.bool t)) :
    evCode C call n (.cond c x y) env H = if t then evCode C call n x env H else evCode C call n y env H := by simp only [evCode, h]

end Go.Ab
