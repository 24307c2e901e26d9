/-
  CacheOfNothing: the law's body, evaluated.
-/
import Derived.Test.YtbdnkdldmfnilaaGreatcBase
namespace Go.Ab
open Go.Proofs

/-! ### Parts of a body -/
def Code.fst' : Code → Code | .seq a _ => a | c => c
def Code.snd' : Code → Code | .seq _ b => b | c => c
def Code.inner' : Code → Code | .block _ b => b | .loop b => b | c => c
def Code.ops' : Code → Array Oper | .region _ ops _ => ops | _ => #[]
def fin (C : Cfg) (fn : Func) : Option (Out × Env × Heap) → Option (V × Heap)
  | some (.normal, env, H') | some (.ret, env, H') => (evRes C H' env fn.results.toList).map fun vs => (tup vs, H')
  | _ => none
theorem evBody_fin {C : Cfg} {call : FuncId → List V → Heap → Option (V × Heap)} {n : Nat} {fn : Func} {args : List V} {H : Heap} {c : Code} (hb : fn.body = some c) :
    evBody C call n fn args H = fin C fn (evCode C call n c (args ++ List.replicate (fn.ntmps - args.length) V.un) H) := by
  unfold evBody
  rw [hb]
  simp only []
  unfold fin
  rfl
theorem evSeq_append {C : Cfg} {call : FuncId → List V → Heap → Option (V × Heap)} {ops : Array Oper} : ∀ (l1 l2 : List Oper) (env e : Env) (H h : Heap), evSeq C call ops l1 env H = some (e, h) → evSeq C call ops (l1 ++ l2) env H = evSeq C call ops l2 e h
  | [], l2, env, e, H, h, he => by
    simp only [evSeq, Option.some.injEq, Prod.mk.injEq] at he
    obtain ⟨rfl, rfl⟩ := he
    rfl
  | o :: l1, l2, env, e, H, h, he => by
    simp only [List.cons_append, evSeq] at he ⊢
    split at he
    · rename_i hw
      rw [if_pos hw]
      split at he
      · rename_i v H1 hv
        exact evSeq_append l1 l2 _ _ _ _ he
      · cases he
    · rename_i hw
      rw [if_neg hw]
      exact evSeq_append l1 l2 _ _ _ _ he
theorem evSeq_split {C : Cfg} {call : FuncId → List V → Heap → Option (V × Heap)} {ops : Array Oper} (k : Nat) {l : List Oper} {env e : Env} {H h : Heap} (he : evSeq C call ops (l.take k) env H = some (e, h)) : evSeq C call ops l env H = evSeq C call ops (l.drop k) e h := by
  conv => lhs; rw [← List.take_append_drop k l]
  exact evSeq_append _ _ _ _ _ _ he

section
variable (k n : Int) (key val : ByteArray) (call : FuncId → List V → Heap → Option (V × Heap))

/-- The heap behind the law's first two objects. -/
def Ho : Heap := (Heap.new (Heap.new ⟨.leaf, 4⟩ [.int .i64 k, .str key, .str val, .int .i64 n]).2 [.int .i64 k, .str key, .str val, .int .i64 n]).2
def sl5 : V := .sl 5 0 1 4 (.ex 1)

noncomputable def b4 : Code := match Tryz.f4.body with | some c => c | none => .skip
noncomputable def b4a : Code := Code.fst' b4
noncomputable def b4b : Code := Code.fst' (Code.fst' (Code.snd' b4))
noncomputable def b4L : Code := Code.inner' (Code.inner' (Code.snd' (Code.fst' (Code.snd' b4))))
noncomputable def b4T : Code := Code.snd' (Code.snd' b4)
noncomputable def b4c : Code := Code.fst' b4L
noncomputable def b4i : Code := Code.inner' (Code.fst' (Code.snd' b4L))
noncomputable def b4r : Code := Code.fst' b4i
noncomputable def b4d : Code := Code.snd' b4i
noncomputable def b4n : Code := Code.snd' (Code.snd' b4L)
theorem b4_eq : b4 = .seq b4a (.seq (.seq b4b (.block 0 (.loop (.seq b4c (.seq (.block 1 (.seq (.region 4 (Code.ops' b4r) false) b4d)) b4n))))) b4T) := by kernel_rfl
theorem b4_sel : selAt (Code.ops' b4r) = none := by kernel_rfl

def q0 : Env := [sl5] ++ List.replicate 29 V.un
def q1 : Env := (q0.set 2 (.bool false)).set 3 (.int .i64 0)
def q2 : Env := (((((((q1.set 4 (.int .i64 0)).set 5 sl5).set 6 (.int .i64 1)).set 7 (.bool true)).set 8 (.bool true)).set 9 (.int .i64 0)).set 10 (.bool true)).set 11 (.bool true)
def q3 (key : ByteArray) (b : Bool) : Env := (((((((q2.set 14 sl5).set 15 (.int .i64 0)).set 16 (.ptr 5 0)).set 17 (.ptr 5 1)).set 18 (.str key)).set 19 (.int .i64 key.size)).set 20 (.bool b)).set 21 (.bool b)
def q4 (key val : ByteArray) (b : Bool) : Env := ((((((((q3 key false).set 22 sl5).set 23 (.int .i64 0)).set 24 (.ptr 5 0)).set 25 (.ptr 5 2)).set 26 (.str val)).set 27 (.int .i64 val.size)).set 28 (.bool b)).set 29 (.bool b)
def q5 (key val : ByteArray) : Env := (((q4 key val false).set 12 (.int .i64 0)).set 13 (.int .i64 1)).set 3 (.int .i64 1)
def q6 (key val : ByteArray) : Env := ((((((((q5 key val).set 4 (.int .i64 1)).set 5 sl5).set 6 (.int .i64 1)).set 7 (.bool false)).set 8 (.bool false)).set 9 V.un).set 10 V.un).set 11 (.bool false)

theorem h4a : evCode D1 call 5 b4a q0 (Ho k n key val) = some (.normal, q0.set 2 (.bool false), Ho k n key val) := by kernel_rfl
theorem h4b : evCode D1 call 5 b4b (q0.set 2 (.bool false)) (Ho k n key val) = some (.normal, q1, Ho k n key val) := by kernel_rfl
theorem h4c : evCode D1 call 5 b4c q1 (Ho k n key val) = some (.normal, q2, Ho k n key val) := by kernel_rfl
theorem h4r1 : evSeq D1 call (Code.ops' b4r) ((Code.ops' b4r).toList.take 8) q2 (Ho k n key val) = some (q3 key (decide ((key.size : Int) > 40)), Ho k n key val) := by kernel_rfl
theorem h4r2t : evSeq D1 call (Code.ops' b4r) ((Code.ops' b4r).toList.drop 8) (q3 key true) (Ho k n key val) = some ((q3 key true).set 29 (.bool true), Ho k n key val) := by kernel_rfl
theorem h4dt : evCode D1 call 5 b4d ((q3 key true).set 29 (.bool true)) (Ho k n key val) = some (.ret, ((q3 key true).set 29 (.bool true)).set 2 (.bool true), Ho k n key val) := by kernel_rfl
theorem h4r2f : evSeq D1 call (Code.ops' b4r) ((Code.ops' b4r).toList.drop 8) (q3 key false) (Ho k n key val) = some (q4 key val (decide ((val.size : Int) > 100)), Ho k n key val) := by kernel_rfl
theorem h4dft : evCode D1 call 5 b4d (q4 key val true) (Ho k n key val) = some (.ret, (q4 key val true).set 2 (.bool true), Ho k n key val) := by kernel_rfl
theorem h4dff : evCode D1 call 5 b4d (q4 key val false) (Ho k n key val) = some (.normal, q4 key val false, Ho k n key val) := by kernel_rfl
theorem h4n : evCode D1 call 5 b4n (q4 key val false) (Ho k n key val) = some (.normal, q5 key val, Ho k n key val) := by kernel_rfl
theorem h4c' : evCode D1 call 5 b4c (q5 key val) (Ho k n key val) = some (.exit 0, q6 key val, Ho k n key val) := by kernel_rfl
theorem h4T : evCode D1 call 5 b4T (q6 key val) (Ho k n key val) = some (.ret, (q6 key val).set 2 (.bool false), Ho k n key val) := by kernel_rfl

/-- heavy, of one operation. -/
theorem heavy_code : ∃ e, evCode D1 call 5 b4 q0 (Ho k n key val) = some (.ret, e, Ho k n key val) ∧ e[2]? = some (.bool (decide ((key.size : Int) > 40) || decide ((val.size : Int) > 100))) := by
  rw [b4_eq]
  by_cases hk : (key.size : Int) > 40
  · have h3 := h4r1 k n key val call
    rw [decide_eq_true hk] at h3 ⊢
    refine ⟨((q3 key true).set 29 (.bool true)).set 2 (.bool true), ?_, by kernel_rfl⟩
    simp only [evCode, h4a, h4b, evLoop, h4c, b4_sel, Bool.false_eq_true, if_false, evSeq_split 8 h3, h4r2t, Option.map_some, h4dt]
  · have h3 := h4r1 k n key val call
    rw [decide_eq_false hk] at h3 ⊢
    by_cases hv : (val.size : Int) > 100
    · have h4 := h4r2f k n key val call
      rw [decide_eq_true hv] at h4 ⊢
      refine ⟨(q4 key val true).set 2 (.bool true), ?_, by kernel_rfl⟩
      simp only [evCode, h4a, h4b, evLoop, h4c, b4_sel, Bool.false_eq_true, if_false, evSeq_split 8 h3, h4, Option.map_some, h4dft]
    · have h4 := h4r2f k n key val call
      rw [decide_eq_false hv] at h4 ⊢
      refine ⟨(q6 key val).set 2 (.bool false), ?_, by kernel_rfl⟩
      simp only [evCode, h4a, h4b, evLoop, h4c, b4_sel, Bool.false_eq_true, if_false, evSeq_split 8 h3, h4, Option.map_some, h4dff, h4n, h4c', if_true, h4T]
theorem heavy_ev : ev D1 6 4 [sl5] (Ho k n key val) = some (.bool (decide ((key.size : Int) > 40) || decide ((val.size : Int) > 100)), Ho k n key val) := by
  have hb : Tryz.f4.body = some b4 := by kernel_rfl
  have h0 : ev D1 6 4 [sl5] (Ho k n key val) = evBody D1 (ev D1 5) 5 Tryz.f4 [sl5] (Ho k n key val) := by kernel_rfl
  obtain ⟨e, he, h2⟩ := heavy_code k n key val (ev D1 5)
  have h1 : evCode D1 (ev D1 5) 5 b4 ([sl5] ++ List.replicate (Tryz.f4.ntmps - [sl5].length) V.un) (Ho k n key val) = some (.ret, e, Ho k n key val) := he
  rw [h0, evBody_fin hb, h1]
  have hr : Tryz.f4.results.toList = [.tmp 2] := by kernel_rfl
  simp only [fin, hr, evRes, h2, Option.bind_eq_bind, Option.bind_some, Option.map_some, tup]

/-! ### The law -/
variable (i : Int)
noncomputable def b3 : Code := match Tryz.f3.body with | some c => c | none => .skip
noncomputable def b3a : Code := Code.fst' b3
noncomputable def b3r : Code := Code.fst' (Code.fst' (Code.snd' b3))
noncomputable def b3c : Code := Code.snd' (Code.fst' (Code.snd' b3))
noncomputable def b3T : Code := Code.snd' (Code.snd' b3)
theorem b3_eq : b3 = .seq b3a (.seq (.seq (.region 1 (Code.ops' b3r) false) b3c) b3T) := by kernel_rfl
theorem b3_sel : selAt (Code.ops' b3r) = none := by kernel_rfl
def o0 : V := .agg [.int .i64 k, .str key, .str val, .int .i64 n]
def p0 : Env := [o0 k n key val, .int .i64 i] ++ List.replicate 72 V.un
def p1 : Env := ((p0 k n key val i).set 2 (.ptr 4 0)).set 4 (.bool false)
def p2 : Env := ((p1 k n key val i).set 9 (o0 k n key val)).set 10 sl5
def H4 : Heap := (Heap.new ⟨.leaf, 4⟩ [.int .i64 k, .str key, .str val, .int .i64 n]).2
theorem h3a : evCode D1 call 6 b3a (p0 k n key val i) ⟨.leaf, 4⟩ = some (.normal, p1 k n key val i, H4 k n key val) := by kernel_rfl
theorem h3r1 : evSeq D1 call (Code.ops' b3r) ((Code.ops' b3r).toList.take 2) (p1 k n key val i) (H4 k n key val) = some (p2 k n key val i, Ho k n key val) := by kernel_rfl
theorem h3r2 : evSeq D1 call (Code.ops' b3r) ((Code.ops' b3r).toList.drop 2) (p2 k n key val i) (Ho k n key val) =
    match call 4 [sl5] (Ho k n key val) with
    | some (v, H') => some ((p2 k n key val i).set 11 v, H')
    | none => none := by kernel_rfl
theorem h3ct : evCode D1 call 6 b3c ((p2 k n key val i).set 11 (.bool true)) (Ho k n key val) = some (.ret, ((p2 k n key val i).set 11 (.bool true)).set 4 (.bool true), Ho k n key val) := by kernel_rfl
theorem h3cf : evCode D1 call 6 b3c ((p2 k n key val i).set 11 (.bool false)) (Ho k n key val) = some (.normal, (p2 k n key val i).set 11 (.bool false), Ho k n key val) := by kernel_rfl
theorem h3T : (fin D1 Tryz.f3 (evCode D1 (ev D1 6) 6 b3T ((p2 k n key val i).set 11 (.bool false)) (Ho k n key val))).map (·.1) = some (.bool true) := by kernel_rfl
end

theorem ev3 (k n i : Int) (key val : ByteArray) : ∃ H', ev D1 7 3 [o0 k n key val, .int .i64 i] ⟨.leaf, 4⟩ = some (.bool true, H') := by
  have hb : Tryz.f3.body = some b3 := by kernel_rfl
  have h0 : ev D1 7 3 [o0 k n key val, .int .i64 i] ⟨.leaf, 4⟩ = evBody D1 (ev D1 6) 6 Tryz.f3 [o0 k n key val, .int .i64 i] ⟨.leaf, 4⟩ := by kernel_rfl
  rw [h0, evBody_fin hb]
  have h1 : [o0 k n key val, .int .i64 i] ++ List.replicate (Tryz.f3.ntmps - [o0 k n key val, .int .i64 i].length) V.un = p0 k n key val i := by kernel_rfl
  rw [h1, b3_eq]
  have h2 := h3r2 k n key val (ev D1 6) i
  rw [heavy_ev] at h2
  simp only [] at h2
  have hr : Tryz.f3.results.toList = [.tmp 4] := by kernel_rfl
  cases hd : (decide ((key.size : Int) > 40) || decide ((val.size : Int) > 100)) with
  | true =>
    rw [hd] at h2
    refine ⟨Ho k n key val, ?_⟩
    simp only [evCode, h3a, b3_sel, Bool.false_eq_true, if_false, evSeq_split 2 (h3r1 k n key val (ev D1 6) i), h2, Option.map_some, h3ct]
    simp only [fin, hr, evRes]
    kernel_rfl
  | false =>
    rw [hd] at h2
    have h5 := h3T k n key val i
    simp only [Option.map_eq_some_iff, Prod.exists] at h5
    obtain ⟨v, H', h6, rfl⟩ := h5
    refine ⟨H', ?_⟩
    simp only [evCode, h3a, b3_sel, Bool.false_eq_true, if_false, evSeq_split 2 (h3r1 k n key val (ev D1 6) i), h2, Option.map_some, h3cf]
    exact h6

/-- The call, in any world. -/
theorem calls3 (k n i : Int) (key val : ByteArray) (w : World) : Calls Tryz.prog 3 #[.agg #[.int .i64 k, .string key, .string val, .int .i64 n], .int .i64 i] w fun e w' => e = .returned (.bool true) ∧ Go.RowKit.Below w.heap.size w w' := by
  obtain ⟨H', h⟩ := ev3 k n i key val
  have h0 : Rel D1 (fun _ => none) ⟨.leaf, 4⟩ w := { dom := (by intro id l h; cases h), obj := (by intro id o h; cases h), inj := (by intro id id' o o' l l' h; cases h), glob := (by intro g hg; cases hg) }
  have := (ev_ok fitD1 7 3 _ _ _ _ h).1 _ w h0 ⟨⟨trivial, trivial, trivial, trivial, trivial⟩, trivial, trivial⟩
  refine Calls.mono this ?_
  intro e w' he
  cases e with
  | returned u =>
    obtain ⟨φ', hp, -, rfl⟩ := he
    exact ⟨rfl, hp.to_below⟩
  | panicked _ => exact he.elim
  | outgrown => exact he.elim
end Go.Ab
