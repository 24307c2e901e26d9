/-
  clear, copy, calls: all operations that act.
-/
import Derived.Test.YtbdnkdldmfnilaaGreatAbOpE
namespace Go.Ab
section
variable {C : Cfg} {φ φ0 : Phi} {H H0 H' : Heap} {w w0 : World} {env : Env} {a : Act}

theorem clear_ok {o : Oper} {args : Array Operand} {ts : Array TypeId} {u : V} {call : FuncId → List V → Heap → Option (V × Heap)} (ho : o.op = .call ⟨.builtin .clear, args, ts⟩) (hr : Rel C φ H w) (ha : AR φ env a)
    (h : evE C call env o H = some (u, H')) : Does C o a φ H w u H' := by
  simp only [evE, ho, Option.bind_eq_bind, Option.bind_eq_some_iff] at h
  obtain ⟨t, ht, d, hd, h⟩ := h
  cases d <;> (try simp only [reduceCtorEq] at h)
  rename_i e
  simp only [Option.bind_eq_some_iff] at h
  obtain ⟨z, hz, x, hx, xv, hxv, h⟩ := h
  have h1 := opd_ok hr ha x _ hxv
  have hxa : (args.map a.eval)[0]? = some (conc φ xv) := by rw [Array.getElem?_map, hx, Option.map_some, h1.2]
  have hz1 := zeroOf_ok (φ := φ) hz w
  split at h
  · rename_i id off len sz cap
    split at h
    case isFalse => cases h
    rename_i hc
    simp only [Option.bind_eq_some_iff, Option.some.injEq, Prod.mk.injEq] at h
    obtain ⟨H1, hw1, rfl, rfl⟩ := h
    obtain ⟨l, hl, hz0, hlen, hoff, hcap⟩ := h1.1
    obtain ⟨w', r1, hp⟩ := wr_ok hr hw1 (wfL_zeros (wfL_cells hz1.1) len) hl
    refine ⟨φ, w', .inl ?_, hp, trivial⟩
    by_cases h0 : len = 0
    · subst h0
      have e0 : zerosV z.cells 0 = [] := rfl
      rw [e0] at r1
      have : w' = w := by simp only [concL, storeCells, Sem.run_pure] at r1; injection r1 with _ h2; exact h2.symm
      subst this
      simp only [execOp, ho, resolve, invoke, builtin, Builtin.clear_, ht, hxa, Sem.run_bind, Sem.run_pure, Result.andThen, run_underlying hd, conc, hl]
      rfl
    · have hco : cap.off l off sz = off := by
        cases cap <;> simp only [Cap.off]
        simp only at hcap
        omega
      have ez : (Builtin.zeroCells (conc φ z).cells len).toList = concL φ (zerosV z.cells len) := by
        have := zeros_eq φ z.cells _ (cells_conc' hz1.1) (by omega) len
        simp only [Builtin.zeroCells]
        have es : (conc φ z).cells.size = z.cells.length := by rw [cells_conc' hz1.1]; simp [concL_length]
        rw [← es] at this
        rw [this]
      have hmm : ∀ (X : Sem Unit), (match TypeDesc.slice e, Value.slice (some (⟨l.blk, l.base + off, none⟩ : Addr)) len (cap.val l off sz) with
          | _, .map none | _, .slice none _ _ | _, .slice _ 0 _ => (pure () : Sem Unit)
          | _, _ => X) = X := by
        intro X
        cases len with
        | zero => exact absurd rfl h0
        | succ n => rfl
      obtain ⟨n, rfl⟩ : ∃ n, len = n + 1 := ⟨len - 1, by omega⟩
      simp only [execOp, ho, resolve, invoke, builtin, Builtin.clear_, ht, hxa, Sem.run_bind, Sem.run_pure, Result.andThen, run_underlying hd, conc, hl, hco, hz1.2, ez, r1]
      rfl
  · simp only [Option.some.injEq, Prod.mk.injEq] at h
    obtain ⟨rfl, rfl⟩ := h
    refine ⟨φ, w, .inl ?_, .refl hr, trivial⟩
    simp only [execOp, ho, resolve, invoke, builtin, Builtin.clear_, ht, hxa, Sem.run_bind, Sem.run_pure, Result.andThen, run_underlying hd, conc]
    rfl
  · cases h

theorem copy_ok {o : Oper} {args : Array Operand} {ts : Array TypeId} {u : V} {call : FuncId → List V → Heap → Option (V × Heap)} (ho : o.op = .call ⟨.builtin .copy, args, ts⟩) (hr : Rel C φ H w) (ha : AR φ env a)
    (h : evE C call env o H = some (u, H')) : Does C o a φ H w u H' := by
  simp only [evE, ho, Option.bind_eq_bind, Option.bind_eq_some_iff] at h
  obtain ⟨t, ht, d, hd, h⟩ := h
  cases d <;> (try simp only [reduceCtorEq] at h)
  rename_i e
  simp only [Option.bind_eq_some_iff] at h
  obtain ⟨sz, hsz, d0, hd0, dv, hdv, s0, hs0, sv, hsv, h⟩ := h
  have h1 := opd_ok hr ha d0 _ hdv
  have h2 := opd_ok hr ha s0 _ hsv
  have hxa : (args.map a.eval)[0]? = some (conc φ dv) := by rw [Array.getElem?_map, hd0, Option.map_some, h1.2]
  have hxb : (args.map a.eval)[1]? = some (conc φ sv) := by rw [Array.getElem?_map, hs0, Option.map_some, h2.2]
  split at h
  · rename_i id off len sz' cap
    split at h
    case isFalse => cases h
    rename_i hc
    obtain ⟨rfl, hz0⟩ := hc
    simp only [Option.bind_eq_some_iff, Option.some.injEq, Prod.mk.injEq] at h
    obtain ⟨xs, hxs, H1, hw1, rfl, rfl⟩ := h
    obtain ⟨l, hl, -, hlen, hoff, hcap⟩ := h1.1
    obtain ⟨q1, q2, q3, q4⟩ := src_ok hr h2.1 hz0 hxs
    obtain ⟨w', r1, hp⟩ := wr_ok hr hw1 (wfL_take q2 _) hl
    refine ⟨φ, w', .inl ?_, hp, trivial⟩
    have q5 := q4 (min (lenV sv) len) (Nat.min_le_left _ _)
    have hco : (storeCells ⟨l.blk, l.base + cap.off l off sz', none⟩ (concL φ (xs.take (min (lenV sv) len * sz')))).run C.P w = .ok () w' := by
      by_cases h0 : len = 0
      · subst h0
        simp only [Nat.min_zero, Nat.zero_mul, List.take_zero, concL, storeCells, Sem.run_pure] at r1 ⊢
        exact r1
      · have : cap.off l off sz' = off := by
          cases cap <;> simp only [Cap.off]
          simp only at hcap
          omega
        rw [this]
        exact r1
    simp only [execOp, ho, resolve, invoke, builtin, Builtin.copy_, ht, hxa, hxb, Sem.run_bind, Sem.run_pure, Result.andThen, run_underlying hd, conc, hl, q3, szOf_ok hsz]
    have e1 : Nat.min (lenV sv) len = min (lenV sv) len := rfl
    rw [e1, q5]
    simp only [hco, goInt]
  · cases h

theorem Oper.wp_of_does {o : Oper} {v : V} {K : Act → World → Prop} {Q : Exit → Act → World → Prop} (h : Does C o a φ H w v H') (hK : ∀ φ' w', Post C φ H w φ' H' w' → wf φ' v → K (a.put o.dst (conc φ' v)) w') : o.wp C.P a w K Q := by
  obtain ⟨φ', w', hrun, hp, hw⟩ := h
  unfold Oper.wp
  rcases hrun with hrun | ⟨hrun, rfl⟩
  · rw [hrun]
    exact hK φ' w' hp hw
  · rw [hrun]
    exact hK φ' w' hp hw

/-- What calls do. -/
def CallOk (C : Cfg) (call : FuncId → List V → Heap → Option (V × Heap)) : Prop :=
  ∀ f args H v H', call f args H = some (v, H') → Meets C f args H v H' ∧ ∃ fn : Func, C.P.funcs[f]? = some fn ∧ fn.body.isSome = true

theorem callFunc_run (hf : Fit C) {f : FuncId} {fn : Func} (h : C.P.funcs[f]? = some fn) (hb : fn.body.isSome = true) (args : Array Value) : (callFunc f args).run C.P w = .ok (.enter f args) w := by
  have hn := hf.names f fn h
  have hb' : fn.body.isNone = false := by cases hbb : fn.body <;> simp_all
  simp only [callFunc, Sem.run_bind, run_program, Result.andThen, h, hn, Bool.false_eq_true, if_false, hb', Sem.run_pure]

theorem call_wp (_hf : Fit C) {o : Oper} {f : FuncId} {args : List V} {v : V} {K : Act → World → Prop} {Q : Exit → Act → World → Prop} (hr : Rel C φ H w)
    (hrun : (execOp a.eval o).run C.P w = .ok (.enter f (concL φ args).toArray) w) (hw : wfL φ args) (hm : Meets C f args H v H')
    (hK : ∀ φ' w', Post C φ H w φ' H' w' → wf φ' v → K (a.put o.dst (conc φ' v)) w') : o.wp C.P a w K Q := by
  unfold Oper.wp
  rw [hrun]
  simp only [Oper.upon]
  refine (hm φ w hr hw).mono ?_
  intro e w' he
  cases e with
  | returned u =>
    obtain ⟨φ', hp, hv, rfl⟩ := he
    exact hK φ' w' hp hv
  | panicked _ => exact he.elim
  | outgrown => exact he.elim

theorem evE_wp (hf : Fit C) {call : FuncId → List V → Heap → Option (V × Heap)} (hcall : CallOk C call) {o : Oper} {v : V} {K : Act → World → Prop} {Q : Exit → Act → World → Prop} (hr : Rel C φ H w) (ha : AR φ env a)
    (h : evE C call env o H = some (v, H')) (hK : ∀ φ' w', Post C φ H w φ' H' w' → wf φ' v → K (a.put o.dst (conc φ' v)) w') : o.wp C.P a w K Q := by
  cases hop : o.op with
  | store t x v => exact Oper.wp_of_does (store_ok hop hr ha h) hK
  | call c =>
    obtain ⟨callee, args, ts⟩ := c
    cases callee with
    | builtin b =>
      cases b with
      | append => exact Oper.wp_of_does (append_ok hop hr ha h) hK
      | clear => exact Oper.wp_of_does (clear_ok hop hr ha h) hK
      | copy => exact Oper.wp_of_does (copy_ok hop hr ha h) hK
      | _ => simp [evE, hop] at h
    | value x =>
      simp only [evE, hop, Option.bind_eq_bind, Option.bind_eq_some_iff] at h
      obtain ⟨fv, hfv, h⟩ := h
      have h1 := opd_ok hr ha x _ hfv
      cases fv <;> (try simp only [reduceCtorEq] at h)
      rename_i fn first capt
      cases fn <;> (try simp only [reduceCtorEq] at h)
      rename_i f
      simp only [Option.bind_eq_some_iff] at h
      obtain ⟨vs, hvs, h⟩ := h
      have h2 := opds_ok hr ha _ _ hvs
      obtain ⟨hm, fn, hfn, hb⟩ := hcall _ _ _ _ _ h
      refine call_wp hf hr ?_ ((wfL_append _ _ _).2 ⟨(wfL_append _ _ _).2 ⟨h1.1.1, h2.1⟩, h1.1.2⟩) hm hK
      have e1 : args.map a.eval = (concL φ vs).toArray := by rw [map_toArray, h2.2]
      simp only [execOp, hop, resolve, h1.2, conc, Deferred.ofValue, e1, Sem.run_bind, Sem.run_pure, Result.andThen, invoke, callFunc_run hf hfn hb, concL_append]
      simp
    | invoke r name =>
      simp only [evE, hop, Option.bind_eq_bind, Option.bind_eq_some_iff] at h
      obtain ⟨rv, hrv, h⟩ := h
      have h1 := opd_ok hr ha r _ hrv
      cases rv <;> (try simp only [reduceCtorEq] at h)
      rename_i t x
      simp only [Option.bind_eq_some_iff] at h
      obtain ⟨vs, hvs, f, hmeth, h⟩ := h
      have h2 := opds_ok hr ha _ _ hvs
      obtain ⟨hm, fn, hfn, hb⟩ := hcall _ _ _ _ _ h
      refine call_wp (args := x :: vs) hf hr ?_ ⟨h1.1, h2.1⟩ hm hK
      have e1 : args.map a.eval = (concL φ vs).toArray := by rw [map_toArray, h2.2]
      -- the method
      simp only [methodOf, Option.bind_eq_bind, Option.bind_eq_some_iff] at hmeth
      obtain ⟨info, hinfo, m, hmm, d, hd, hmeth⟩ := hmeth
      cases d <;> (try simp only [reduceCtorEq] at hmeth)
      rename_i e
      have hmf : m.func = some (f, true) ∧ m.path.toList = [] := by
        split at hmeth
        · rename_i f' h3 h4
          simp only [Option.some.injEq] at hmeth
          subst hmeth
          exact ⟨h3, h4⟩
        · cases hmeth
      have hmrun : ∀ n, (method (n + 1) t (conc φ x) name).run C.P w = .ok (f, conc φ x) w := by
        intro n
        simp only [method, Sem.run_bind, typeInfo, run_program, hinfo, Sem.run_pure, Result.andThen, hmm, hmf.1, hmf.2, follow, receiverAt, run_underlying hd, Place.get]
      have hdep : ∃ n, C.P.types.size + Made.depth = n + 1 := ⟨C.P.types.size + Made.depth - 1, by
        have : 0 < Made.depth := by decide
        omega⟩
      obtain ⟨n, hn⟩ := hdep
      simp only [execOp, hop, resolve, h1.2, conc, e1, Sem.run_bind, Sem.run_pure, Result.andThen, invoke]
      have e2 : (#[Value.iface t (conc φ x)] ++ (concL φ vs).toArray)[0]? = some (Value.iface t (conc φ x)) := by simp
      have e3 : (#[Value.iface t (conc φ x)] ++ (concL φ vs).toArray).extract 1 (#[Value.iface t (conc φ x)] ++ (concL φ vs).toArray).size = (concL φ vs).toArray := by
        apply Array.ext'
        simp
      rw [e2]
      simp only [e3, callMethod, Sem.run_bind, run_program, Result.andThen, hn, hmrun n, callFunc_run hf hfn hb, concL]
      simp
  | _ => simp [evE, hop] at h
end
end Go.Ab
