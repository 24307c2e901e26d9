/-
  Bodies and calls.
-/
import Derived.Test.YtbdnkdldmfnilaaGreatAbWn
namespace Go.Ab
section
variable {C : Cfg} {φ φ0 : Phi} {H H0 H' : Heap} {w w0 : World} {env : Env} {a : Act}

def Out.toExit : Out → Go.Exit
  | .normal => .normal
  | .exit i => .exit i
  | .ret => .ret

theorem selAt_some {ops : Array Oper} {o : Oper} (h : selAt ops = some o) : ops[0]? = some o ∧ o.guard = none := by
  unfold selAt at h
  split at h
  · rename_i o' ho
    split at h
    · rename_i hg
      cases h
      exact ⟨ho, hg⟩
    · cases h
  · cases h

open Go.Conc in
theorem evSel_ok {ops : Array Oper} {o : Oper} {v : V} (hr : Rel C φ H w) (ha : AR φ env a) (hsel : selAt ops = some o) (h : evSel C env o H = some (v, H')) :
    ∃ v' w1, (∀ (b : Frame) (k : List Item) (cs : List Frame) (rest : List Nat), b.kind ≠ .early →
      step C.P (solo (G (b.at a (.inRegion ops (0 :: rest) :: k)) cs) w) = .next (solo (G ((b.at a (.inRegion ops (0 :: rest) :: k)).finish v') cs) w1)) ∧ Post C φ H w φ H' w1 ∧ wf φ v ∧ conc φ v = v' := by
  obtain ⟨ho, hg⟩ := selAt_some hsel
  have hw : Region.wanted o (yielded ops a.tmps) = true := by simp [Region.wanted, hg]
  obtain ⟨dst, op, type, pos, after, guard⟩ := o
  unfold evSel at h
  simp only at h
  split at h
  case h_2 => cases h
  rename_i c
  simp only [Option.bind_eq_bind, Option.bind_eq_some_iff] at h
  obtain ⟨x, hx, h⟩ := h
  have h1 := opd_ok hr ha c.chan x hx
  cases x <;> (try simp only [reduceCtorEq] at h)
  rename_i id
  simp only [Option.bind_eq_some_iff] at h
  obtain ⟨z, hz, h⟩ := h
  have h2 := zeroOf_ok (φ := φ) hz w
  split at h
  case h_2 => cases h
  rename_i cap buf ro hget
  obtain ⟨l, s, r, hl, rfl, hblk, hwb⟩ := chan_at hr hget
  have h3 : a.eval c.chan = .chan (some l.blk) := by rw [h1.2]; simp only [conc, hl]
  cases hsend : c.send with
  | none =>
    have hrun : (execOp a.eval (⟨dst, .select ⟨[c]⟩ false, type, pos, after, guard⟩ : Oper)).run C.P w = .ok (.comm #[rcase l.blk (conc φ z)] false .select) w := by
      simp [execOp, h2.2, h3, hsend, rcase, Result.andThen]
    simp only [hsend] at h
    cases buf with
    | nil =>
      simp only [Option.some.injEq, Prod.mk.injEq] at h
      obtain ⟨rfl, rfl⟩ := h
      refine ⟨_, w, fun b k cs rest hb => step_lone_select_default (stepG_comm ho hw hb hrun) hblk, .refl hr, ⟨trivial, trivial, h2.1, trivial⟩, ?_⟩
      simp [conc, concL, goInt]
    | cons u us =>
      simp only [Option.some.injEq, Prod.mk.injEq] at h
      obtain ⟨rfl, rfl⟩ := h
      refine ⟨_, _, fun b k cs rest hb => step_lone_select_recv_buf (stepG_comm ho hw hb hrun) hblk (by simp [concL]), post_chan hr hget hl ?_ hwb.2, ⟨trivial, trivial, hwb.1, trivial⟩, ?_⟩
      · simp [concL]
      · simp [conc, concL, goInt]
  | some y =>
    simp only [hsend, Option.bind_eq_some_iff] at h
    obtain ⟨yv, hy, h⟩ := h
    have h4 := opd_ok hr ha y yv hy
    have hrun : (execOp a.eval (⟨dst, .select ⟨[c]⟩ false, type, pos, after, guard⟩ : Oper)).run C.P w = .ok (.comm #[scase l.blk (conc φ yv) (conc φ z)] false .select) w := by
      simp [execOp, h2.2, h3, hsend, scase, Result.andThen, h4.2]
    split at h
    · rename_i hlt
      simp only [Option.some.injEq, Prod.mk.injEq] at h
      obtain ⟨rfl, rfl⟩ := h
      refine ⟨_, _, fun b k cs rest hb => step_lone_select_send_room (stepG_comm ho hw hb hrun) hblk (by simpa [concL_length] using hlt), post_chan hr hget hl ?_ ((wfL_append _ _ _).2 ⟨hwb, h4.1, trivial⟩), ⟨trivial, trivial, trivial⟩, ?_⟩
      · simp [concL_append, concL]
      · simp [conc, concL, goInt]
    · rename_i hlt
      simp only [Option.some.injEq, Prod.mk.injEq] at h
      obtain ⟨rfl, rfl⟩ := h
      refine ⟨_, w, fun b k cs rest hb => step_lone_select_send_full (stepG_comm ho hw hb hrun) hblk (by simpa [concL_length] using hlt), .refl hr, ⟨trivial, trivial, trivial⟩, ?_⟩
      simp [conc, concL, goInt]

theorem evCode_wp (hf : Fit C) {call : FuncId → List V → Heap → Option (V × Heap)} (hcall : CallOk C call) (n : Nat) : ∀ (c : Code) (env : Env) (H : Heap) (out : Out) (env' : Env) (H' : Heap),
    evCode C call n c env H = some (out, env', H') → ∀ (φ : Phi) (a : Act) (w : World) (Q : Go.Exit → Act → World → Prop), Rel C φ H w → AR φ env a →
    (∀ φ' a' w', Post C φ H w φ' H' w' → AR φ' env' a' → Q out.toExit a' w') → wn C.P c Q a w := by
  intro c
  induction c with
  | skip =>
    intro env H out env' H' h φ a w Q hr ha hQ
    simp only [evCode, Option.some.injEq, Prod.mk.injEq] at h
    obtain ⟨rfl, rfl, rfl⟩ := h
    exact wn_of <| wp_skip (hQ φ a w (.refl hr) ha)
  | label l =>
    intro env H out env' H' h φ a w Q hr ha hQ
    simp only [evCode, Option.some.injEq, Prod.mk.injEq] at h
    obtain ⟨rfl, rfl, rfl⟩ := h
    exact wn_of <| wp_label (hQ φ a w (.refl hr) ha)
  | region id ops draw =>
    intro env H out env' H' h φ a w Q hr ha hQ
    simp only [evCode] at h
    cases draw with
    | true =>
      simp only [if_true, Option.map_eq_some_iff, Prod.exists, Prod.mk.injEq] at h
      obtain ⟨e1, h1, hd, rfl, rfl, rfl⟩ := h
      exact wn_of <| evDraw_wp hf hcall hd hr ha hQ
    | false =>
      simp only [Bool.false_eq_true, if_false] at h
      split at h
      · simp only [Option.map_eq_some_iff, Prod.exists, Prod.mk.injEq] at h
        obtain ⟨e1, h1, hd, rfl, rfl, rfl⟩ := h
        refine wn_of (wp_region ?_)
        have := evSeq_wp hf hcall (Q := Q) ops.toList 0 env H _ _ φ a w rfl hd hr ha hQ
        rwa [← List.range_eq_range', Array.length_toList] at this
      · rename_i o hsel
        split at h
        · rename_i v H1 hv
          simp only [Option.map_eq_some_iff, Prod.exists, Prod.mk.injEq] at h
          obtain ⟨e1, h1, hd, rfl, rfl, rfl⟩ := h
          obtain ⟨v', w1, hs, hp, hwv, rfl⟩ := evSel_ok hr ha hsel hv
          refine wn_comm (selAt_some hsel).1 hs ?_
          have := evSeq_wp hf hcall (Q := Q) (ops := ops) ops.toList.tail 1 _ _ _ _ φ _ w1 (by simp) hd hp.rel (ha.put o.dst hwv) (fun φ' a' w' hp' ha' => hQ φ' a' w' (hp.trans hp') ha')
          rwa [List.length_tail, Array.length_toList] at this
        · cases h
  | seq x y ihx ihy =>
    intro env H out env' H' h φ a w Q hr ha hQ
    simp only [evCode] at h
    refine wn_seq ?_
    split at h
    · rename_i env1 H1 hx
      refine ihx env H _ _ _ hx φ a w _ hr ha ?_
      intro φ1 a1 w1 hp ha1
      exact ihy env1 H1 _ _ _ h φ1 a1 w1 Q hp.rel ha1 (fun φ' a' w' hp' ha' => hQ φ' a' w' (hp.trans hp') ha')
    · rename_i hn
      refine ihx env H _ _ _ h φ a w _ hr ha ?_
      intro φ1 a1 w1 hp ha1
      cases out with
      | normal => exact absurd h (hn _ _)
      | exit i => exact hQ φ1 a1 w1 hp ha1
      | ret => exact hQ φ1 a1 w1 hp ha1
  | cond c x y ihx ihy =>
    intro env H out env' H' h φ a w Q hr ha hQ
    simp only [evCode] at h
    split at h
    · rename_i t hc
      have h1 := opd_ok hr ha c _ hc
      refine wn_cond (t := t) h1.2 ?_
      cases t with
      | true => exact ihx env H _ _ _ (by simpa using h) φ a w Q hr ha hQ
      | false => exact ihy env H _ _ _ (by simpa using h) φ a w Q hr ha hQ
    · cases h
  | block id b ih =>
    intro env H out env' H' h φ a w Q hr ha hQ
    simp only [evCode] at h
    refine wn_block ?_
    split at h
    · rename_i i env1 H1 hb
      refine ih env H _ _ _ hb φ a w _ hr ha ?_
      intro φ1 a1 w1 hp ha1
      simp only [Out.toExit, Exit.inBlock]
      split at h <;> simp only [Option.some.injEq, Prod.mk.injEq] at h <;> obtain ⟨rfl, rfl, rfl⟩ := h
      · rename_i e; rw [if_pos e]; exact hQ φ1 a1 w1 hp ha1
      · rename_i e; rw [if_neg e]; exact hQ φ1 a1 w1 hp ha1
    · rename_i hn
      refine ih env H _ _ _ h φ a w _ hr ha ?_
      intro φ1 a1 w1 hp ha1
      cases out with
      | normal => exact hQ φ1 a1 w1 hp ha1
      | exit i => exact absurd h (hn _ _ _)
      | ret => exact hQ φ1 a1 w1 hp ha1
  | loop b ih =>
    intro env H out env' H' h φ a w Q hr ha hQ
    simp only [evCode] at h
    have key : ∀ (k : Nat) (env : Env) (H : Heap) (φ : Phi) (a : Act) (w : World), evLoop (evCode C call n b) k env H = some (out, env', H') → Rel C φ H w → AR φ env a →
        (∀ φ' a' w', Post C φ H w φ' H' w' → AR φ' env' a' → Q out.toExit a' w') → roundsN C.P b Q k a w := by
      intro k
      induction k with
      | zero => intro env H φ a w h; simp [evLoop] at h
      | succ k ihk =>
        intro env H φ a w h hr ha hQ
        show wn C.P b (Exit.then (roundsN C.P b Q k) Q) a w
        simp only [evLoop] at h
        split at h
        · rename_i env1 H1 hb
          refine ih env H _ _ _ hb φ a w _ hr ha ?_
          intro φ1 a1 w1 hp ha1
          exact ihk env1 H1 φ1 a1 w1 h hp.rel ha1 (fun φ' a' w' hp' ha' => hQ φ' a' w' (hp.trans hp') ha')
        · rename_i hn
          refine ih env H _ _ _ h φ a w _ hr ha ?_
          intro φ1 a1 w1 hp ha1
          cases out with
          | normal => exact absurd h (hn _ _)
          | exit i => exact hQ φ1 a1 w1 hp ha1
          | ret => exact hQ φ1 a1 w1 hp ha1
    exact wn_loop n (key n env H φ a w h hr ha hQ)
  | exit id =>
    intro env H out env' H' h φ a w Q hr ha hQ
    simp only [evCode, Option.some.injEq, Prod.mk.injEq] at h
    obtain ⟨rfl, rfl, rfl⟩ := h
    exact wn_of <| wp_exit (hQ φ a w (.refl hr) ha)
  | ret =>
    intro env H out env' H' h φ a w Q hr ha hQ
    simp only [evCode, Option.some.injEq, Prod.mk.injEq] at h
    obtain ⟨rfl, rfl, rfl⟩ := h
    exact wn_of <| wp_ret (hQ φ a w (.refl hr) ha)
  | _ =>
    intro env H out env' H' h
    simp [evCode] at h

def oneRes (tmps : Array Value) : ResultVar → Sem Value
  | .tmp t => pure (tmps.getD t undef)
  | .cell x t => do loadVar t (← asAddr (tmps.getD x undef))
theorem results_eq (fn : Func) (tmps : Array Value) : results fn tmps = (do
    let vs ← fn.results.mapM (oneRes tmps)
    pure (if h : vs.size = 1 then vs[0] else .tuple vs)) := by
  unfold results
  congr 1

theorem evRes_ok (hr : Rel C φ H w) (ha : AR φ env a) : ∀ (rs : List ResultVar) (vs : List V), evRes C H env rs = some vs →
    (rs.mapM (oneRes a.tmps)).run C.P w = .ok (concL φ vs) w ∧ wfL φ vs
  | [], vs, h => by
    simp only [evRes, Option.some.injEq] at h
    subst h
    exact ⟨rfl, trivial⟩
  | .tmp t :: rest, vs, h => by
    simp only [evRes, Option.bind_eq_bind, Option.bind_eq_some_iff, Option.some.injEq] at h
    obtain ⟨v, hv, vs', hvs, rfl⟩ := h
    have h2 := evRes_ok hr ha rest vs' hvs
    have e1 : a.tmps.getD t undef = conc φ v := by
      rw [ha.tmps]
      simp [Array.getD_eq_getD_getElem?, concL_get, hv]
    refine ⟨?_, wfL_get ha.wfe hv, h2.2⟩
    simp only [List.mapM_cons, oneRes, Sem.run_bind, Sem.run_pure, Result.andThen, e1, h2.1, concL]
  | .cell x t :: rest, vs, h => by
    simp only [evRes, Option.bind_eq_bind, Option.bind_eq_some_iff] at h
    obtain ⟨p, hpv, h⟩ := h
    cases p <;> (try simp only [reduceCtorEq] at h)
    rename_i id off
    simp only [Option.bind_eq_some_iff] at h
    obtain ⟨b, hb, h⟩ := h
    have e1 : a.tmps.getD x undef = conc φ (.ptr id off) := by
      rw [ha.tmps]
      simp [Array.getD_eq_getD_getElem?, concL_get, hpv]
    obtain ⟨l, hl⟩ := wfL_get ha.wfe hpv
    have key : ∀ v vs', (loadVar t ⟨l.blk, l.base + off, none⟩).run C.P w = .ok (conc φ v) w → wf φ v → evRes C H env rest = some vs' → vs = v :: vs' →
        ((ResultVar.cell x t :: rest).mapM (oneRes a.tmps)).run C.P w = .ok (concL φ vs) w ∧ wfL φ vs := by
      intro v vs' h1 h2 h3 h4
      subst h4
      have h5 := evRes_ok hr ha rest vs' h3
      refine ⟨?_, h2, h5.2⟩
      simp only [List.mapM_cons, oneRes, Sem.run_bind, e1, conc, hl, asAddr, Sem.run_pure, Result.andThen, h1, h5.1, concL]
    cases b
    · simp only [Option.bind_eq_some_iff, Option.some.injEq] at h
      obtain ⟨cs, hcs, v, hv, vs', hvs, rfl⟩ := h
      obtain ⟨_, _, hw, _⟩ := rd_ok hr hcs
      exact key v vs' (load_one hr hcs hv hb hl) (wfL_get hw hv) hvs rfl
    · simp only [Option.bind_eq_some_iff, Option.some.injEq] at h
      obtain ⟨_, ⟨n, hn, cs, hcs, rfl⟩, vs', hvs, rfl⟩ := h
      obtain ⟨_, _, hw, _⟩ := rd_ok hr hcs
      exact key (.agg cs) vs' (load_agg hr hcs hb hn hl) hw hvs rfl

theorem tup_ok (vs : List V) : (if h : (concL φ vs).toArray.size = 1 then (concL φ vs).toArray[0] else .tuple (concL φ vs).toArray) = conc φ (tup vs) := by
  match vs with
  | [] => rfl
  | [v] => rfl
  | v :: u :: vs =>
    rw [dif_neg (by simp [concL])]
    rfl
theorem tup_wf {vs : List V} (h : wfL φ vs) : wf φ (tup vs) := by
  match vs with
  | [] => trivial
  | [v] => exact h.1
  | v :: u :: vs => exact h

theorem evBody_ok (hf : Fit C) {call : FuncId → List V → Heap → Option (V × Heap)} (hcall : CallOk C call) {n : Nat} {f : FuncId} {fn : Func} {args : List V} {v : V}
    (hfn : C.P.funcs[f]? = some fn) (h : evBody C call n fn args H = some (v, H')) : Meets C f args H v H' := by
  intro φ w hr hw
  unfold evBody at h
  split at h
  · cases h
  · rename_i c hb
    refine calls_of_wn hfn hb ?_
    have ha0 : AR φ (args ++ List.replicate (fn.ntmps - args.length) V.un) { tmps := (concL φ args).toArray ++ Array.replicate (fn.ntmps - (concL φ args).toArray.size) undef, defers := [] } := by
      refine ⟨?_, (wfL_append _ _ _).2 ⟨hw, ?_⟩, rfl⟩
      · simp only [List.size_toArray, concL_length, concL_append]
        apply Array.ext'
        simp [concL_eq, conc_un]
      · rw [wfL_iff]
        intro x hx
        rw [List.eq_of_mem_replicate hx]
        trivial
    have key : ∀ out env1 H1, evCode C call n c (args ++ List.replicate (fn.ntmps - args.length) V.un) H = some (out, env1, H1) → (out = .normal ∨ out = .ret) → (evRes C H1 env1 fn.results.toList).map (fun vs => (tup vs, H1)) = some (v, H') →
        wn C.P c (bodyPost C.P fn fun e w' => match e with
          | .returned u => ∃ φ', Post C φ H w φ' H' w' ∧ wf φ' v ∧ u = conc φ' v
          | .panicked _ => False
          | .outgrown => False) { tmps := (concL φ args).toArray ++ Array.replicate (fn.ntmps - (concL φ args).toArray.size) undef, defers := [] } w := by
      intro out env1 H1 hc ho hres
      refine evCode_wp hf hcall n c _ _ _ _ _ hc φ _ w _ hr ha0 ?_
      intro φ1 a1 w1 hp ha1
      simp only [Option.map_eq_some_iff, Prod.mk.injEq] at hres
      obtain ⟨vs, hvs, rfl, rfl⟩ := hres
      have h3 := evRes_ok hp.rel ha1 _ _ hvs
      have hres : (results fn a1.tmps).run C.P w1 = .ok (conc φ1 (tup vs)) w1 := by
        rw [results_eq, Array.mapM_eq_mapM_toList]
        simp only [Sem.run_bind, Sem.run_map, h3.1, Result.andThen, Sem.run_pure, tup_ok]
      rcases ho with rfl | rfl
      · exact ⟨ha1.defers, _, hres, φ1, hp, tup_wf h3.2, rfl⟩
      · exact ⟨ha1.defers, _, hres, φ1, hp, tup_wf h3.2, rfl⟩
    split at h
    · rename_i env1 H1 hc
      exact key _ _ _ hc (.inl rfl) h
    · rename_i env1 H1 hc
      exact key _ _ _ hc (.inr rfl) h
    · cases h

/-- THE EVALUATOR SAYS WHAT THE CALL DOES. -/
theorem ev_ok (hf : Fit C) : ∀ n, CallOk C (ev C n)
  | 0 => by intro f args H v H' h; simp [ev] at h
  | n + 1 => by
    intro f args H v H' h
    simp only [ev] at h
    split at h
    · rename_i g hg
      exact ⟨hf.ext f g args H v H' hg h, hf.exts f g hg⟩
    · split at h
      · cases h
      · rename_i fn hfn
        refine ⟨evBody_ok hf (ev_ok hf n) hfn h, fn, hfn, ?_⟩
        unfold evBody at h
        split at h
        · cases h
        · rename_i c hb
          simp [hb]
end
end Go.Ab
