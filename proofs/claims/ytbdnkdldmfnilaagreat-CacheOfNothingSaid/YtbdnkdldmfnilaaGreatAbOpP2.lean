/-
  Operations that look at no memory, all of them.
-/
import Derived.Test.YtbdnkdldmfnilaaGreatAbOpP
namespace Go.Ab
section
variable {C : Cfg} {φ : Phi} {H : Heap} {w : World} {env : Env} {a : Act}

theorem add_zero_off (b o n : Nat) : (⟨b, o, none⟩ : Addr).add n = ⟨b, o + n, none⟩ := by unfold Addr.add; split <;> simp_all

theorem mapM_scal : ∀ (vs : List V) (cs : List Value), vs.mapM scal = some cs → concL φ vs = cs
  | [], cs, h => by simp only [List.mapM_nil, Option.pure_def, Option.some.injEq] at h; subst h; rfl
  | v :: vs, cs, h => by
    simp only [List.mapM_cons, Option.bind_eq_bind, Option.pure_def, Option.bind_eq_some_iff, Option.some.injEq] at h
    obtain ⟨c, hc, cs', hcs, rfl⟩ := h
    simp only [concL, scal_ok φ hc, mapM_scal vs cs' hcs]

theorem map_toArray (xs : Array Operand) (f : Operand → Value) : xs.map f = (xs.toList.map f).toArray := by
  apply Array.ext'; simp

theorem mapM_sizes {P : Program} {w : World} : ∀ (fs : List Field) (l : List (Nat × Nat)), (fs.mapM fun f => (szOf P f.type).map fun n => (f.offset, n)) = some l →
    (fs.mapM fun f => (do pure (f.offset, ← sizeOf f.type) : Sem (Nat × Nat))).run P w = .ok l w
  | [], l, h => by simp only [List.mapM_nil, Option.pure_def, Option.some.injEq] at h; subst h; rfl
  | f :: fs, l, h => by
    simp only [List.mapM_cons, Option.bind_eq_bind, Option.pure_def, Option.bind_eq_some_iff, Option.map_eq_some_iff, Option.some.injEq] at h
    obtain ⟨_, ⟨n, hn, rfl⟩, l', hl', rfl⟩ := h
    simp only [List.mapM_cons, Sem.run_bind, szOf_ok hn, Result.andThen, Sem.run_pure, mapM_sizes fs l' hl']

set_option maxHeartbeats 1000000 in
theorem evP_ok {o : Oper} {v : V} (hr : Rel C φ H w) (ha : AR φ env a) (h : evP C env o = some v) :
    (execOp a.eval o).run C.P w = .ok (.value (conc φ v)) w ∧ wf φ v := by
  obtain ⟨dst, op, type, pos, after, guard⟩ := o
  cases op with
  | move x =>
    have h1 := opd_ok hr ha x v h
    exact ⟨by simp [execOp, h1.2], h1.1⟩
  | assign x =>
    have h1 := opd_ok hr ha x v h
    exact ⟨by simp [execOp, h1.2], h1.1⟩
  | pick c x y =>
    simp only [evP, Option.bind_eq_bind, Option.bind_eq_some_iff] at h
    obtain ⟨cv, hc, h⟩ := h
    cases cv <;> simp only [reduceCtorEq, Option.bind_eq_some_iff, Option.some.injEq] at h
    rename_i t
    obtain ⟨xv, hx, yv, hy, rfl⟩ := h
    have h1 := opd_ok hr ha c _ hc
    have h2 := opd_ok hr ha x _ hx
    have h3 := opd_ok hr ha y _ hy
    refine ⟨?_, by cases t <;> simp [h2.1, h3.1]⟩
    cases t <;> simp [execOp, h1.2, h2.2, h3.2, conc, asBool]
  | nilCheck x =>
    simp only [evP, Option.bind_eq_bind, Option.bind_eq_some_iff] at h
    obtain ⟨xv, hx, h⟩ := h
    have h1 := opd_ok hr ha x _ hx
    cases xv <;> simp only [reduceCtorEq, Option.some.injEq] at h <;> subst h
    · obtain ⟨l, hl⟩ := h1.1
      refine ⟨?_, ⟨l, hl⟩⟩
      simp [execOp, h1.2, conc, hl]
    · refine ⟨?_, h1.1⟩
      simp [execOp, h1.2, conc]
  | binOp op t x y ty =>
    simp only [evP, Option.bind_eq_bind, Option.bind_eq_some_iff] at h
    obtain ⟨xv, hx, yv, hy, h⟩ := h
    have h1 := opd_ok hr ha x _ hx
    have h2 := opd_ok hr ha y _ hy
    have h3 := evBin_ok (φ := φ) (X := x) (Y := y) h w h1.1 h2.1
    refine ⟨?_, h3.2⟩
    simp only [execOp, h1.2, h2.2, Sem.run_bind, Sem.run_bind] at h3 ⊢
    rw [h3.1]
    simp [Result.andThen]
  | unOp op t x =>
    simp only [evP, Option.bind_eq_bind, Option.bind_eq_some_iff] at h
    obtain ⟨xv, hx, c, hc, h⟩ := h
    have h1 := opd_ok hr ha x _ hx
    have h2 := pureV_ok φ h C.P w
    refine ⟨?_, h2.2⟩
    simp only [execOp, h1.2, scal_ok φ hc, Sem.run_bind, h2.1, Result.andThen, Sem.run_pure]
  | convert src dst x =>
    simp only [evP, Option.bind_eq_bind, Option.bind_eq_some_iff] at h
    obtain ⟨xv, hx, h⟩ := h
    have h1 := opd_ok hr ha x _ hx
    unfold evConv at h
    split at h <;> simp only [reduceCtorEq, Option.some.injEq] at h <;> subst h <;> rename_i hs hd <;>
      refine ⟨?_, trivial⟩ <;>
      simp only [execOp, h1.2, conc, Sem.run_bind, convert, run_underlying hs, run_underlying hd, Result.andThen]
    · rename_i d _ _ _
      cases d <;> rfl
    · rename_i d _
      cases d <;> rfl
    · rename_i d _
      cases d <;> rfl
  | makeInterface t x =>
    simp only [evP] at h
    split at h
    · cases h
    · cases h
    · rename_i hn hm
      simp only [Option.bind_eq_bind, Option.bind_eq_some_iff, Option.some.injEq] at h
      obtain ⟨xv, hx, rfl⟩ := h
      have h1 := opd_ok hr ha x _ hx
      refine ⟨?_, h1.1⟩
      cases hu : C.P.underlying t with
      | none => exact (hm hu).elim
      | some d =>
        simp only [execOp, h1.2, conc, Sem.run_bind, Instr.makeInterface, run_underlying hu, Result.andThen]
        cases d <;> first | rfl | exact (hn _ hu).elim
  | makeFunc fn x y =>
    simp only [evP, Option.bind_eq_bind, Option.bind_eq_some_iff, Option.some.injEq] at h
    obtain ⟨xs, hx, ys, hy, rfl⟩ := h
    have h1 := opds_ok hr ha _ _ hx
    have h2 := opds_ok hr ha _ _ hy
    refine ⟨?_, h1.1, h2.1⟩
    simp only [execOp, Sem.run_bind, Instr.makeFunc, map_toArray, h1.2, h2.2, conc, Sem.run_pure, Result.andThen]
  | fieldAddr s x f =>
    simp only [evP, Option.bind_eq_bind, Option.bind_eq_some_iff] at h
    obtain ⟨d, hd, h⟩ := h
    cases d <;> simp only [reduceCtorEq] at h
    rename_i fs
    simp only [Option.bind_eq_some_iff] at h
    obtain ⟨fd, hf, n, hn, xv, hx, h⟩ := h
    have h1 := opd_ok hr ha x _ hx
    cases xv <;> simp only [reduceCtorEq] at h
    split at h
    · cases h
    · rename_i hn0
      simp only [Option.some.injEq] at h
      subst h
      obtain ⟨l, hl⟩ := h1.1
      refine ⟨?_, ⟨l, hl⟩⟩
      have hz : (sizeOf fd.type).run C.P w = .ok n w := szOf_ok hn w
      simp only [execOp, Instr.fieldAt, h1.2, conc, hl, Sem.run_bind, run_underlying hd, Result.andThen, hf, Instr.sureAddr, Sem.run_pure, fieldPlace, hz, hn0, if_false, add_zero_off, Nat.add_assoc]
  | field s x f =>
    simp only [evP, Option.bind_eq_bind, Option.bind_eq_some_iff] at h
    obtain ⟨d, hd, h⟩ := h
    cases d <;> simp only [reduceCtorEq] at h
    simp only [Option.bind_eq_some_iff] at h
    obtain ⟨fd, hf, xv, hx, h⟩ := h
    have h1 := opd_ok hr ha x _ hx
    cases xv <;> simp only [reduceCtorEq] at h
    rename_i cs
    have h2 := partV_ok (φ := φ) h h1.1 w
    refine ⟨?_, h2.2⟩
    simp only [execOp, Instr.field, h1.2, conc, Sem.run_bind, run_underlying hd, Result.andThen, hf, asAgg, Sem.run_pure, h2.1]
  | indexAddr t x i =>
    simp only [evP, Option.bind_eq_bind, Option.bind_eq_some_iff] at h
    obtain ⟨iv, hi, h⟩ := h
    have h1 := opd_ok hr ha i _ hi
    cases iv <;> simp only [reduceCtorEq] at h
    rename_i k n
    simp only [Option.bind_eq_some_iff] at h
    obtain ⟨d, hd, xv, hx, h⟩ := h
    have h2 := opd_ok hr ha x _ hx
    split at h
    · rename_i e id off len z cap
      simp only [Option.bind_eq_some_iff] at h
      obtain ⟨size, hs, h⟩ := h
      split at h
      · rename_i hb
        simp only [Option.some.injEq] at h
        subst h
        obtain ⟨l, hl, hlz, hlc, hoff, hcap⟩ := h2.1
        refine ⟨?_, ⟨l, hl⟩⟩
        have hz : (sizeOf e).run C.P w = .ok size w := szOf_ok hs w
        have hco : cap.off l off z = off := by
          cases cap <;> simp only [Cap.off]
          simp only at hcap
          omega
        simp only [execOp, Instr.indexAt, h1.2, h2.2, conc, hl, hco, Sem.run_bind, run_underlying hd, Result.andThen, asIntOf, Sem.run_pure, hb, and_self, if_true, hz, add_zero_off, Nat.add_assoc]
      · cases h
    · rename_i len e id off
      simp only [Option.bind_eq_some_iff] at h
      obtain ⟨size, hs, h⟩ := h
      split at h
      · rename_i hb
        simp only [Option.some.injEq] at h
        subst h
        obtain ⟨l, hl⟩ := h2.1
        refine ⟨?_, ⟨l, hl⟩⟩
        have hz : (sizeOf e).run C.P w = .ok size w := szOf_ok hs w
        simp only [execOp, Instr.indexAt, h1.2, h2.2, conc, hl, Sem.run_bind, run_underlying hd, Result.andThen, asIntOf, Sem.run_pure, hb, and_self, if_true, hz, add_zero_off, Nat.add_assoc, Instr.sureAddr]
      · cases h
    · cases h
  | index t x i =>
    simp only [evP, Option.bind_eq_bind, Option.bind_eq_some_iff] at h
    obtain ⟨iv, hi, h⟩ := h
    have h1 := opd_ok hr ha i _ hi
    cases iv <;> simp only [reduceCtorEq] at h
    rename_i k n
    simp only [Option.bind_eq_some_iff] at h
    obtain ⟨d, hd, xv, hx, h⟩ := h
    have h2 := opd_ok hr ha x _ hx
    split at h
    · rename_i len e cs
      simp only [Option.bind_eq_some_iff] at h
      obtain ⟨size, hs, h⟩ := h
      split at h
      · rename_i hb
        have hz : (sizeOf e).run C.P w = .ok size w := szOf_ok hs w
        have h3 := partV_ok (φ := φ) h h2.1 w
        refine ⟨?_, h3.2⟩
        simp only [execOp, Instr.index, h1.2, h2.2, conc, Sem.run_bind, run_underlying hd, Result.andThen, asIntOf, Sem.run_pure, hb, and_self, if_true, hz, h3.1]
      · cases h
    · rename_i s
      split at h
      · rename_i hb
        simp only [Option.map_eq_some_iff] at h
        obtain ⟨u, hu, rfl⟩ := h
        refine ⟨?_, trivial⟩
        simp only [execOp, Instr.index, h1.2, h2.2, conc, Sem.run_bind, run_underlying hd, Result.andThen, asIntOf, Sem.run_pure, hb, if_true, hu]
      · cases h
    · cases h
  | extract t i =>
    simp only [evP, Option.bind_eq_bind, Option.bind_eq_some_iff] at h
    obtain ⟨tv, ht, h⟩ := h
    have h1 := opd_ok hr ha t _ ht
    cases tv <;> simp only [reduceCtorEq] at h
    rename_i vs
    refine ⟨?_, wfL_get h1.1 h⟩
    have : (concL φ vs).toArray[i]? = some (conc φ v) := by simp [concL_get, h]
    simp only [execOp, Instr.extract, h1.2, conc, this, Sem.run_bind, Sem.run_pure, Result.andThen]
  | build t parts =>
    simp only [evP, Option.bind_eq_bind, Option.bind_eq_some_iff] at h
    obtain ⟨z, hz, vs, hvs, places, hpl, h⟩ := h
    have hz1 := zeroOf_ok (φ := φ) hz w
    have hv1 := opds_ok hr ha _ _ hvs
    have hlen : vs.length = parts.toList.length := by
      have := congrArg List.length hv1.2
      simpa [concL_length] using this.symm
    have hparts : (parts.map fun x => (x.1, a.eval x.2)).toList = ((parts.toList.map (·.1)).zip vs).map fun p => (p.1, conc φ p.2) := by
      simp only [Array.toList_map]
      apply List.ext_getElem?
      intro i
      have hg := congrArg (·[i]?) hv1.2
      simp only [List.getElem?_map, concL_get] at hg
      simp only [List.getElem?_map]
      cases hp : parts.toList[i]? with
      | none =>
        have : vs[i]? = none := by
          rw [List.getElem?_eq_none_iff] at hp ⊢
          omega
        simp [List.zip, List.getElem?_zipWith, hp, this]
      | some q =>
        have hvi : ∃ u, vs[i]? = some u := by
          have : i < vs.length := by rw [hlen]; exact (List.getElem?_eq_some_iff.1 hp).1
          exact ⟨_, List.getElem?_eq_getElem this⟩
        obtain ⟨u, hu⟩ := hvi
        simp only [hp, hu, Option.map_some, Option.some.injEq] at hg
        simp [List.zip, List.getElem?_zipWith, hp, hu, hg]
    have hwz : wfL φ (((parts.toList.map (·.1)).zip vs).map (·.2)) := by
      rw [wfL_iff]
      intro u hu
      obtain ⟨p, hp, rfl⟩ := List.mem_map.1 hu
      exact (wfL_iff _ _).1 hv1.1 _ (List.of_mem_zip hp).2
    split at h
    · cases h
    · simp only [Option.map_eq_some_iff] at h
      obtain ⟨r, hf, rfl⟩ := h
      unfold placesOf at hpl
      split at hpl
      · rename_i fs hd
        simp only [Option.map_eq_some_iff] at hpl
        obtain ⟨l, hl, rfl⟩ := hpl
        have h3 := fillV_ok (φ := φ) (place' := fun i => l.toArray[i]?) (fun i => by simp) _ _ _ hf (wfL_cells hz1.1) hwz
        refine ⟨?_, h3.2⟩
        have hm : (fs.mapM fun f => (do pure (f.offset, ← sizeOf f.type) : Sem (Nat × Nat))).run C.P w = .ok l.toArray w := by
          rw [Array.mapM_eq_mapM_toList, Sem.run_map, mapM_sizes _ _ hl]
          rfl
        simp only [execOp, Instr.build, Sem.run_bind, hz1.2, Result.andThen, run_underlying hd, hm, hparts, cells_conc' hz1.1, h3.1, Sem.run_pure, conc]
      · rename_i e hd
        simp only [Option.map_eq_some_iff] at hpl
        obtain ⟨size, hs, rfl⟩ := hpl
        have h3 := fillV_ok (φ := φ) (place' := fun i => some (i * size, size)) (fun i => rfl) _ _ _ hf (wfL_cells hz1.1) hwz
        refine ⟨?_, h3.2⟩
        simp only [execOp, Instr.build, Sem.run_bind, hz1.2, Result.andThen, run_underlying hd, szOf_ok hs, hparts, cells_conc' hz1.1, h3.1, Sem.run_pure, conc]
      · cases hpl
  | call c =>
    obtain ⟨callee, args, ts⟩ := c
    cases callee with
    | value f => simp [evP] at h
    | invoke r n => simp [evP] at h
    | builtin b =>
      cases b with
      | len =>
        simp only [evP, Option.bind_eq_bind, Option.bind_eq_some_iff] at h
        obtain ⟨t, ht, x, hx, d, hd, xv, hxv, h⟩ := h
        have h1 := opd_ok hr ha x _ hxv
        have hxa : (args.map a.eval)[0]? = some (conc φ xv) := by rw [Array.getElem?_map, hx, Option.map_some, h1.2]
        split at h <;> simp only [reduceCtorEq, Option.some.injEq] at h <;> subst h <;> refine ⟨?_, trivial⟩ <;>
          simp only [execOp, resolve, invoke, builtin, Builtin.len_, Sem.run_bind, Sem.run_pure, Result.andThen, ht, hxa, run_underlying hd, conc, goInt]
        all_goals first | rfl | (obtain ⟨l, hl, _⟩ := h1.1; simp only [hl]; rfl)
      | cap =>
        simp only [evP, Option.bind_eq_bind, Option.bind_eq_some_iff] at h
        obtain ⟨t, ht, x, hx, d, hd, xv, hxv, h⟩ := h
        have h1 := opd_ok hr ha x _ hxv
        have hxa : (args.map a.eval)[0]? = some (conc φ xv) := by rw [Array.getElem?_map, hx, Option.map_some, h1.2]
        split at h <;> simp only [reduceCtorEq, Option.some.injEq] at h <;> subst h <;> refine ⟨?_, trivial⟩ <;>
          simp only [execOp, resolve, invoke, builtin, Builtin.cap_, Sem.run_bind, Sem.run_pure, Result.andThen, ht, hxa, run_underlying hd, conc, goInt]
        all_goals first | rfl | (obtain ⟨l, hl, _⟩ := h1.1; simp only [hl]; rfl)
      | min =>
        simp only [evP, Option.bind_eq_bind, Option.bind_eq_some_iff] at h
        obtain ⟨vs, hvs, cs, hcs, h⟩ := h
        have h1 := opds_ok hr ha _ _ hvs
        have h2 := pureV_ok φ h C.P w
        refine ⟨?_, h2.2⟩
        have e : args.map a.eval = cs.toArray := by rw [map_toArray, h1.2, mapM_scal _ _ hcs]
        simp only [execOp, resolve, invoke, builtin, e, Sem.run_bind, Sem.run_pure, Result.andThen]
        have h3 : (Builtin.min_ ts type cs.toArray).run C.P w = .ok (conc φ v) w := h2.1
        rw [h3]
      | max =>
        simp only [evP, Option.bind_eq_bind, Option.bind_eq_some_iff] at h
        obtain ⟨vs, hvs, cs, hcs, h⟩ := h
        have h1 := opds_ok hr ha _ _ hvs
        have h2 := pureV_ok φ h C.P w
        refine ⟨?_, h2.2⟩
        have e : args.map a.eval = cs.toArray := by rw [map_toArray, h1.2, mapM_scal _ _ hcs]
        simp only [execOp, resolve, invoke, builtin, e, Sem.run_bind, Sem.run_pure, Result.andThen]
        have h3 : (Builtin.max_ ts type cs.toArray).run C.P w = .ok (conc φ v) w := h2.1
        rw [h3]
      | _ => simp [evP] at h
  | _ => simp [evP] at h
end
end Go.Ab
