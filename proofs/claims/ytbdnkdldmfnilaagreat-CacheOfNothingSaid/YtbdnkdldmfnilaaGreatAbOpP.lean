/-
  Operations that look at no memory do in the world what the evaluator says.
-/
import Derived.Test.YtbdnkdldmfnilaaGreatAbRel
import Derived.Laws.AppendOwn
import Derived.Laws.IdiomCopy
namespace Go.Ab
section
variable {C : Cfg} {φ : Phi} {H : Heap} {w : World} {env : Env} {a : Act}

theorem concL_length (φ : Phi) (vs : List V) : (concL φ vs).length = vs.length := by rw [concL_eq, List.length_map]
theorem concL_get (φ : Phi) (vs : List V) (i : Nat) : (concL φ vs)[i]? = (vs[i]?).map (conc φ) := by rw [concL_eq, List.getElem?_map]
theorem concL_append (φ : Phi) (a b : List V) : concL φ (a ++ b) = concL φ a ++ concL φ b := by simp [concL_eq]
theorem concL_take (φ : Phi) (a : List V) (n : Nat) : concL φ (a.take n) = (concL φ a).take n := by simp [concL_eq]
theorem concL_drop (φ : Phi) (a : List V) (n : Nat) : concL φ (a.drop n) = (concL φ a).drop n := by simp [concL_eq]
theorem wfL_append (φ : Phi) (a b : List V) : wfL φ (a ++ b) ↔ wfL φ a ∧ wfL φ b := by
  simp only [wfL_iff, List.mem_append]
  exact ⟨fun h => ⟨fun v hv => h v (.inl hv), fun v hv => h v (.inr hv)⟩, fun h v hv => hv.elim (h.1 v) (h.2 v)⟩
theorem wfL_take {φ : Phi} {a : List V} (h : wfL φ a) (n : Nat) : wfL φ (a.take n) := (wfL_iff _ _).2 fun v hv => (wfL_iff _ _).1 h v (List.mem_of_mem_take hv)
theorem wfL_drop {φ : Phi} {a : List V} (h : wfL φ a) (n : Nat) : wfL φ (a.drop n) := (wfL_iff _ _).2 fun v hv => (wfL_iff _ _).1 h v (List.mem_of_mem_drop hv)
theorem wfL_get {φ : Phi} {vs : List V} {i : Nat} {v : V} (h : wfL φ vs) (hv : vs[i]? = some v) : wf φ v := (wfL_iff _ _).1 h v (List.mem_of_getElem? hv)

theorem szOf_ok {P : Program} {t : TypeId} {n : Nat} (h : szOf P t = some n) (w : World) : (sizeOf t).run P w = .ok n w := by
  simp only [szOf, Option.map_eq_some_iff] at h
  obtain ⟨i, hi, rfl⟩ := h
  simp [sizeOf, typeInfo, hi]
theorem isAg_ok {P : Program} {t : TypeId} {b : Bool} (h : isAg P t = some b) (w : World) : (isAgg t).run P w = .ok b w := by
  simp only [isAg, Option.map_eq_some_iff] at h
  obtain ⟨d, hd, rfl⟩ := h
  simp only [isAgg, Sem.run_bind, run_underlying hd, Result.andThen]
  cases d <;> rfl

theorem ofScal_ok (φ : Phi) {c : Value} {v : V} (h : ofScal c = some v) : wf φ v ∧ conc φ v = c := by
  cases c <;> simp only [ofScal, Option.some.injEq, reduceCtorEq] at h <;> subst h <;> exact ⟨trivial, rfl⟩
theorem scal_ok (φ : Phi) {c : Value} {v : V} (h : scal v = some c) : conc φ v = c := by
  cases v <;> simp only [scal, Option.some.injEq, reduceCtorEq] at h <;> subst h <;> rfl
theorem pureV_ok (φ : Phi) {s : Sem Value} {v : V} (h : pureV s = some v) (P : Program) (w : World) : s.run P w = .ok (conc φ v) w ∧ wf φ v := by
  cases s <;> simp only [pureV, reduceCtorEq] at h
  have := ofScal_ok φ h
  exact ⟨by rw [this.2]; rfl, this.1⟩

theorem partV_ok {P : Program} {t : TypeId} {cs : List V} {off : Nat} {v : V} (h : partV P t cs off = some v) (hw : wfL φ cs) (w : World) :
    (part t (concL φ cs).toArray off).run P w = .ok (conc φ v) w ∧ wf φ v := by
  unfold partV at h
  split at h
  · rename_i ha
    simp only [Option.bind_eq_bind, Option.bind_eq_some_iff] at h
    obtain ⟨n, hn, h⟩ := h
    split at h
    · simp only [Option.some.injEq] at h
      subst h
      refine ⟨?_, wfL_take (wfL_drop hw _) _⟩
      simp only [part, Sem.run_bind, isAg_ok ha, Result.andThen, if_true, szOf_ok hn, Sem.run_pure, conc, concL_take, concL_drop]
      congr 2
      apply Array.ext'
      simp [List.extract_eq_take_drop]
    · cases h
  · rename_i ha
    refine ⟨?_, wfL_get hw h⟩
    simp only [part, Sem.run_bind, isAg_ok ha, Result.andThen, Bool.false_eq_true, if_false]
    have : (concL φ cs).toArray[off]? = some (conc φ v) := by simp [concL_get, h]
    rw [this]
    rfl
  · cases h

theorem run_equalIn_ok {P : Program} {t : TypeId} {x y : V} {b cst : Bool} (hwx : wf φ x) (hwy : wf φ y) (h : eqvB P cst t x y = some b) (d : Nat) (w : World) :
    (Op.equalIn (d + 1) t (conc φ x) (conc φ y)).run P w = .ok b w := by
  unfold eqvB at h
  split at h
  · rename_i hf
    simp only [Bool.and_eq_true] at hf
    obtain ⟨⟨hx, hy⟩, -⟩ := hf
    unfold eqFits at hx hy
    split at hx <;> simp only [Bool.false_eq_true] at hx <;> rename_i hu <;> simp only [hu] at hy <;>
      (cases y <;> simp only [eqV, Option.some.injEq, reduceCtorEq] at h hy <;> subst h <;>
        (try (obtain ⟨l, hl, _⟩ := hwx)) <;> (try (obtain ⟨l, hl⟩ := hwx)) <;> (try (obtain ⟨l', hl', _⟩ := hwy)) <;> (try (obtain ⟨l', hl'⟩ := hwy)) <;>
        (try simp only [conc]) <;> (try simp only [hl]) <;> (try simp only [hl']) <;>
        (unfold Op.equalIn; simp only [Sem.run_bind, run_underlying hu, Result.andThen]; rfl))
  · cases h

theorem con_guard {X Y : Operand} (h : (isCon X || isCon Y) = true) (P : Program) (w : World) (op : BinOp) (t : TypeId) : (eqGuard op t X Y .nilIface .nilIface).run P w = .ok () w := by
  unfold eqGuard
  cases X <;> cases Y <;> (try (simp [isCon] at h; done)) <;> (cases op <;> rfl)

theorem scEq_ok {P : Program} {t : TypeId} {x y : V} {b : Bool} (h : scEq P t x y = some b) (d : Nat) (w : World) : (Op.equalIn (d + 1) t (conc φ x) (conc φ y)).run P w = .ok b w := by
  unfold scEq at h
  split at h
  · rename_i hu
    cases h
    unfold Op.equalIn; simp only [conc, Sem.run_bind, run_underlying hu, Result.andThen]; rfl
  · rename_i hu
    split at h
    · rename_i hk
      subst hk
      cases h
      unfold Op.equalIn; simp only [conc, Sem.run_bind, run_underlying hu, Result.andThen, if_true]; rfl
    · cases h
  · rename_i hu
    cases h
    unfold Op.equalIn; simp only [conc, Sem.run_bind, run_underlying hu, Result.andThen]; rfl
  · cases h
theorem scEq_isAg {P : Program} {t : TypeId} {x y : V} {b : Bool} (h : scEq P t x y = some b) : isAg P t = some false := by
  unfold scEq at h
  unfold isAg
  split at h <;> rename_i hu <;> first | (rw [hu]; rfl) | cases h
theorem part_at {P : Program} {t : TypeId} (h : isAg P t = some false) {cs : List V} {off : Nat} {v : V} (hv : cs[off]? = some v) (w : World) : (part t (concL φ cs).toArray off).run P w = .ok (conc φ v) w := by
  simp only [part, Sem.run_bind, isAg_ok h, Result.andThen, Bool.false_eq_true, if_false]
  have : (concL φ cs).toArray[off]? = some (conc φ v) := by simp [concL_get, hv]
  rw [this]
  rfl
theorem fldEq_ok {P : Program} {xs ys : List V} {d : Nat} {w : World} : ∀ (fs : List Field) (b : Bool), fldEq P xs ys fs = some b →
      Sem.run P
        (forIn fs ((none : Option Bool), ()) fun f (__s : Option Bool × Unit) =>
          if f.name ≠ "_" then do
            let __do_lift ← part f.type (concL φ xs).toArray f.offset
            let __do_lift_1 ← part f.type (concL φ ys).toArray f.offset
            let __do_lift ← Op.equalIn (d + 1) f.type __do_lift __do_lift_1
            if (!__do_lift) = true then pure (ForInStep.done (some false, ())) else pure (ForInStep.yield (none, ()))
          else pure (ForInStep.yield (none, ())))
        w = .ok (if b then none else some false, ()) w
  | [], b, h => by
    cases h
    simp only [List.forIn_nil, Sem.run_pure, if_true]
  | f :: fs, b, h => by
    simp only [fldEq] at h
    rw [List.forIn_cons]
    split at h
    · rename_i hn
      split at h
      · rename_i x y hx hy
        have key : ∀ b', scEq P f.type x y = some b' → (part f.type (concL φ xs).toArray f.offset).run P w = .ok (conc φ x) w ∧ (part f.type (concL φ ys).toArray f.offset).run P w = .ok (conc φ y) w ∧ (Op.equalIn (d + 1) f.type (conc φ x) (conc φ y)).run P w = .ok b' w :=
          fun b' hb => ⟨part_at (scEq_isAg hb) hx w, part_at (scEq_isAg hb) hy w, scEq_ok hb d w⟩
        split at h
        · rename_i hb
          obtain ⟨h1, h2, h3⟩ := key _ hb
          have := fldEq_ok (d := d) (w := w) fs b h
          simp only [if_pos hn, Sem.run_bind, h1, h2, h3, Result.andThen, Bool.not_true, Bool.false_eq_true, if_false, Sem.run_pure]
          exact this
        · rename_i hb
          cases b with
          | true => exact absurd h hb
          | false =>
            obtain ⟨h1, h2, h3⟩ := key _ h
            simp only [if_pos hn, Sem.run_bind, h1, h2, h3, Result.andThen, Bool.not_false, if_true, Sem.run_pure, Bool.false_eq_true, if_false]
      · cases h
    · rename_i hn
      have := fldEq_ok (d := d) (w := w) fs b h
      simp only [if_neg hn, Sem.run_bind, Sem.run_pure, Result.andThen]
      exact this
theorem aggEq_ok {P : Program} {t : TypeId} {xs ys : List V} {b : Bool} (h : aggEq P t xs ys = some b) (d : Nat) (w : World) :
    (Op.equalIn (d + 2) t (.agg (concL φ xs).toArray) (.agg (concL φ ys).toArray)).run P w = .ok b w ∧ P.eqGuardType P.depth t = false := by
  unfold aggEq at h
  split at h
  · rename_i fields hu
    split at h
    · cases h
    · rename_i hs
      simp only [Bool.or_eq_true, not_or, Bool.not_eq_true] at hs
      refine ⟨?_, hs.2⟩
      have := fldEq_ok (φ := φ) (d := d) (w := w) fields.toList b h
      unfold Op.equalIn
      simp only [Sem.run_bind, run_underlying hu, Result.andThen, run_program, hs.1, Bool.false_eq_true, if_false]
      rw [← Array.forIn_toList, this]
      cases b <;> rfl
  · cases h

theorem evBin_ok {P : Program} {op : BinOp} {t : TypeId} {x y : V} {v : V} {X Y : Operand} (h : evBin P op (isCon X || isCon Y) t x y = some v) (w : World) (hx : wf φ x) (hy : wf φ y) :
    ((do eqGuard op t X Y (conc φ x) (conc φ y); binOp op t (conc φ x) (conc φ y)) : Sem Value).run P w = .ok (conc φ v) w ∧ wf φ v := by
  unfold evBin at h
  split at h
  · rename_i k a k' b ha hb
    rw [scal_ok φ ha, scal_ok φ hb]
    have := pureV_ok φ h P w
    refine ⟨?_, this.2⟩
    have hg : eqGuard op t X Y (.int k a) (.int k' b) = pure () := by unfold eqGuard; split <;> rfl
    rw [hg]
    simpa using this.1
  · rename_i a b ha hb
    rw [scal_ok φ ha, scal_ok φ hb]
    have := pureV_ok φ h P w
    refine ⟨?_, this.2⟩
    have hg : eqGuard op t X Y (.string a) (.string b) = pure () := by unfold eqGuard; split <;> rfl
    rw [hg]
    simpa using this.1
  · split at h
    · rename_i xs ys _ _
      have key : ∀ b, aggEq P t xs ys = some b → (op = .eql ∨ op = .neq) → (eqGuard op t X Y (conc φ (.agg xs)) (conc φ (.agg ys))).run P w = .ok () w ∧ (Op.equal t (conc φ (.agg xs)) (conc φ (.agg ys))).run P w = .ok b w := by
        intro b hb hop
        obtain ⟨h1, h2⟩ := aggEq_ok (φ := φ) hb 9998 w
        refine ⟨?_, h1⟩
        rcases hop with rfl | rfl <;> simp [eqGuard, conc, Sem.run_bind, run_program, Result.andThen, h2]
      split at h
      · simp only [Option.map_eq_some_iff] at h
        obtain ⟨b, hb, rfl⟩ := h
        obtain ⟨h1, h2⟩ := key b hb (.inl rfl)
        refine ⟨?_, trivial⟩
        simp only [Sem.run_bind, h1, Result.andThen]
        simp only [conc] at h2 ⊢
        simp only [binOp, Sem.run_bind, h2, Result.andThen, Sem.run_pure]
      · simp only [Option.map_eq_some_iff] at h
        obtain ⟨b, hb, rfl⟩ := h
        obtain ⟨h1, h2⟩ := key b hb (.inr rfl)
        refine ⟨?_, trivial⟩
        simp only [Sem.run_bind, h1, Result.andThen]
        simp only [conc] at h2 ⊢
        simp only [binOp, Sem.run_bind, h2, Result.andThen, Sem.run_pure]
      · cases h
    have key : ∀ b, eqvB P (isCon X || isCon Y) t x y = some b → (eqGuard op t X Y (conc φ x) (conc φ y)).run P w = .ok () w ∧ (Op.equal t (conc φ x) (conc φ y)).run P w = .ok b w ∧
        (∀ c, binOp .eql t (conc φ x) (conc φ y) = (do pure (.bool (← Op.equal t (conc φ x) (conc φ y)))) ∨ c) ∧ (∀ c, binOp .neq t (conc φ x) (conc φ y) = (do pure (.bool (!(← Op.equal t (conc φ x) (conc φ y))))) ∨ c) := by
      intro b hb
      refine ⟨?_, run_equalIn_ok hx hy hb 9999 w, ?_⟩
      · unfold eqvB at hb
        split at hb
        · rename_i hfit
          by_cases hbn : bothNil x y = true
          · have hxy : x = .nilIface ∧ y = .nilIface := by cases x <;> cases y <;> simp_all [bothNil]
            obtain ⟨rfl, rfl⟩ := hxy
            have hc : (isCon X || isCon Y) = true := by simp only [bothNil, Bool.not_true, Bool.or_false, Bool.and_eq_true] at hfit; exact hfit.2
            exact con_guard hc P w op t
          cases x <;> cases y <;> (try simp only [eqV, reduceCtorEq] at hb) <;> (try exact absurd rfl hbn) <;> (unfold eqGuard; simp only [conc]; repeat' (first | rfl | (obtain ⟨l, hl⟩ := hx; simp only [hl]) | (obtain ⟨l, hl⟩ := hy; simp only [hl]) | split))
        · cases hb
      · unfold eqvB at hb
        split at hb
        · refine ⟨fun c => .inl ?_, fun c => .inl ?_⟩ <;>
          (cases x <;> cases y <;> simp only [eqV, reduceCtorEq] at hb <;> (simp only [conc]; repeat' (first | rfl | (obtain ⟨l, hl⟩ := hx; simp only [hl]) | (obtain ⟨l, hl⟩ := hy; simp only [hl]))))
        · cases hb
    split at h
    · simp only [Option.map_eq_some_iff] at h
      obtain ⟨b, hb, rfl⟩ := h
      obtain ⟨h1, h2, h3, _⟩ := key b hb
      have h3 := (h3 False).resolve_right id
      refine ⟨?_, trivial⟩
      simp only [Sem.run_bind, h1, Result.andThen, h3, h2, Sem.run_pure, conc]
    · simp only [Option.map_eq_some_iff] at h
      obtain ⟨b, hb, rfl⟩ := h
      obtain ⟨h1, h2, _, h3⟩ := key b hb
      have h3 := (h3 False).resolve_right id
      refine ⟨?_, trivial⟩
      simp only [Sem.run_bind, h1, Result.andThen, h3, h2, Sem.run_pure, conc]
    · cases h

theorem zeroOf_ok {P : Program} {t : TypeId} {v : V} (h : zeroOf P t = some v) (w : World) : wf φ v ∧ (zeroValue t).run P w = .ok (conc φ v) w := by
  simp only [zeroOf, Option.bind_eq_bind, Option.bind_eq_some_iff] at h
  obtain ⟨i, hi, z, hz, h⟩ := h
  have := ofCon_ok φ z v h
  exact ⟨this.1, by simp [zeroValue, typeInfo, hi, hz, this.2]⟩

/-- A value's cells, their number. -/
theorem cells_conc' {v : V} (hp : wf φ v) : (conc φ v).cells = (concL φ v.cells).toArray := by
  cases v <;> try rfl
  case ptr id off => obtain ⟨l, hl⟩ := hp; simp only [conc, hl]; simp [Value.cells, V.cells, concL, conc, hl]
  case sl id off len sz cap => obtain ⟨l, hl, _⟩ := hp; simp only [conc, hl]; simp [Value.cells, V.cells, concL, conc, hl]
  case chan id => obtain ⟨l, hl⟩ := hp; simp only [conc, hl]; simp [Value.cells, V.cells, concL, conc, hl]
theorem wfL_cells {v : V} (hp : wf φ v) : wfL φ v.cells := by
  cases v <;> first | exact hp | exact ⟨hp, trivial⟩

theorem over_length (l : List V) (off : Nat) (vs : List V) (h : off + vs.length ≤ l.length) : (over l off vs).length = l.length := by
  simp only [over, List.length_append, List.length_take, List.length_drop]
  omega
theorem over_get (l : List V) (off : Nat) (vs : List V) (h : off + vs.length ≤ l.length) (i : Nat) :
    (over l off vs)[i]? = if off ≤ i ∧ i < off + vs.length then vs[i - off]? else l[i]? := by
  unfold over
  by_cases h1 : i < off
  · rw [List.append_assoc, List.getElem?_append_left (by simp; omega), if_neg (by omega), List.getElem?_take_of_lt h1]
  · by_cases h2 : i < off + vs.length
    · rw [List.append_assoc, List.getElem?_append_right (by simp; omega), List.getElem?_append_left (by simp; omega), if_pos (by omega)]
      simp only [List.length_take]
      rw [Nat.min_eq_left (by omega)]
    · rw [List.getElem?_append_right (by simp; omega), if_neg (by omega), List.getElem?_drop]
      simp only [List.length_append, List.length_take]
      rw [Nat.min_eq_left (by omega)]
      congr 1
      omega
theorem wfL_over {l : List V} {off : Nat} {vs : List V} (h : wfL φ l) (hv : wfL φ vs) : wfL φ (over l off vs) := by
  unfold over
  rw [wfL_append, wfL_append]
  exact ⟨⟨wfL_take h _, hv⟩, wfL_drop h _⟩

theorem foldl_set (cs : Array Value) (off : Nat) : ∀ (vs : List Value) (j : Nat), off + j + vs.length ≤ cs.size →
    ((vs.zipIdx j).foldl (fun (cs : Array Value) (x : Value × Nat) => cs.setIfInBounds (off + x.2) x.1) cs).toList = cs.toList.take (off + j) ++ vs ++ cs.toList.drop (off + j + vs.length) := by
  intro vs
  induction vs generalizing cs with
  | nil => intro j h; simp
  | cons v vs ih =>
    intro j h
    simp only [List.length_cons] at h
    simp only [List.zipIdx_cons, List.foldl_cons]
    rw [ih _ _ (by simp; omega)]
    apply List.ext_getElem?
    intro i
    simp only [Array.toList_setIfInBounds, List.length_cons]
    by_cases h1 : i < off + j
    · rw [List.append_assoc, List.getElem?_append_left (by simp; omega), List.append_assoc, List.getElem?_append_left (by simp; omega), List.getElem?_take_of_lt (by omega), List.getElem?_take_of_lt h1, List.getElem?_set_ne (by omega)]
    · by_cases h2 : i = off + j
      · subst h2
        rw [List.append_assoc, List.getElem?_append_left (by simp; omega), List.getElem?_take_of_lt (by omega), List.append_assoc, List.getElem?_append_right (by simp; omega)]
        rw [List.getElem?_set_self (by simpa using by omega)]
        simp only [List.length_take, Array.length_toList]
        rw [Nat.min_eq_left (by omega)]
        simp
      · by_cases h3 : i < off + j + 1 + vs.length
        · rw [List.append_assoc, List.getElem?_append_right (by simp; omega), List.getElem?_append_left (by simp; omega), List.append_assoc, List.getElem?_append_right (by simp; omega), List.getElem?_append_left (by simp; omega)]
          simp only [List.length_take, List.length_set, Array.length_toList]
          rw [Nat.min_eq_left (by omega), Nat.min_eq_left (by omega)]
          rw [show i - (off + j) = (i - (off + (j + 1))) + 1 by omega, List.getElem?_cons_succ]
        · rw [List.getElem?_append_right (by simp; omega), List.getElem?_append_right (by simp; omega)]
          simp only [List.length_append, List.length_cons, List.length_take, List.length_set, Array.length_toList]
          rw [Nat.min_eq_left (by omega), Nat.min_eq_left (by omega), List.getElem?_drop, List.getElem?_drop, List.getElem?_set_ne (by omega)]
          congr 1
          omega

theorem fillV_ok {place place' : Nat → Option (Nat × Nat)} (hpl : ∀ i, place i = place' i) : ∀ (parts : List (Nat × V)) (cells : List V) (r : List V), evP.fillV place cells parts = some r → wfL φ cells → wfL φ (parts.map (·.2)) →
    Instr.fill place' (concL φ cells).toArray (parts.map fun p => (p.1, conc φ p.2)) = some (concL φ r).toArray ∧ wfL φ r
  | [], cells, r, h, hc, _ => by simp only [evP.fillV, Option.some.injEq] at h; subst h; exact ⟨rfl, hc⟩
  | (i, v) :: rest, cells, r, h, hc, hp => by
    simp only [List.map_cons, wfL] at hp
    simp only [evP.fillV] at h
    rw [hpl i] at h
    simp only [List.map_cons, Instr.fill]
    cases hq : place' i with
    | none => rw [hq] at h; cases h
    | some q =>
      obtain ⟨off, size⟩ := q
      rw [hq] at h
      simp only [] at h ⊢
      split at h
      · cases h
      · rename_i hcond
        rw [cells_conc' hp.1]
        have e1 : (concL φ v.cells).toArray.size = v.cells.length := by simp [concL_length]
        have e2 : (concL φ cells).toArray.size = cells.length := by simp [concL_length]
        rw [e1, e2, if_neg hcond]
        have hle : off + v.cells.length ≤ cells.length := by simp at hcond; omega
        have := fillV_ok hpl rest _ r h (wfL_over hc (wfL_cells hp.1)) hp.2
        have e3 : (Array.foldl (fun (cs : Array Value) (x : Value × Nat) => match x with | (c, j) => cs.setIfInBounds (off + j) c) (concL φ cells).toArray (concL φ v.cells).toArray.zipIdx) = (concL φ (over cells off v.cells)).toArray := by
          apply Array.ext'
          rw [← Array.foldl_toList]
          have := foldl_set (concL φ cells).toArray off (concL φ v.cells) 0 (by simp [concL_length]; omega)
          simp only [Array.toList_zipIdx]
          refine Eq.trans this ?_
          simp [over, concL_append, concL_take, concL_drop, concL_length]
        rw [e3]
        exact this
end
end Go.Ab
