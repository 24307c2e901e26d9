/-
  A region whose order is fixed.
-/
import Derived.Test.YtbdnkdldmfnilaaGreatAbOpC
namespace Go.Ab
section
variable {C : Cfg} {φ φ0 : Phi} {H H0 H' : Heap} {w w0 : World} {env : Env} {a : Act}

theorem evOp_wp (hf : Fit C) {call : FuncId → List V → Heap → Option (V × Heap)} (hcall : CallOk C call) {o : Oper} {v : V} {K : Act → World → Prop} {Q : Exit → Act → World → Prop} (hr : Rel C φ H w) (ha : AR φ env a)
    (h : evOp C call env o H = some (v, H')) (hK : ∀ φ' w', Post C φ H w φ' H' w' → wf φ' v → K (a.put o.dst (conc φ' v)) w') : o.wp C.P a w K Q := by
  unfold evOp at h
  split at h
  · simp only [Option.map_eq_some_iff, Prod.mk.injEq] at h
    obtain ⟨v', hv, rfl, rfl⟩ := h
    have := evP_ok hr ha hv
    exact Oper.wp_of_does ⟨φ, w, .inl this.1, .refl hr, this.2⟩ hK
  · simp only [Option.map_eq_some_iff, Prod.mk.injEq] at h
    obtain ⟨v', hv, rfl, rfl⟩ := h
    have := evL_ok hr ha hv
    exact Oper.wp_of_does ⟨φ, w, .inl this.1, .refl hr, this.2⟩ hK
  · simp only [Option.map_eq_some_iff, Prod.exists, Prod.mk.injEq] at h
    obtain ⟨v', cells, hv, rfl, rfl⟩ := h
    obtain ⟨l, w', h1, h2, h3⟩ := evN_ok (H' := (H.new cells).2) (Post.refl hr) ha hv (next_none hr) (Nat.le_refl _) (by rw [new_next]; omega) (by rw [new_next]; omega) (fun j => new_get H cells j)
    exact Oper.wp_of_does ⟨_, w', .inl h1, h2, h3⟩ hK
  · exact evE_wp hf hcall hr ha h hK

theorem conc_bool {v : V} {b : Bool} (h : conc φ v = .bool b) : v = .bool b := by
  cases v <;> simp only [conc, reduceCtorEq, Value.bool.injEq] at h
  all_goals first | rw [h] | (split at h <;> cases h) | (exact absurd h (by simp [undef]))

theorem yield_ok (ha : AR φ env a) (ops : Array Oper) (j : Nat) : yielded ops a.tmps j = match ((ops[j]?).bind (·.dst)).bind (env[·]?) with | some (.bool c) => some c | _ => none := by
  unfold yielded
  cases hd : (ops[j]?).bind (·.dst) with
  | none => simp
  | some d =>
    simp only [Option.bind_some, ha.tmps, List.getElem?_toArray, concL_get]
    cases hv : env[d]? with
    | none => simp
    | some v =>
      simp only [Option.map_some]
      by_cases hb : ∃ c, v = .bool c
      · obtain ⟨c, rfl⟩ := hb
        rfl
      · have h1 : ∀ c, conc φ v ≠ .bool c := fun c hc => hb ⟨c, conc_bool hc⟩
        have h2 : (match some v with | some (V.bool c) => some c | _ => none) = none := by
          cases v <;> first | rfl | exact absurd ⟨_, rfl⟩ hb
        rw [h2]
        cases hc : conc φ v <;> first | rfl | exact absurd hc (h1 _)

theorem wants_ok (ha : AR φ env a) (ops : Array Oper) (o : Oper) : Region.wanted o (yielded ops a.tmps) = wants ops env o := by
  unfold Region.wanted wants
  cases hg : o.guard with
  | none => rfl
  | some p =>
    obtain ⟨j, b⟩ := p
    simp only [yield_ok ha]
    generalize ((ops[j]?).bind (·.dst)).bind (env[·]?) = q
    cases q with
    | none => rfl
    | some v => cases v <;> first | rfl | simp

theorem evSeq_wp (hf : Fit C) {call : FuncId → List V → Heap → Option (V × Heap)} (hcall : CallOk C call) {ops : Array Oper} {Q : Exit → Act → World → Prop} : ∀ (rest : List Oper) (k : Nat) (env : Env) (H : Heap) (env' : Env) (H' : Heap) (φ : Phi) (a : Act) (w : World),
    ops.toList.drop k = rest → evSeq C call ops rest env H = some (env', H') → Rel C φ H w → AR φ env a →
    (∀ φ' a' w', Post C φ H w φ' H' w' → AR φ' env' a' → Q .normal a' w') → wpOps C.P ops Q (List.range' k rest.length) a w
  | [], k, env, H, env', H', φ, a, w, _, h, hr, ha, hQ => by
    simp only [evSeq, Option.some.injEq, Prod.mk.injEq] at h
    obtain ⟨rfl, rfl⟩ := h
    exact hQ φ a w (.refl hr) ha
  | o :: rest, k, env, H, env', H', φ, a, w, hd, h, hr, ha, hQ => by
    have hk : ops[k]? = some o := by
      have := congrArg (·[0]?) hd
      simpa [List.getElem?_drop] using this
    have hd' : ops.toList.drop (k + 1) = rest := by
      have := congrArg List.tail hd
      simpa using this
    simp only [List.length_cons, List.range'_succ]
    rw [wpOps_cons]
    unfold wpOp
    rw [hk]
    simp only [wants_ok ha]
    simp only [evSeq] at h
    split at h
    · rename_i hw
      rw [if_pos hw]
      split at h
      · rename_i v H1 hv
        refine .inl (evOp_wp hf hcall hr ha hv ?_)
        intro φ1 w1 hp hv1
        have ha1 : AR φ1 (env.put o.dst v) (a.put o.dst (conc φ1 v)) := (ha.mono hp.ext).put o.dst hv1
        exact evSeq_wp hf hcall rest (k + 1) _ _ _ _ φ1 _ w1 hd' h hp.rel ha1 (fun φ' a' w' hp' ha' => hQ φ' a' w' (hp.trans hp') ha')
      · cases h
    · rename_i hw
      rw [if_neg hw]
      have ha1 : AR φ (env.put o.dst V.un) (a.put o.dst undef) := ha.put (v := V.un) o.dst trivial
      exact evSeq_wp hf hcall rest (k + 1) _ _ _ _ φ _ w hd' h hr ha1 hQ
end
end Go.Ab
