/-
  A region whose order is open: the end.
-/
import Derived.Test.YtbdnkdldmfnilaaGreatAbDraw3
namespace Go.Ab
section
variable {C : Cfg} {φ φ' φ0 φs : Phi} {H H0 H' Hi H1 F F' : Heap} {w w' w0 ws : World} {env env' en : Env} {a : Act}
variable {call : FuncId → List V → Heap → Option (V × Heap)} {ops : Array Oper} {ord : List Nat} {en0 : Env}

theorem mem_edges {o : Oper} {e : Nat} : e ∈ edges o ↔ ∃ x ∈ o.after, Region.binds .any x = true ∧ x.on = e := by
  simp only [edges, List.mem_filterMap, Array.mem_toList_iff]
  constructor
  · rintro ⟨x, hx, h⟩
    split at h
    · rename_i hb
      exact ⟨x, hx, hb, by simpa using h⟩
    · cases h
  · rintro ⟨x, hx, hb, rfl⟩
    exact ⟨x, hx, by simp [hb]⟩

/-- All is done where nothing is ready. -/
theorem Inv.all_listed {L : Plan C call ops H0.next ord en0} {listed : Array Bool} {r : Nat} (v : Inv L φ0 w0 listed φ F en a w r) (hready : Region.ready .any ops listed = []) : ∀ i, i < ops.size → listed.getD i false = true := by
  intro i
  induction i using Nat.strongRecOn with
  | _ i ih =>
    intro hi
    cases hl : listed.getD i false with
    | true => rfl
    | false =>
      exfalso
      have ho : ops[i]? = some ops[i] := Array.getElem?_eq_getElem hi
      have : i ∈ Region.ready .any ops listed := by
        rw [mem_ready]
        refine ⟨?_, ops[i], ho, ?_⟩
        · have hsz : i < listed.size := by rw [v.sz]; exact hi
          simp only [Array.getD_eq_getD_getElem?, Array.getElem?_eq_getElem hsz, Option.getD_some] at hl ⊢
          exact hl
        · intro e he hb
          have hlt := L.lt i ops[i] ho e.on (mem_edges.2 ⟨e, he, hb, rfl⟩)
          exact ih e.on hlt (by omega)
      rw [hready] at this
      cases this

theorem Inv.finish {L : Plan C call ops H0.next ord en0} {listed : Array Bool} {r : Nat} (v : Inv L φ0 w0 listed φ F en a w r) (hs0 : (L.sAt 0).H = (L.sAt 0).h0) (hall : ∀ i, i < ops.size → listed.getD i false = true) {Q : Exit → Act → World → Prop}
    (hQ : ∀ φ' a' w', Post C φ0 H0 w0 φ' (L.sAt ord.length).H w' → AR φ' (L.sAt ord.length).env a' → Q .normal a' w') : Q .normal a w := by
  have hlist : ∀ q i : Nat, ord[q]? = some i → listed.getD i false = true := by
    intro q i hq
    obtain ⟨o, ho, -⟩ := L.opAt q i hq
    exact hall i (Array.getElem?_eq_some_iff.1 ho).1
  have hk : L.k r = L.k ord.length := by
    have h1 := L.k_mono v.r_le (Nat.le_refl _)
    rcases Nat.lt_or_ge (L.k r) (L.k ord.length) with h | h
    · exfalso
      obtain ⟨q, hq, hqe, hqk⟩ := L.k_at (Nat.le_refl _) h
      obtain ⟨j, o', hqj, -⟩ := id hqe
      have := (v.acts q j hqj hqe).1 (hlist q j hqj)
      omega
    · omega
  have hst := L.stage_eq v.r_le (Nat.le_refl _) hk
  obtain ⟨h1, h2⟩ := L.heap_at hs0 (Nat.le_refl ord.length)
  have hsub : ∀ id ob, (L.sAt ord.length).H.get id = some ob → F.get id = some ob := by
    intro id ob h
    rcases h2 id ob h with h | ⟨q, j, hq, hqj, hqn, hqk, rfl, rfl⟩
    · exact v.stage id ob (by rw [← hst]; exact h)
    · exact v.news q j hqj (hlist q j hqj) hqn (by omega)
  have henv : en = (L.sAt ord.length).env := by
    apply List.ext_getElem?
    intro t
    have hea := L.env_at (Nat.le_refl ord.length)
    by_cases hq : ∃ q, Plan.dstAt ops ord q = some t
    · obtain ⟨q, hq⟩ := hq
      have hq' := hq
      simp only [Plan.dstAt, Option.bind_eq_some_iff] at hq'
      obtain ⟨o', ⟨j, hqj, hoj⟩, hdj⟩ := hq'
      rw [v.envIn q j t hqj (hlist q j hqj) hq, hea.1 q t (Plan.pos_lt hqj) hq]
    · rw [v.envOut t (fun q2 i2 h3 h4 h5 => hq ⟨q2, h5⟩), hea.2 t (fun q2 h3 h5 => hq ⟨q2, h5⟩)]
  refine hQ φ a w (v.post.less (by rw [h1, v.next, hst]) hsub ?_) (henv ▸ v.ar)
  intro j hj hn
  cases h : (L.sAt ord.length).H.get j with
  | none => rfl
  | some ob =>
    have := v.post.fresh j hj hn
    rw [hsub j ob h] at this
    cases this

/-- The objects that an act does not know. -/
def beyond (F Hi : Heap) (base n : Nat) : List Nat := ((List.range n).map (base + ·)).filter fun id => (F.get id).isSome && (Hi.get id).isNone
theorem mem_beyond {F Hi : Heap} {base n id : Nat} : id ∈ beyond F Hi base n ↔ ∃ i, i < n ∧ id = base + i ∧ (∃ ob, F.get id = some ob) ∧ Hi.get id = none := by
  simp only [beyond, List.mem_filter, List.mem_map, List.mem_range, Bool.and_eq_true, Option.isSome_iff_exists, Option.isNone_iff_eq_none]
  constructor
  · rintro ⟨⟨i, h1, rfl⟩, h2, h3⟩
    exact ⟨i, h1, rfl, h2, h3⟩
  · rintro ⟨i, h1, rfl, h2, h3⟩
    exact ⟨⟨i, h1, rfl⟩, h2, h3⟩

theorem draw_any (hf : Fit C) (hcall : CallOk C call) (L : Plan C call ops H0.next ord en0) (hs0 : (L.sAt 0).H = (L.sAt 0).h0) (hr0 : Rel C φ0 H0 w0) {Q : Exit → Act → World → Prop}
    (hQ : ∀ φ' a' w', Post C φ0 H0 w0 φ' (L.sAt ord.length).H w' → AR φ' (L.sAt ord.length).env a' → Q .normal a' w') :
    ∀ (fuel : Nat) (listed : Array Bool) (φ : Phi) (F : Heap) (en : Env) (a : Act) (w : World) (r : Nat), Inv L φ0 w0 listed φ F en a w r → listed.toList.count false ≤ fuel → wpAny C.P .any ops Q fuel listed a w
  | 0, listed, φ, F, en, a, w, r, v, hc => by
    have hall : ∀ i, i < ops.size → listed.getD i false = true := by
      intro i hi
      have hsz : i < listed.size := by rw [v.sz]; exact hi
      cases hl : listed.getD i false with
      | true => rfl
      | false =>
        exfalso
        simp only [Array.getD_eq_getD_getElem?, Array.getElem?_eq_getElem hsz, Option.getD_some] at hl
        have : false ∈ listed.toList := by
          rw [← hl]
          simp
        have := List.count_pos_iff.2 this
        omega
    refine ⟨?_, v.finish hs0 hall hQ⟩
    cases hrd : Region.ready .any ops listed with
    | nil => rfl
    | cons x xs =>
      exfalso
      have hx : x ∈ Region.ready .any ops listed := by rw [hrd]; simp
      obtain ⟨h1, o, ho, -⟩ := mem_ready.1 hx
      have hxs := (Array.getElem?_eq_some_iff.1 ho).1
      have h2 := hall x hxs
      have hsz : x < listed.size := by rw [v.sz]; exact hxs
      simp only [Array.getD_eq_getD_getElem?, Array.getElem?_eq_getElem hsz, Option.getD_some] at h1 h2
      rw [h1] at h2
      cases h2
  | fuel + 1, listed, φ, F, en, a, w, r, v, hc => by
    refine ⟨fun hready => v.finish hs0 (v.all_listed hready) hQ, ?_⟩
    intro i hi
    obtain ⟨hl0, o, ho, hedge⟩ := mem_ready.1 hi
    have hsz := v.getD_lt ho
    have hl : listed.getD i false = false := by
      simp only [Array.getD_eq_getD_getElem?, Array.getElem?_eq_getElem hsz, Option.getD_some] at hl0 ⊢
      exact hl0
    have he : ∀ e ∈ edges o, listed.getD e false = true := by
      intro e hee
      obtain ⟨x, hx, hb, rfl⟩ := mem_edges.1 hee
      exact hedge x hx hb
    have hios := (Array.getElem?_eq_some_iff.1 ho).1
    obtain ⟨p, hp⟩ := L.all i hios
    have hpl := Plan.pos_lt hp
    have hcount : (listed.setIfInBounds i true).toList.count false ≤ fuel := by
      rw [Array.toList_setIfInBounds, List.count_set (by simpa using hsz)]
      have : listed.toList[i] = false := by
        simp only [Array.getD_eq_getD_getElem?, Array.getElem?_eq_getElem hsz, Option.getD_some] at hl
        simpa using hl
      have hpos : 0 < listed.toList.count false := List.count_pos_iff.2 (by rw [← this]; simp)
      have e2 : (true == false) = false := rfl
      rw [this, e2]
      simp only [beq_self_eq_true, if_true, Bool.false_eq_true, if_false]
      omega
    -- the recursive call
    have go : ∀ (φ' : Phi) (F' : Heap) (en' : Env) (a' : Act) (w' : World) (r' : Nat), Inv L φ0 w0 (listed.setIfInBounds i true) φ' F' en' a' w' r' → wpAny C.P .any ops Q fuel (listed.setIfInBounds i true) a' w' :=
      fun φ' F' en' a' w' r' v' => draw_any hf hcall L hs0 hr0 hQ fuel _ φ' F' en' a' w' r' v' hcount
    unfold wpOp
    rw [ho]
    simp only [wants_ok v.ar, v.agree_wants hp ho hl he]
    have hop := v.agree_opd hp ho hl he
    obtain ⟨o', ho', -, hfact⟩ := L.opAt p i hp
    rw [ho] at ho'; cases ho'
    have hkle := v.k_le hp hl
    cases hfact with
    | p hw hk hv h0 hst hH =>
      rw [if_pos hw]
      rw [← evP_congr hop] at hv
      have h1 := evP_ok v.post.rel v.ar hv
      refine .inl ?_
      unfold Oper.wp
      rw [h1.1]
      refine go _ _ _ _ _ _ (v.step_still hp ho hl he (by rw [hk]; simp) ?_ h1.2)
      rintro ⟨i', o', h2, h3, h4, -⟩
      rw [hp] at h2; cases h2
      rw [ho] at h3; cases h3
      rw [hk] at h4; cases h4
    | l hw hk hv hcs h0 hst hH =>
      rw [if_pos hw]
      have hv2 : evL C (L.sAt p).env o (L.sAt r).h0 = some (L.val p) := by
        by_cases ek : L.k p = L.k r
        · rw [L.stage_eq (by omega) v.r_le ek]; exact hv
        · obtain ⟨q, hq, hqe, hqk⟩ := L.k_at (p := p) (c := L.k r) (by omega) (by omega)
          obtain ⟨j, hqj, hmem⟩ := L.st_mem (by omega) hq hqe
          rcases hcs _ hmem with h | h
          · exfalso
            have := (v.acts q j hqj hqe).1 (v.has_listed ho he h)
            omega
          · rw [L.stage_eq (p := q) (q := r) (by omega) v.r_le hqk]; exact h
      rw [← evL_congr hop] at hv2
      have hrel : Rel C φ (L.sAt r).h0 w := v.post.rel.less v.next.symm v.stage
      have h1 := evL_ok hrel v.ar hv2
      refine .inl ?_
      unfold Oper.wp
      rw [h1.1]
      refine go _ _ _ _ _ _ (v.step_still hp ho hl he (by rw [hk]; simp) ?_ h1.2)
      rintro ⟨i', o', h2, h3, h4, -⟩
      rw [hp] at h2; cases h2
      rw [ho] at h3; cases h3
      rw [hk] at h4; cases h4
    | n hw hk hv h0 hst hH =>
      rw [if_pos hw]
      rw [← evN_congr hop] at hv
      have hun := v.unl i hios hl
      obtain ⟨lc, w', h1, h2, h3⟩ := evN_ok (H' := F.set (H0.next + i) (some ⟨L.cel p, false⟩)) v.post v.ar hv hun (Nat.le_add_right _ _) (by rw [Heap.next_set]; have := v.big; omega) (Nat.le_refl _) (fun j => Heap.get_set _ _ _ _)
      have hno : F.get (H0.next + i) = none := by
        cases h : F.get (H0.next + i) with
        | none => rfl
        | some ob =>
          obtain ⟨l, hl', -⟩ := v.post.rel.obj _ _ h
          rw [hun] at hl'; cases hl'
      refine .inl ?_
      unfold Oper.wp
      rw [h1]
      refine go _ _ _ _ _ r (v.step hp ho hl he h2 (ext_upd (.inl hun)) h3 v.r_le ?_ ?_ v.next (Nat.le_refl _) ?_ ?_ v.none)
      · intro q j hqj hqe
        have : j ≠ i := by
          rintro rfl
          obtain ⟨i', o', h4, h5, h6⟩ := hqe
          rw [hqj] at h4; cases h4
          rw [ho] at h5; cases h5
          rw [hk] at h6; cases h6
        rw [← v.acts q j hqj hqe]
        simp [this]
      · intro id ob h
        have := v.stage id ob h
        rw [Heap.get_set, if_neg (by rintro rfl; rw [hno] at this; cases this)]
        exact this
      · intro q j hqj hj hqn hkk
        rw [Heap.get_set]
        by_cases e : j = i
        · subst e
          have := L.nodup q p j hqj hp
          subst this
          rw [if_pos rfl]
        · rw [if_neg (by omega)]
          exact v.news q j hqj (hj.resolve_right e) hqn hkk
      · intro j hjs hj hji
        rw [upd_ne φ lc (by omega)]
        exact v.unl j hjs hj
    | e hw hk hv h0 hst =>
      rw [if_pos hw]
      rw [← evE_congr hop] at hv
      obtain ⟨hsub, hnx, hnn⟩ := v.sub hs0 hp ho hl he hk
      have hrel : Rel C φ (L.sAt p).H w := v.post.rel.less hnx hsub
      have hkp := v.k_eq hp ho hl he hk
      have hact : Plan.IsE C ops ord p := ⟨i, o, hp, ho, hk⟩
      have hk1 := L.k_act hact
      refine .inl (evE_wp hf hcall hrel v.ar hv ?_)
      intro φ' w' hq hwv
      obtain ⟨hfg, hfn⟩ := foldl_set_get F (beyond F (L.sAt p).H H0.next ops.size) (L.sAt (p + 1)).H
      generalize hF' : (beyond F (L.sAt p).H H0.next ops.size).foldl (fun h id => h.set id (F.get id)) (L.sAt (p + 1)).H = F' at hfg hfn
      have hbig := v.big
      have hpost : Post C φ0 H0 w0 φ' F' w' := Post.union v.post hnx hsub hq (X := fun id => id ∈ beyond F (L.sAt p).H H0.next ops.size) (by
        intro id hid
        obtain ⟨j, hj, rfl, ⟨ob, hob⟩, hno⟩ := mem_beyond.1 hid
        refine ⟨ob, hob, ?_, hno, Nat.le_add_right _ _⟩
        cases hro : ob.ro with
        | false => rfl
        | true =>
          exfalso
          have := v.post.ros _ _ hob hro
          obtain ⟨l, hl', -⟩ := hr0.obj _ _ this
          have := (hr0.dom _ _ hl').1
          omega) hfg hfn
      refine go φ' F' _ _ w' (p + 1) (v.step hp ho hl he hpost hq.ext hwv (by omega) ?_ ?_ ?_ ?_ ?_ ?_ ?_)
      · intro q j hqj hqe
        rw [v.acts q j hqj hqe]
        constructor
        · rintro (h | rfl)
          · omega
          · have := L.nodup q p j hqj hp
            subst this
            omega
        · intro h
          by_cases e : q = p
          · subst e
            rw [hp] at hqj; cases hqj
            exact .inr rfl
          · left
            have : L.k q ≠ L.k p := fun h' => e (L.k_inj hqe hact h')
            omega
      · intro id ob h
        rw [h0] at h
        rw [hfg, if_neg ?_]
        · exact h
        · intro hid
          obtain ⟨j, hj, rfl, -, hno⟩ := mem_beyond.1 hid
          have := hq.fresh (H0.next + j) (by rw [hnx]; omega) hno
          rw [h] at this
          cases this
      · rw [hfn, h0]
      · rw [hfn]
        have := hq.next
        omega
      · intro q j hqj hj hqn hkk
        have hqp : j ≠ i := by
          rintro rfl
          have := L.nodup q p j hqj hp
          subst this
          omega
        have hlj := hj.resolve_right hqp
        have hFj := v.news q j hqj hlj hqn (by omega)
        have hjs : j < ops.size := by
          obtain ⟨o', ho', -⟩ := L.opAt q j hqj
          exact (Array.getElem?_eq_some_iff.1 ho').1
        rw [hfg, if_pos (mem_beyond.2 ⟨j, hjs, rfl, ⟨_, hFj⟩, hnn q j hqj (by omega)⟩)]
        exact hFj
      · intro j hjs hj hji
        exact hq.keep _ (by rw [hnx]; omega) (v.unl j hjs hj)
      · intro q j hqj hkk
        rw [h0]
        have hjs : j < ops.size := by
          obtain ⟨o', ho', -⟩ := L.opAt q j hqj
          exact (Array.getElem?_eq_some_iff.1 ho').1
        exact hq.fresh (H0.next + j) (by rw [hnx]; omega) (hnn q j hqj (by omega))
    | skip hw hk hv h0 hst hH =>
      rw [if_neg (by rw [hw]; simp)]
      have h1 := v.step_still hp ho hl he hk (by
        rintro ⟨i', o', h2, h3, -, h4⟩
        rw [hp] at h2; cases h2
        rw [ho] at h3; cases h3
        rw [hw] at h4; cases h4) (by rw [hv]; trivial)
      rw [hv] at h1
      exact go _ _ _ _ _ _ h1
    | skipE hw hk hv h0 hst hH =>
      rw [if_neg (by rw [hw]; simp)]
      obtain ⟨hsub, hnx, hnn⟩ := v.sub hs0 hp ho hl he hk
      have hkp := v.k_eq hp ho hl he hk
      have hact : Plan.IsE C ops ord p := ⟨i, o, hp, ho, hk⟩
      have hk1 := L.k_act hact
      have h1 := v.step (φ' := φ) (F' := F) (w' := w) (r' := p + 1) hp ho hl he v.post (.refl _) (by rw [hv]; trivial) (by omega) (by
        intro q j hqj hqe
        rw [v.acts q j hqj hqe]
        constructor
        · rintro (h | rfl)
          · omega
          · have := L.nodup q p j hqj hp
            subst this
            omega
        · intro h
          by_cases e : q = p
          · subst e
            rw [hp] at hqj; cases hqj
            exact .inr rfl
          · left
            have : L.k q ≠ L.k p := fun h' => e (L.k_inj hqe hact h')
            omega) (by rw [h0]; exact hsub) (by rw [h0, hnx]) (Nat.le_refl _) (by
        intro q j hqj hj hqn hkk
        have hqp : j ≠ i := by
          rintro rfl
          have := L.nodup q p j hqj hp
          subst this
          omega
        exact v.news q j hqj (hj.resolve_right hqp) hqn (by omega)) (fun j h1 h2 _ => v.unl j h1 h2) (by
        intro q j hqj hkk
        rw [h0]
        exact hnn q j hqj (by omega))
      rw [hv] at h1
      exact go _ _ _ _ _ _ h1
end
end Go.Ab
