/-
  A region whose order is open: any order is followed.
-/
import Derived.Test.YtbdnkdldmfnilaaGreatAbDraw2
namespace Go.Ab
section
variable {C : Cfg} {φ φ' φ0 φs : Phi} {H H0 H' Hi H1 F F' : Heap} {w w' w0 ws : World} {env env' en : Env} {a : Act}

theorem Post.res (h : Rel C φ H w) (n : Nat) : Post C φ H w φ (H.res n) w :=
  ⟨.refl _, ⟨fun id l hl => ⟨Nat.lt_of_lt_of_le (h.dom id l hl).1 (Nat.le_add_right _ _), (h.dom id l hl).2⟩, h.obj, h.inj, h.glob⟩, Nat.le_refl _, rfl, rfl, rfl, fun _ _ _ => rfl, fun _ h _ => h, Nat.le_add_right _ _, fun _ _ h => h, fun _ _ h _ => h, fun _ _ h => h⟩

/-- An act upon a part of the heap: the rest stays. -/
theorem Post.union (hp : Post C φ0 H0 w0 φ F w) (hle : Hi.next = F.next) (hsub : ∀ id ob, Hi.get id = some ob → F.get id = some ob) (hq : Post C φ Hi w φ' H1 w') {X : Nat → Prop} [DecidablePred X]
    (hX : ∀ id, X id → ∃ ob, F.get id = some ob ∧ ob.ro = false ∧ Hi.get id = none ∧ H0.next ≤ id) (hget : ∀ id, F'.get id = if X id then F.get id else H1.get id) (hn : F'.next = H1.next) : Post C φ0 H0 w0 φ' F' w' := by
  have hhost : ∀ b, Hosts φ Hi b → Hosts φ F b := fun b ⟨id, o, l, h1, h2, h3, h4⟩ => ⟨id, o, l, hsub _ _ h1, h2, h3, h4⟩
  -- an extra object's block is none of the part's
  have hfree : ∀ id ob l, X id → F.get id = some ob → φ id = some l → ¬ Hosts φ Hi l.blk := by
    rintro id ob l hx hob hl ⟨id', o', l', h1, h2, h3, h4⟩
    have := hp.rel.inj id' id o' ob l' l (hsub _ _ h1) hob h2 h3 hl h4
    subst this
    obtain ⟨-, -, -, hno, -⟩ := hX id' hx
    rw [hno] at h1
    cases h1
  have hkeep : ∀ id ob l, X id → F.get id = some ob → φ id = some l → w'.heap[l.blk]? = w.heap[l.blk]? := fun id ob l hx hob hl =>
    hq.frame _ (hp.rel.dom id l hl).2 (hfree id ob l hx hob hl)
  refine ⟨hp.ext.trans hq.ext, ⟨?_, ?_, ?_, hq.rel.glob⟩, Nat.le_trans hp.size hq.size, hq.tape.trans hp.tape, hq.os.trans hp.os, hq.output.trans hp.output, ?_, ?_, ?_, ?_, ?_,
    fun id hid hn => hq.keep id (by rw [hle]; exact Nat.lt_of_lt_of_le hid hp.next) (hp.keep id hid hn)⟩
  · intro id l hl
    rw [hn]
    exact hq.rel.dom id l hl
  · intro id ob hob
    rw [hget] at hob
    split at hob
    · rename_i hx
      obtain ⟨l, hl, hh⟩ := hp.rel.obj id ob hob
      exact ⟨l, hq.ext _ _ hl, hh.mono hq.ext (hkeep id ob l hx hob hl)⟩
    · exact hq.rel.obj id ob hob
  · -- apart
    have key : ∀ id id' o o' l l', X id → ¬ X id' → F.get id = some o → H1.get id' = some o' → φ' id = some l → φ' id' = some l' → l.blk = l'.blk → False := by
      intro id id' o o' l l' hx hx' ho ho' hl hl' hbb
      obtain ⟨lo, hlo, -⟩ := hp.rel.obj id o ho
      have := hq.ext _ _ hlo
      rw [hl] at this
      cases this
      have hbs := (hp.rel.dom id l hlo).2
      cases hro : o'.ro with
      | false => exact hfree id o l hx ho hlo (hq.own _ ⟨id', o', l', ho', hro, hl', hbb.symm⟩ hbs)
      | true =>
        have h1 := hq.ros id' o' ho' hro
        obtain ⟨l2, hl2, -⟩ := hp.rel.obj id' o' (hsub _ _ h1)
        have := hq.ext _ _ hl2
        rw [hl'] at this
        cases this
        obtain ⟨ob, hob, hobr, -, -⟩ := hX id hx
        rw [ho] at hob; cases hob
        have := hp.rel.inj id id' o o' l l' ho (hsub _ _ h1) hobr hlo hl2 hbb
        subst this
        exact hx' hx
    intro id id' o o' l l' ho ho' hro hl hl' hbb
    rw [hget] at ho ho'
    by_cases hx : X id
    · by_cases hx' : X id'
      · rw [if_pos hx] at ho
        rw [if_pos hx'] at ho'
        obtain ⟨lo, hlo, -⟩ := hp.rel.obj id o ho
        obtain ⟨lo', hlo', -⟩ := hp.rel.obj id' o' ho'
        have e1 := hq.ext _ _ hlo
        have e2 := hq.ext _ _ hlo'
        rw [hl] at e1; cases e1
        rw [hl'] at e2; cases e2
        exact hp.rel.inj id id' o o' l l' ho ho' hro hlo hlo' hbb
      · rw [if_pos hx] at ho
        rw [if_neg hx'] at ho'
        exact (key id id' o o' l l' hx hx' ho ho' hl hl' hbb).elim
    · by_cases hx' : X id'
      · rw [if_neg hx] at ho
        rw [if_pos hx'] at ho'
        exact (key id' id o' o l' l hx' hx ho' ho hl' hl hbb.symm).elim
      · rw [if_neg hx] at ho
        rw [if_neg hx'] at ho'
        exact hq.rel.inj id id' o o' l l' ho ho' hro hl hl' hbb
  · intro b hb hn'
    rw [hq.frame b (Nat.lt_of_lt_of_le hb hp.size) (fun hh => hn' (hp.own b (hhost b hh) hb)), hp.frame b hb hn']
  · rintro b ⟨id, o, l, ho, hro, hl, hlb⟩ hb
    rw [hget] at ho
    split at ho
    · obtain ⟨lo, hlo, -⟩ := hp.rel.obj id o ho
      have e1 := hq.ext _ _ hlo
      rw [hl] at e1; cases e1
      exact hp.own b ⟨id, o, l, ho, hro, hlo, hlb⟩ hb
    · exact hp.own b (hhost b (hq.own b ⟨id, o, l, ho, hro, hl, hlb⟩ (Nat.lt_of_lt_of_le hb hp.size))) hb
  · rw [hn]
    exact Nat.le_trans hp.next (hle ▸ hq.next)
  · intro id hid hno
    rw [hget]
    split
    · rename_i hx
      obtain ⟨-, -, -, -, hge⟩ := hX id hx
      omega
    · have hF := hp.fresh id hid hno
      have hHi : Hi.get id = none := by
        cases h : Hi.get id with
        | none => rfl
        | some o => rw [hsub _ _ h] at hF; cases hF
      exact hq.fresh id (by rw [hle]; exact Nat.lt_of_lt_of_le hid hp.next) hHi
  · intro id o ho hro
    rw [hget] at ho
    split at ho
    · exact hp.ros id o ho hro
    · exact hp.ros id o (hsub _ _ (hq.ros id o ho hro)) hro

theorem foldl_set_get (F : Heap) : ∀ (ids : List Nat) (H1 : Heap), (∀ id, (ids.foldl (fun h id => h.set id (F.get id)) H1).get id = if id ∈ ids then F.get id else H1.get id) ∧ (ids.foldl (fun h id => h.set id (F.get id)) H1).next = H1.next
  | [], H1 => ⟨fun id => by simp, rfl⟩
  | x :: ids, H1 => by
    obtain ⟨h1, h2⟩ := foldl_set_get F ids (H1.set x (F.get x))
    refine ⟨fun id => ?_, h2⟩
    simp only [List.foldl_cons, h1, Heap.get_set, List.mem_cons]
    by_cases e1 : id ∈ ids
    · simp [e1]
    · by_cases e2 : id = x
      · subst e2; simp
      · simp [e1, e2]

variable {call : FuncId → List V → Heap → Option (V × Heap)} {ops : Array Oper} {ord : List Nat} {en0 : Env}

/-- What holds while some order is followed. -/
structure Inv (L : Plan C call ops H0.next ord en0) (φ0 : Phi) (w0 : World) (listed : Array Bool) (φ : Phi) (F : Heap) (en : Env) (a : Act) (w : World) (r : Nat) : Prop where
  sz : listed.size = ops.size
  closed : ∀ (i : Nat) (o : Oper), listed.getD i false = true → ops[i]? = some o → ∀ e ∈ edges o, listed.getD e false = true
  ar : AR φ en a
  len : en.length = en0.length
  envIn : ∀ (q i : Nat) (t : Tmp), ord[q]? = some i → listed.getD i false = true → Plan.dstAt ops ord q = some t → en[t]? = some (L.val q)
  envOut : ∀ t : Tmp, (∀ q i : Nat, ord[q]? = some i → listed.getD i false = true → Plan.dstAt ops ord q ≠ some t) → en[t]? = en0[t]?
  post : Post C φ0 H0 w0 φ F w
  r_le : r ≤ ord.length
  acts : ∀ q i : Nat, ord[q]? = some i → Plan.IsE C ops ord q → (listed.getD i false = true ↔ L.k q < L.k r)
  stage : ∀ id ob, (L.sAt r).h0.get id = some ob → F.get id = some ob
  next : F.next = (L.sAt r).h0.next
  big : H0.next + ops.size ≤ F.next
  news : ∀ q i : Nat, ord[q]? = some i → listed.getD i false = true → Plan.IsN C ops ord L.sAt q → L.k r ≤ L.k q → F.get (H0.next + i) = some ⟨L.cel q, false⟩
  unl : ∀ i, i < ops.size → listed.getD i false = false → φ (H0.next + i) = none
  none : ∀ q i : Nat, ord[q]? = some i → L.k r ≤ L.k q → (L.sAt r).h0.get (H0.next + i) = none

namespace Inv
variable {L : Plan C call ops H0.next ord en0} {listed : Array Bool} {r : Nat}

theorem has_listed (v : Inv L φ0 w0 listed φ F en a w r) {i j : Nat} {o : Oper} (ho : ops[i]? = some o) (he : ∀ e ∈ edges o, listed.getD e false = true) (h : has (masks ops.toList []) i j = true) : listed.getD j false = true :=
  closed_has (ops := ops.toList) (S := fun x => listed.getD x false = true) (fun x o' hx ho' => v.closed x o' hx (by simpa using ho')) i j o (by simpa using ho) he h

theorem agree (v : Inv L φ0 w0 listed φ F en a w r) {p i : Nat} {o : Oper} (hp : ord[p]? = some i) (ho : ops[i]? = some o) (hl : listed.getD i false = false) (he : ∀ e ∈ edges o, listed.getD e false = true) :
    ∀ t ∈ tmpsOf ops.toList o, en[t]? = (L.sAt p).env[t]? := by
  intro t ht
  have hpl := Plan.pos_lt hp
  have hea := L.env_at (p := p) (by omega)
  by_cases hq : ∃ q, Plan.dstAt ops ord q = some t
  · obtain ⟨q, hq⟩ := hq
    have hq' := hq
    simp only [Plan.dstAt, Option.bind_eq_some_iff] at hq'
    obtain ⟨o', ⟨j, hqj, hoj⟩, hdj⟩ := hq'
    rcases L.near i j o o' t ho hoj hdj ht with h | h
    · have h1 := v.has_listed ho he h
      obtain ⟨q', hq1, hq2⟩ := L.ahead hp h
      have := L.nodup q q' j hqj hq2
      subst this
      rw [v.envIn q j t hqj h1 hq, hea.1 q t hq1 hq]
    · have h1 : listed.getD j false = false := by
        cases hj : listed.getD j false with
        | false => rfl
        | true =>
          have := v.has_listed hoj (v.closed j o' hj hoj) h
          rw [hl] at this
          cases this
      have h2 : ¬ q < p := by
        intro hlt
        obtain ⟨q', hq1, hq2⟩ := L.ahead hqj h
        have := L.nodup p q' i hp hq2
        omega
      rw [v.envOut t (fun q2 i2 h3 h4 h5 => by
        have := L.dstAt_inj h5 hq
        subst this
        rw [hqj] at h3
        cases h3
        rw [h1] at h4
        cases h4), hea.2 t (fun q2 h3 h5 => by
        have := L.dstAt_inj h5 hq
        omega)]
  · rw [v.envOut t (fun q2 i2 h3 h4 h5 => hq ⟨q2, h5⟩), hea.2 t (fun q2 h3 h5 => hq ⟨q2, h5⟩)]

theorem agree_opd (v : Inv L φ0 w0 listed φ F en a w r) {p i : Nat} {o : Oper} (hp : ord[p]? = some i) (ho : ops[i]? = some o) (hl : listed.getD i false = false) (he : ∀ e ∈ edges o, listed.getD e false = true) :
    ∀ x ∈ o.op.operands, opd C en x = opd C (L.sAt p).env x := by
  intro x hx
  cases x with
  | tmp t =>
    have : t ∈ tmpsOf ops.toList o := by
      simp only [tmpsOf, List.mem_append, List.mem_filterMap]
      exact .inl ⟨.tmp t, by simpa using hx, rfl⟩
    exact v.agree hp ho hl he t this
  | const c => rfl
  | global g => rfl
  | func f => rfl

theorem agree_wants (v : Inv L φ0 w0 listed φ F en a w r) {p i : Nat} {o : Oper} (hp : ord[p]? = some i) (ho : ops[i]? = some o) (hl : listed.getD i false = false) (he : ∀ e ∈ edges o, listed.getD e false = true) :
    wants ops en o = wants ops (L.sAt p).env o := by
  unfold wants
  cases hg : o.guard with
  | none => rfl
  | some gb =>
    obtain ⟨g, b⟩ := gb
    simp only []
    cases hd : (ops[g]?).bind (·.dst) with
    | none => rfl
    | some d =>
      have : d ∈ tmpsOf ops.toList o := by
        simp only [tmpsOf, List.mem_append, hg]
        right
        simp [hd]
      simp only [Option.bind_some, v.agree hp ho hl he d this]

theorem k_le (v : Inv L φ0 w0 listed φ F en a w r) {p i : Nat} (hp : ord[p]? = some i) (hl : listed.getD i false = false) : L.k r ≤ L.k p := by
  rcases Nat.lt_or_ge (L.k p) (L.k r) with h | h
  · exfalso
    obtain ⟨q, hq, hqe, hqk⟩ := L.k_at v.r_le h
    obtain ⟨j, o', hqj, hoj, hkj⟩ := id hqe
    have hlj := (v.acts q j hqj hqe).2 (by omega)
    rcases Nat.lt_trichotomy q p with hlt | he | hlt
    · have := L.k_mono (p := q + 1) (q := p) (by omega) (Nat.le_of_lt (Plan.pos_lt hp))
      have := L.k_act hqe
      omega
    · subst he
      rw [hp] at hqj; cases hqj
      rw [hl] at hlj; cases hlj
    · have hh := L.actp q j o' hqj hoj hkj p i hlt hp
      have := v.has_listed hoj (v.closed j o' hlj hoj) hh
      rw [hl] at this
      cases this
  · exact h

theorem k_eq (v : Inv L φ0 w0 listed φ F en a w r) {p i : Nat} {o : Oper} (hp : ord[p]? = some i) (ho : ops[i]? = some o) (hl : listed.getD i false = false) (he : ∀ e ∈ edges o, listed.getD e false = true) (hk : kind C.P o = .e) : L.k p = L.k r := by
  have h1 := v.k_le hp hl
  rcases Nat.lt_or_ge (L.k r) (L.k p) with h | h
  · exfalso
    obtain ⟨q, hq, hqe, hqk⟩ := L.k_at (Nat.le_of_lt (Plan.pos_lt hp)) h
    obtain ⟨j, o', hqj, hoj, hkj⟩ := id hqe
    have hh := L.actp p i o hp ho hk q j hq hqj
    have := (v.acts q j hqj hqe).1 (v.has_listed ho he hh)
    omega
  · omega

/-- Of the heap of the one order at an act. -/
theorem sub (v : Inv L φ0 w0 listed φ F en a w r) (hs0 : (L.sAt 0).H = (L.sAt 0).h0) {p i : Nat} {o : Oper} (hp : ord[p]? = some i) (ho : ops[i]? = some o) (hl : listed.getD i false = false) (he : ∀ e ∈ edges o, listed.getD e false = true) (hk : kind C.P o = .e) :
    (∀ id ob, (L.sAt p).H.get id = some ob → F.get id = some ob) ∧ (L.sAt p).H.next = F.next ∧ ∀ q j, ord[q]? = some j → L.k r + 1 ≤ L.k q → (L.sAt p).H.get (H0.next + j) = .none := by
  have hpl := Plan.pos_lt hp
  have hkp := v.k_eq hp ho hl he hk
  obtain ⟨h1, h2⟩ := L.heap_at hs0 (p := p) (by omega)
  have hst := L.stage_eq (p := p) (q := r) (by omega) v.r_le hkp
  refine ⟨?_, ?_, ?_⟩
  · intro id ob h
    rcases h2 id ob h with h | ⟨q, j, hq, hqj, hqn, hqk, rfl, rfl⟩
    · exact v.stage id ob (by rw [hst]; exact h)
    · refine v.news q j hqj ?_ hqn (by omega)
      exact v.has_listed ho he (L.actp p i o hp ho hk q j hq hqj)
  · rw [h1, v.next, hst]
  · intro q j hqj hqk
    cases h : (L.sAt p).H.get (H0.next + j) with
    | none => rfl
    | some ob =>
      exfalso
      rcases h2 _ ob h with h | ⟨q', j', hq', hqj', hqn, hqk', hid, -⟩
      · have := v.none q j hqj (by omega)
        rw [hst, h] at this
        cases this
      · have : j = j' := by omega
        subst this
        have := L.nodup q q' j hqj hqj'
        subst this
        omega

theorem getD_lt (v : Inv L φ0 w0 listed φ F en a w r) {i : Nat} {o : Oper} (ho : ops[i]? = some o) : i < listed.size := by
  rw [v.sz]; exact (Array.getElem?_eq_some_iff.1 ho).1

theorem set_self {listed : Array Bool} {i : Nat} (h : i < listed.size) : (listed.setIfInBounds i true).getD i false = true := by
  simp [Array.getD_eq_getD_getElem?, h]
theorem set_ne {listed : Array Bool} {i j : Nat} (h : i ≠ j) : (listed.setIfInBounds i true).getD j false = listed.getD j false := getD_set_ne false h

/-- One operation more. -/
theorem step (v : Inv L φ0 w0 listed φ F en a w r) {p i : Nat} {o : Oper} (hp : ord[p]? = some i) (ho : ops[i]? = some o) (hl : listed.getD i false = false) (he : ∀ e ∈ edges o, listed.getD e false = true)
    {φ' : Phi} {F' : Heap} {w' : World} {r' : Nat} (hpost : Post C φ0 H0 w0 φ' F' w') (hext : Ext φ φ') (hval : wf φ' (L.val p)) (hr' : r' ≤ ord.length)
    (hacts : ∀ q j, ord[q]? = some j → Plan.IsE C ops ord q → ((listed.getD j false = true ∨ j = i) ↔ L.k q < L.k r'))
    (hstage : ∀ id ob, (L.sAt r').h0.get id = some ob → F'.get id = some ob) (hnext : F'.next = (L.sAt r').h0.next) (hbig : F.next ≤ F'.next)
    (hnews : ∀ q j, ord[q]? = some j → (listed.getD j false = true ∨ j = i) → Plan.IsN C ops ord L.sAt q → L.k r' ≤ L.k q → F'.get (H0.next + j) = some ⟨L.cel q, false⟩)
    (hunl : ∀ j, j < ops.size → listed.getD j false = false → j ≠ i → φ' (H0.next + j) = .none)
    (hnone : ∀ q j, ord[q]? = some j → L.k r' ≤ L.k q → (L.sAt r').h0.get (H0.next + j) = .none) :
    Inv L φ0 w0 (listed.setIfInBounds i true) φ' F' (en.put o.dst (L.val p)) (a.put o.dst (conc φ' (L.val p))) w' r' := by
  have hil := v.getD_lt ho
  have hor : ∀ j, (listed.setIfInBounds i true).getD j false = true ↔ (listed.getD j false = true ∨ j = i) := by
    intro j
    by_cases e : i = j
    · subst e
      rw [set_self hil]
      simp
    · rw [set_ne e]
      constructor
      · exact .inl
      · rintro (h | h)
        · exact h
        · exact absurd h.symm e
  have hdst : Plan.dstAt ops ord p = o.dst := by simp only [Plan.dstAt, hp, Option.bind_some, ho]
  refine ⟨by simpa using v.sz, ?_, (v.ar.mono hext).put o.dst hval, ?_, ?_, ?_, hpost, hr', ?_, hstage, hnext, Nat.le_trans v.big hbig, ?_, ?_, hnone⟩
  · intro j o' hj hoj e hee
    rw [hor] at hj ⊢
    left
    rcases hj with hj | rfl
    · exact v.closed j o' hj hoj e hee
    · rw [ho] at hoj; cases hoj
      exact he e hee
  · cases o.dst <;> simp [Env.put, v.len]
  · intro q j t hqj hj ht
    rw [hor] at hj
    by_cases e : q = p
    · subst e
      rw [hdst] at ht
      rw [ht]
      simp only [Env.put]
      exact List.getElem?_set_self (by rw [v.len]; exact L.slot i o t ho ht)
    · have hji : j ≠ i := by
        rintro rfl
        exact e (L.nodup q p j hqj hp)
      have hjl := hj.resolve_right hji
      cases hod : o.dst with
      | none => exact v.envIn q j t hqj hjl ht
      | some d =>
        simp only [Env.put]
        have : d ≠ t := by
          rintro rfl
          exact e (L.dstAt_inj ht (by rw [hdst, hod]))
        rw [List.getElem?_set_ne this]
        exact v.envIn q j t hqj hjl ht
  · intro t ht
    cases hod : o.dst with
    | none => exact v.envOut t (fun q j h1 h2 => ht q j h1 ((hor j).2 (.inl h2)))
    | some d =>
      simp only [Env.put]
      have : d ≠ t := by
        rintro rfl
        exact ht p i hp ((hor i).2 (.inr rfl)) (by rw [hdst, hod])
      rw [List.getElem?_set_ne this]
      exact v.envOut t (fun q j h1 h2 => ht q j h1 ((hor j).2 (.inl h2)))
  · intro q j hqj hqe
    rw [hor]
    exact hacts q j hqj hqe
  · intro q j hqj hj hqn hk
    rw [hor] at hj
    exact hnews q j hqj hj hqn hk
  · intro j hjs hj
    have h1 : ¬ ((listed.getD j false = true) ∨ j = i) := fun h => by rw [(hor j).2 h] at hj; cases hj
    refine hunl j hjs ?_ (fun e => h1 (.inr e))
    cases h : listed.getD j false with
    | false => rfl
    | true => exact absurd (.inl h) h1

/-- Nothing but a slot turns. -/
theorem step_still (v : Inv L φ0 w0 listed φ F en a w r) {p i : Nat} {o : Oper} (hp : ord[p]? = some i) (ho : ops[i]? = some o) (hl : listed.getD i false = false) (he : ∀ e ∈ edges o, listed.getD e false = true)
    (hk : kind C.P o ≠ .e) (hn : ¬ Plan.IsN C ops ord L.sAt p) (hval : wf φ (L.val p)) :
    Inv L φ0 w0 (listed.setIfInBounds i true) φ F (en.put o.dst (L.val p)) (a.put o.dst (conc φ (L.val p))) w r := by
  refine v.step hp ho hl he v.post (.refl _) hval v.r_le ?_ v.stage v.next (Nat.le_refl _) ?_ (fun j h1 h2 _ => v.unl j h1 h2) v.none
  · intro q j hqj hqe
    have : j ≠ i := by
      rintro rfl
      obtain ⟨i', o', h1, h2, h3⟩ := hqe
      rw [hqj] at h1; cases h1
      rw [ho] at h2; cases h2
      exact hk h3
    rw [← v.acts q j hqj hqe]
    simp [this]
  · intro q j hqj hj hqn hkk
    refine v.news q j hqj (hj.resolve_right ?_) hqn hkk
    rintro rfl
    have := L.nodup q p j hqj hp
    subst this
    exact hn hqn
end Inv
end
end Go.Ab
