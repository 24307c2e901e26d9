/-
  A region whose order is open: the proof.
-/
import Derived.Test.YtbdnkdldmfnilaaGreatAbDraw
namespace Go.Ab
section
variable {C : Cfg} {φ φ0 : Phi} {H H0 H' : Heap} {w w0 : World} {env env' : Env} {a : Act}

/-- What one operation of the order comes to. -/
inductive StepFact (C : Cfg) (call : FuncId → List V → Heap → Option (V × Heap)) (ops : Array Oper) (ms : List Nat) (base i : Nat) (o : Oper) (s s' : DS) (v : V) (cells : List V) : Prop where
  | p (hw : wants ops s.env o = true) (hk : kind C.P o = .p) (hv : evP C s.env o = some v) (h0 : s'.h0 = s.h0) (hst : s'.st = s.st) (hH : s'.H = s.H)
  | l (hw : wants ops s.env o = true) (hk : kind C.P o = .l) (hv : evL C s.env o s.h0 = some v) (hc : ∀ x ∈ s.st, has ms i x.1 = true ∨ evL C s.env o x.2 = some v) (h0 : s'.h0 = s.h0) (hst : s'.st = s.st) (hH : s'.H = s.H)
  | n (hw : wants ops s.env o = true) (hk : kind C.P o = .n) (hv : evN C s.env o (base + i) = some (v, cells)) (h0 : s'.h0 = s.h0) (hst : s'.st = s.st) (hH : s'.H = s.H.set (base + i) (some ⟨cells, false⟩))
  | e (hw : wants ops s.env o = true) (hk : kind C.P o = .e) (hv : evE C call s.env o s.H = some (v, s'.H)) (h0 : s'.h0 = s'.H) (hst : s'.st = (i, s.h0) :: s.st)
  | skip (hw : wants ops s.env o = false) (hk : kind C.P o ≠ .e) (hv : v = V.un) (h0 : s'.h0 = s.h0) (hst : s'.st = s.st) (hH : s'.H = s.H)
  | skipE (hw : wants ops s.env o = false) (hk : kind C.P o = .e) (hv : v = V.un) (h0 : s'.h0 = s.H) (hst : s'.st = (i, s.h0) :: s.st) (hH : s'.H = s.H)

theorem stepD_fact {call : FuncId → List V → Heap → Option (V × Heap)} {ops : Array Oper} {ms : List Nat} {base i : Nat} {s s' : DS} {v : V} {cells : List V} (h : stepD C call ops ms base i s = some (s', v, cells)) :
    ∃ o, ops[i]? = some o ∧ s'.env = s.env.put o.dst v ∧ StepFact C call ops ms base i o s s' v cells := by
  unfold stepD at h
  split at h
  · cases h
  · rename_i o ho
    refine ⟨o, ho, ?_⟩
    split at h
    · rename_i hw
      split at h
      · rename_i hk
        split at h
        · rename_i u hv
          simp only [Option.some.injEq, Prod.mk.injEq] at h
          obtain ⟨rfl, rfl, rfl⟩ := h
          exact ⟨rfl, .p hw hk hv rfl rfl rfl⟩
        · cases h
      · rename_i hk
        split at h
        · rename_i u hv
          split at h
          · rename_i hc
            simp only [Option.some.injEq, Prod.mk.injEq] at h
            obtain ⟨rfl, rfl, rfl⟩ := h
            refine ⟨rfl, .l hw hk hv ?_ rfl rfl rfl⟩
            intro x hx
            have := List.all_eq_true.1 hc x hx
            simp only [Bool.or_eq_true] at this
            rcases this with h1 | h1
            · exact .inl h1
            · right
              split at h1
              · rename_i v' hv'
                rw [hv', V.same_eq _ _ h1]
              · cases h1
          · cases h
        · cases h
      · rename_i hk
        split at h
        · rename_i u cs hv
          simp only [Option.some.injEq, Prod.mk.injEq] at h
          obtain ⟨rfl, rfl, rfl⟩ := h
          exact ⟨rfl, .n hw hk hv rfl rfl rfl⟩
        · cases h
      · rename_i hk
        split at h
        · rename_i u H' hv
          simp only [Option.some.injEq, Prod.mk.injEq] at h
          obtain ⟨rfl, rfl, rfl⟩ := h
          exact ⟨rfl, .e hw hk hv rfl rfl⟩
        · cases h
    · rename_i hw
      have hw : wants ops s.env o = false := by simpa using hw
      split at h
      · rename_i hk
        simp only [Option.some.injEq, Prod.mk.injEq] at h
        obtain ⟨rfl, rfl, rfl⟩ := h
        exact ⟨rfl, .skipE hw hk rfl rfl rfl rfl⟩
      · rename_i hk
        simp only [Option.some.injEq, Prod.mk.injEq] at h
        obtain ⟨rfl, rfl, rfl⟩ := h
        exact ⟨rfl, .skip hw (fun e => hk e) rfl rfl rfl rfl⟩

theorem runD_states {call : FuncId → List V → Heap → Option (V × Heap)} {ops : Array Oper} {ms : List Nat} {base : Nat} : ∀ (ord : List Nat) (s0 sF : DS), runD C call ops ms base ord s0 = some sF →
    ∃ sAt : Nat → DS, sAt 0 = s0 ∧ (∀ (p i : Nat), ord[p]? = some i → ∃ v cells, stepD C call ops ms base i (sAt p) = some (sAt (p + 1), v, cells)) ∧ sAt ord.length = sF
  | [], s0, sF, h => by
    simp only [runD, Option.some.injEq] at h
    exact ⟨fun _ => s0, rfl, fun p i hp => by simp at hp, h⟩
  | x :: ord, s0, sF, h => by
    simp only [runD] at h
    split at h
    · rename_i s1 v cells hs
      obtain ⟨sAt, h0, h1, h2⟩ := runD_states ord s1 sF h
      refine ⟨fun | 0 => s0 | p + 1 => sAt p, rfl, ?_, h2⟩
      intro p i hp
      cases p with
      | zero =>
        have : x = i := by simpa using hp
        subst this
        exact ⟨v, cells, by show stepD C call ops ms base x s0 = some (sAt 0, v, cells); rw [h0]; exact hs⟩
      | succ p => exact h1 p i (by simpa using hp)
    · cases h

/-- The one order, and what is known of it. -/
structure Plan (C : Cfg) (call : FuncId → List V → Heap → Option (V × Heap)) (ops : Array Oper) (base : Nat) (ord : List Nat) (en0 : Env) where
  sAt : Nat → DS
  val : Nat → V
  cel : Nat → List V
  nodup : ∀ (p q i : Nat), ord[p]? = some i → ord[q]? = some i → p = q
  all : ∀ i, i < ops.size → ∃ p : Nat, ord[p]? = some i
  opAt : ∀ (p i : Nat), ord[p]? = some i → ∃ o, ops[i]? = some o ∧ (sAt (p + 1)).env = (sAt p).env.put o.dst (val p) ∧ StepFact C call ops (masks ops.toList []) base i o (sAt p) (sAt (p + 1)) (val p) (cel p)
  edge : ∀ (p i : Nat) (o : Oper), ord[p]? = some i → ops[i]? = some o → ∀ e ∈ edges o, ∃ q, q < p ∧ ord[q]? = some e
  actp : ∀ (p i : Nat) (o : Oper), ord[p]? = some i → ops[i]? = some o → kind C.P o = .e → ∀ (q j : Nat), q < p → ord[q]? = some j → has (masks ops.toList []) i j = true
  env0 : (sAt 0).env = en0
  st0 : (sAt 0).st = []
  lt : ∀ (i : Nat) (o : Oper), ops[i]? = some o → ∀ e ∈ edges o, e < i
  dsts : ∀ (i j : Nat) (o o' : Oper) (d : Tmp), ops[i]? = some o → ops[j]? = some o' → o.dst = some d → o'.dst = some d → i = j
  slot : ∀ (i : Nat) (o : Oper) (d : Tmp), ops[i]? = some o → o.dst = some d → d < en0.length
  near : ∀ (i j : Nat) (o o' : Oper) (d : Tmp), ops[i]? = some o → ops[j]? = some o' → o'.dst = some d → d ∈ tmpsOf ops.toList o → has (masks ops.toList []) i j = true ∨ has (masks ops.toList []) j i = true

namespace Plan
variable {call : FuncId → List V → Heap → Option (V × Heap)} {ops : Array Oper} {base : Nat} {ord : List Nat} {en0 : Env} (L : Plan C call ops base ord en0)

/-- How many acts are ahead. -/
def k (p : Nat) : Nat := (L.sAt p).st.length
def IsE (C : Cfg) (ops : Array Oper) (ord : List Nat) (p : Nat) : Prop := ∃ i o, ord[p]? = some i ∧ ops[i]? = some o ∧ kind C.P o = .e
def IsN (C : Cfg) (ops : Array Oper) (ord : List Nat) (sAt : Nat → DS) (p : Nat) : Prop := ∃ i o, ord[p]? = some i ∧ ops[i]? = some o ∧ kind C.P o = .n ∧ wants ops (sAt p).env o = true

theorem k_zero : L.k 0 = 0 := by simp [k, L.st0]
theorem k_act {p : Nat} (h : IsE C ops ord p) : L.k (p + 1) = L.k p + 1 := by
  obtain ⟨i, o, hp, ho, hk⟩ := h
  obtain ⟨o', ho', -, hf⟩ := L.opAt p i hp
  rw [ho] at ho'; cases ho'
  cases hf with
  | e hw hk' hv h0 hst => simp [k, hst]
  | skipE hw hk' hv h0 hst hH => simp [k, hst]
  | _ => simp_all
theorem k_still {p i : Nat} {o : Oper} (hp : ord[p]? = some i) (ho : ops[i]? = some o) (hk : kind C.P o ≠ .e) : L.k (p + 1) = L.k p ∧ (L.sAt (p + 1)).h0 = (L.sAt p).h0 ∧ (L.sAt (p + 1)).st = (L.sAt p).st := by
  obtain ⟨o', ho', -, hf⟩ := L.opAt p i hp
  rw [ho] at ho'; cases ho'
  cases hf with
  | e hw hk' hv h0 hst => exact absurd hk' hk
  | skipE hw hk' hv h0 hst hH => exact absurd hk' hk
  | p hw hk' hv h0 hst hH => exact ⟨by simp [k, hst], h0, hst⟩
  | l hw hk' hv hc h0 hst hH => exact ⟨by simp [k, hst], h0, hst⟩
  | n hw hk' hv h0 hst hH => exact ⟨by simp [k, hst], h0, hst⟩
  | skip hw hk' hv h0 hst hH => exact ⟨by simp [k, hst], h0, hst⟩
theorem k_step {p : Nat} (h : p < ord.length) : (IsE C ops ord p ∧ L.k (p + 1) = L.k p + 1) ∨ (¬ IsE C ops ord p ∧ L.k (p + 1) = L.k p ∧ (L.sAt (p + 1)).h0 = (L.sAt p).h0 ∧ (L.sAt (p + 1)).st = (L.sAt p).st) := by
  have hp := List.getElem?_eq_getElem h
  obtain ⟨o, ho, -⟩ := L.opAt p _ hp
  by_cases hk : kind C.P o = .e
  · exact .inl ⟨⟨_, o, hp, ho, hk⟩, L.k_act ⟨_, o, hp, ho, hk⟩⟩
  · refine .inr ⟨?_, L.k_still hp ho hk⟩
    rintro ⟨i', o', hp', ho', hk'⟩
    rw [hp] at hp'; cases hp'
    rw [ho] at ho'; cases ho'
    exact hk hk'
theorem k_mono {p q : Nat} (hpq : p ≤ q) (hq : q ≤ ord.length) : L.k p ≤ L.k q := by
  induction q with
  | zero =>
    have : p = 0 := by omega
    subst this
    exact Nat.le_refl _
  | succ q ih =>
    by_cases e : p = q + 1
    · subst e; exact Nat.le_refl _
    · have := ih (by omega) (by omega)
      rcases L.k_step (p := q) (by omega) with ⟨-, h⟩ | ⟨-, h, -⟩ <;> omega
theorem same_stage {p q : Nat} (hpq : p ≤ q) (hq : q ≤ ord.length) (hk : L.k p = L.k q) : (L.sAt q).h0 = (L.sAt p).h0 := by
  induction q with
  | zero =>
    have : p = 0 := by omega
    subst this
    rfl
  | succ q ih =>
    by_cases e : p = q + 1
    · subst e; rfl
    · have hm := L.k_mono (p := p) (q := q) (by omega) (by omega)
      rcases L.k_step (p := q) (by omega) with ⟨-, h⟩ | ⟨-, h, h0, -⟩
      · omega
      · rw [h0]; exact ih (by omega) (by omega) (by omega)
theorem stage_eq {p q : Nat} (hp : p ≤ ord.length) (hq : q ≤ ord.length) (hk : L.k p = L.k q) : (L.sAt q).h0 = (L.sAt p).h0 := by
  rcases Nat.le_total p q with h | h
  · exact L.same_stage h hq hk
  · exact (L.same_stage h hp hk.symm).symm
/-- Each number of acts below is some act's. -/
theorem k_at {p c : Nat} (hp : p ≤ ord.length) (hc : c < L.k p) : ∃ q, q < p ∧ IsE C ops ord q ∧ L.k q = c := by
  induction p with
  | zero => rw [L.k_zero] at hc; omega
  | succ p ih =>
    rcases L.k_step (p := p) (by omega) with ⟨he, h⟩ | ⟨-, h, -⟩
    · by_cases e : c = L.k p
      · exact ⟨p, by omega, he, e.symm⟩
      · obtain ⟨q, h1, h2, h3⟩ := ih (by omega) (by omega)
        exact ⟨q, by omega, h2, h3⟩
    · obtain ⟨q, h1, h2, h3⟩ := ih (by omega) (by omega)
      exact ⟨q, by omega, h2, h3⟩
theorem pos_lt {p i : Nat} (h : ord[p]? = some i) : p < ord.length := (List.getElem?_eq_some_iff.1 h).1
theorem k_inj {p q : Nat} (hp : IsE C ops ord p) (hq : IsE C ops ord q) (h : L.k p = L.k q) : p = q := by
  obtain ⟨i, o, hpi, hoi, hki⟩ := id hp
  obtain ⟨j, o', hqj, hoj, hkj⟩ := id hq
  have l1 := pos_lt hpi
  have l2 := pos_lt hqj
  have e1 := L.k_act hp
  have e2 := L.k_act hq
  rcases Nat.lt_trichotomy p q with hlt | he | hlt
  · have := L.k_mono (p := p + 1) (q := q) (by omega) (by omega); omega
  · exact he
  · have := L.k_mono (p := q + 1) (q := p) (by omega) (by omega); omega
/-- The stage ahead of an act is kept. -/
theorem st_mem {p q : Nat} (hp : p ≤ ord.length) (hq : q < p) (he : IsE C ops ord q) : ∃ i, ord[q]? = some i ∧ (i, (L.sAt q).h0) ∈ (L.sAt p).st := by
  induction p with
  | zero => omega
  | succ p ih =>
    by_cases e : q = p
    · subst e
      obtain ⟨i, o, hpi, hoi, hki⟩ := he
      obtain ⟨o', ho', -, hf⟩ := L.opAt q i hpi
      rw [hoi] at ho'; cases ho'
      refine ⟨i, hpi, ?_⟩
      cases hf with
      | e hw hk' hv h0 hst => simp [hst]
      | skipE hw hk' hv h0 hst hH => simp [hst]
      | _ => simp_all
    · obtain ⟨i, h1, h2⟩ := ih (by omega) (by omega)
      refine ⟨i, h1, ?_⟩
      have hp' := List.getElem?_eq_getElem (show p < ord.length by omega)
      obtain ⟨o, ho, -, hf⟩ := L.opAt p _ hp'
      cases hf with
      | e hw hk' hv h0 hst => simp [hst, h2]
      | skipE hw hk' hv h0 hst hH => simp [hst, h2]
      | p hw hk' hv h0 hst hH => rw [hst]; exact h2
      | l hw hk' hv hc h0 hst hH => rw [hst]; exact h2
      | n hw hk' hv h0 hst hH => rw [hst]; exact h2
      | skip hw hk' hv h0 hst hH => rw [hst]; exact h2

/-- What the heap holds beyond the stage's. -/
theorem heap_at (hs0 : (L.sAt 0).H = (L.sAt 0).h0) {p : Nat} (hp : p ≤ ord.length) : (L.sAt p).H.next = (L.sAt p).h0.next ∧ ∀ id ob, (L.sAt p).H.get id = some ob → (L.sAt p).h0.get id = some ob ∨
    ∃ q i, q < p ∧ ord[q]? = some i ∧ IsN C ops ord L.sAt q ∧ L.k q = L.k p ∧ id = base + i ∧ ob = ⟨L.cel q, false⟩ := by
  induction p with
  | zero => rw [hs0]; exact ⟨rfl, fun id ob h => .inl h⟩
  | succ p ih =>
    obtain ⟨h1, h2⟩ := ih (by omega)
    have hp' := List.getElem?_eq_getElem (show p < ord.length by omega)
    obtain ⟨o, ho, -, hf⟩ := L.opAt p _ hp'
    have lift : L.k (p + 1) = L.k p → (L.sAt (p + 1)).h0 = (L.sAt p).h0 → ∀ id ob, (L.sAt p).H.get id = some ob → (L.sAt (p + 1)).h0.get id = some ob ∨
        ∃ q i, q < p + 1 ∧ ord[q]? = some i ∧ IsN C ops ord L.sAt q ∧ L.k q = L.k (p + 1) ∧ id = base + i ∧ ob = ⟨L.cel q, false⟩ := by
      intro ek e0 id ob h
      rcases h2 id ob h with h | ⟨q, i, h3, h4, h5, h6, h7⟩
      · exact .inl (by rw [e0]; exact h)
      · exact .inr ⟨q, i, by omega, h4, h5, by omega, h7⟩
    cases hf with
    | e hw hk' hv h0 hst => rw [h0]; exact ⟨rfl, fun id ob h => .inl h⟩
    | skipE hw hk' hv h0 hst hH => rw [h0, hH]; exact ⟨rfl, fun id ob h => .inl h⟩
    | p hw hk' hv h0 hst hH =>
      rw [hH]
      exact ⟨by rw [h0]; exact h1, lift (by simp [k, hst]) h0⟩
    | l hw hk' hv hc h0 hst hH =>
      rw [hH]
      exact ⟨by rw [h0]; exact h1, lift (by simp [k, hst]) h0⟩
    | skip hw hk' hv h0 hst hH =>
      rw [hH]
      exact ⟨by rw [h0]; exact h1, lift (by simp [k, hst]) h0⟩
    | n hw hk' hv h0 hst hH =>
      have ek : L.k (p + 1) = L.k p := by simp [k, hst]
      refine ⟨by rw [hH, h0]; exact h1, ?_⟩
      intro id ob h
      rw [hH, Heap.get_set] at h
      split at h
      · rename_i e
        right
        exact ⟨p, _, by omega, hp', ⟨_, o, hp', ho, hk', hw⟩, by omega, e, by cases h; rfl⟩
      · exact lift ek h0 id ob h

/-- Which slot each operation writes. -/
def dstAt (ops : Array Oper) (ord : List Nat) (q : Nat) : Option Tmp := ((ord[q]?).bind (ops[·]?)).bind (·.dst)
include L in
theorem dstAt_inj {q q' : Nat} {t : Tmp} (h : dstAt ops ord q = some t) (h' : dstAt ops ord q' = some t) : q = q' := by
  simp only [dstAt, Option.bind_eq_some_iff] at h h'
  obtain ⟨o, ⟨i, h1, h2⟩, h3⟩ := h
  obtain ⟨o', ⟨i', h1', h2'⟩, h3'⟩ := h'
  have := L.dsts i i' o o' t h2 h2' h3 h3'
  subst this
  exact L.nodup q q' i h1 h1'
theorem env_len {p : Nat} (hp : p ≤ ord.length) : (L.sAt p).env.length = en0.length := by
  induction p with
  | zero => rw [L.env0]
  | succ p ih =>
    have hp' := List.getElem?_eq_getElem (show p < ord.length by omega)
    obtain ⟨o, ho, he, -⟩ := L.opAt p _ hp'
    rw [he]
    have := ih (by omega)
    cases hd : o.dst <;> simp [Env.put, this]
theorem env_at {p : Nat} (hp : p ≤ ord.length) : (∀ (q : Nat) (t : Tmp), q < p → dstAt ops ord q = some t → (L.sAt p).env[t]? = some (L.val q)) ∧ (∀ t : Tmp, (∀ q, q < p → dstAt ops ord q ≠ some t) → (L.sAt p).env[t]? = en0[t]?) := by
  induction p with
  | zero => exact ⟨fun q t h => by omega, fun t _ => by rw [L.env0]⟩
  | succ p ih =>
    obtain ⟨h1, h2⟩ := ih (by omega)
    have hp' := List.getElem?_eq_getElem (show p < ord.length by omega)
    obtain ⟨o, ho, he, -⟩ := L.opAt p _ hp'
    have hd : dstAt ops ord p = o.dst := by simp only [dstAt, hp', Option.bind_some, ho]
    have hl := L.env_len (p := p) (by omega)
    refine ⟨fun q t hq ht => ?_, fun t ht => ?_⟩
    · rw [he]
      by_cases e : q = p
      · subst e
        rw [hd] at ht
        rw [ht]
        simp only [Env.put]
        exact List.getElem?_set_self (by rw [hl]; exact L.slot _ o t ho ht)
      · cases hod : o.dst with
        | none => exact h1 q t (by omega) ht
        | some d =>
          simp only [Env.put]
          have : d ≠ t := by
            rintro rfl
            exact e (L.dstAt_inj ht (by rw [hd, hod]))
          rw [List.getElem?_set_ne this]
          exact h1 q t (by omega) ht
    · rw [he]
      cases hod : o.dst with
      | none => exact h2 t (fun q hq => ht q (by omega))
      | some d =>
        simp only [Env.put]
        have : d ≠ t := by
          rintro rfl
          exact ht p (by omega) (by rw [hd, hod])
        rw [List.getElem?_set_ne this]
        exact h2 t (fun q hq => ht q (by omega))

include L in
/-- In the one order what comes ahead is ahead. -/
theorem ahead {p i j : Nat} (hp : ord[p]? = some i) (h : has (masks ops.toList []) i j = true) : ∃ q, q < p ∧ ord[q]? = some j := by
  obtain ⟨o, ho, -⟩ := L.opAt p i hp
  refine closed_has (ops := ops.toList) (S := fun x => ∃ q, q < p ∧ ord[q]? = some x) ?_ i j o (by simpa using ho) ?_ h
  · rintro x o' ⟨q, hq, hqx⟩ ho' e he
    obtain ⟨q', h1, h2⟩ := L.edge q x o' hqx (by simpa using ho') e he
    exact ⟨q', by omega, h2⟩
  · intro e he
    exact L.edge p i o hp ho e he
end Plan
end
end Go.Ab
