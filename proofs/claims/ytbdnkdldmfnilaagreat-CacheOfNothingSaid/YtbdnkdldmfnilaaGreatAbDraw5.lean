/-
  A region whose order is open: the check, and the law.
-/
import Derived.Test.YtbdnkdldmfnilaaGreatAbDraw4
namespace Go.Ab
section
variable {C : Cfg} {φ φ' φ0 φs : Phi} {H H0 H' : Heap} {w w' w0 : World} {env env' en : Env} {a : Act}
variable {call : FuncId → List V → Heap → Option (V × Heap)} {ops : Array Oper}

theorem okDraw_spec {P : Program} {ops : List Oper} (h : okDraw P ops = true) :
    okOrd P ops (masks ops []) (lazyOrd P ops) [] = true ∧ (∀ i, i < ops.length → i ∈ lazyOrd P ops) ∧
    ∀ (i : Nat) (o : Oper), ops[i]? = some o → (∀ e ∈ edges o, e < i) ∧ ∀ (j : Nat) (o' : Oper), ops[j]? = some o' →
      (∀ d, o.dst = some d → o'.dst = some d → i = j) ∧ ∀ d, o'.dst = some d → d ∈ tmpsOf ops o → has (masks ops []) i j = true ∨ has (masks ops []) j i = true := by
  simp only [okDraw, Bool.and_eq_true] at h
  obtain ⟨⟨h1, h2⟩, h3⟩ := h
  refine ⟨h2, ?_, ?_⟩
  · intro i hi
    have := List.all_eq_true.1 h3 i (List.mem_range.2 hi)
    simpa using this
  · intro i o ho
    have hi := (List.getElem?_eq_some_iff.1 ho).1
    have h4 := List.all_eq_true.1 h1 i (List.mem_range.2 hi)
    simp only [ho, Bool.and_eq_true] at h4
    obtain ⟨⟨h5, h6⟩, -⟩ := h4
    refine ⟨fun e he => by simpa using List.all_eq_true.1 h5 e he, ?_⟩
    intro j o' ho'
    have hj := (List.getElem?_eq_some_iff.1 ho').1
    have h7 := List.all_eq_true.1 h6 j (List.mem_range.2 hj)
    simp only [ho', Bool.and_eq_true, Bool.or_eq_true] at h7
    obtain ⟨h8, h9⟩ := h7
    refine ⟨?_, ?_⟩
    · intro d hd hd'
      rcases h8 with (h8 | h8) | h8
      · simpa using h8
      · rw [hd] at h8; simp at h8
      · rw [hd, hd'] at h8; simp at h8
    · intro d hd hm
      rw [hd] at h9
      simp only [Bool.or_eq_true, Bool.not_eq_true'] at h9
      rcases h9 with (h9 | h9) | h9
      · exfalso
        have : (tmpsOf ops o).contains d = true := by simpa using hm
        rw [this] at h9; cases h9
      · exact .inl h9
      · exact .inr h9

theorem dstsIn_spec {ops : List Oper} {n : Nat} (h : dstsIn ops n = true) {i : Nat} {o : Oper} {d : Tmp} (ho : ops[i]? = some o) (hd : o.dst = some d) : d < n := by
  have := List.all_eq_true.1 h o (List.mem_of_getElem? ho)
  simpa [hd] using this

theorem plan_of {base : Nat} {en0 : Env} {s0 sF : DS} (hok : okDraw C.P ops.toList = true) (hin : dstsIn ops.toList en0.length = true) (hrun : runD C call ops (masks ops.toList []) base (lazyOrd C.P ops.toList) s0 = some sF)
    (h0 : s0.env = en0) (h1 : s0.st = []) : ∃ L : Plan C call ops base (lazyOrd C.P ops.toList) en0, L.sAt 0 = s0 ∧ L.sAt (lazyOrd C.P ops.toList).length = sF := by
  obtain ⟨sAt, hs0, hstep, hsF⟩ := runD_states _ s0 sF hrun
  obtain ⟨o1, o2, o3⟩ := okDraw_spec hok
  have hspec := okOrd_spec (lazyOrd C.P ops.toList) [] o1
  simp only [List.nil_append] at hspec
  have hch : ∀ p : Nat, ∃ vc : V × List V, ∀ i, (lazyOrd C.P ops.toList)[p]? = some i → stepD C call ops (masks ops.toList []) base i (sAt p) = some (sAt (p + 1), vc.1, vc.2) := by
    intro p
    cases hp : (lazyOrd C.P ops.toList)[p]? with
    | none => exact ⟨(V.un, []), fun i h => by cases h⟩
    | some i =>
      obtain ⟨v, cells, h⟩ := hstep p i hp
      exact ⟨(v, cells), fun j hj => by cases hj; exact h⟩
  obtain ⟨vc, hvc⟩ := Classical.axiomOfChoice hch
  have hmem_take : ∀ (p e : Nat), e ∈ (lazyOrd C.P ops.toList).take p → ∃ q, q < p ∧ (lazyOrd C.P ops.toList)[q]? = some e := by
    intro p e he
    obtain ⟨q, hq⟩ := List.getElem?_of_mem he
    rw [List.getElem?_take] at hq
    split at hq
    · rename_i hlt; exact ⟨q, hlt, hq⟩
    · cases hq
  have htake_mem : ∀ (p q e : Nat), q < p → (lazyOrd C.P ops.toList)[q]? = some e → e ∈ (lazyOrd C.P ops.toList).take p := by
    intro p q e hq he
    refine List.mem_of_getElem? (i := q) ?_
    rw [List.getElem?_take, if_pos hq]
    exact he
  refine ⟨{
    sAt := sAt, val := fun p => (vc p).1, cel := fun p => (vc p).2
    nodup := ?_, all := ?_, opAt := ?_, edge := ?_, actp := ?_, env0 := by rw [hs0, h0], st0 := by rw [hs0, h1]
    lt := ?_, dsts := ?_, slot := ?_, near := ?_ }, hs0, hsF⟩
  · intro p q i hp hq
    rcases Nat.lt_trichotomy p q with h | h | h
    · exact absurd (htake_mem q p i h hp) (hspec q i hq).1
    · exact h
    · exact absurd (htake_mem p q i h hq) (hspec p i hp).1
  · intro i hi
    exact List.getElem?_of_mem (o2 i (by simpa using hi))
  · intro p i hp
    exact stepD_fact (hvc p i hp)
  · intro p i o hp ho e he
    obtain ⟨-, o', ho', h2, -⟩ := hspec p i hp
    have : o = o' := by
      have := (Array.getElem?_toList (xs := ops) (i := i)).symm.trans ho'
      rw [ho] at this
      simpa using this
    subst this
    exact hmem_take p e (h2 e he)
  · intro p i o hp ho hk q j hq hj
    obtain ⟨-, o', ho', -, h2⟩ := hspec p i hp
    have : o = o' := by
      have := (Array.getElem?_toList (xs := ops) (i := i)).symm.trans ho'
      rw [ho] at this
      simpa using this
    subst this
    exact h2 hk j (htake_mem p q j hq hj)
  · intro i o ho
    exact (o3 i o (by simpa using ho)).1
  · intro i j o o' d ho ho' hd hd'
    exact ((o3 i o (by simpa using ho)).2 j o' (by simpa using ho')).1 d hd hd'
  · intro i o d ho hd
    exact dstsIn_spec hin (by simpa using ho) hd
  · intro i j o o' d ho ho' hd hm
    exact ((o3 i o (by simpa using ho)).2 j o' (by simpa using ho')).2 d hd hm

/-- A REGION WHOSE ORDER IS OPEN DOES WHAT THE EVALUATOR SAYS. -/
theorem evDraw_wp (hf : Fit C) (hcall : CallOk C call) {id : Nat} {Q : Exit → Act → World → Prop} (hd : evDraw C call ops env H = some (env', H')) (hr : Rel C φ H w) (ha : AR φ env a)
    (hQ : ∀ φ' a' w', Post C φ H w φ' H' w' → AR φ' env' a' → Q .normal a' w') : (Code.region id ops true).wp C.P Q a w := by
  unfold evDraw at hd
  split at hd
  case isFalse => cases hd
  rename_i hc
  simp only [Bool.and_eq_true] at hc
  simp only [Option.map_eq_some_iff, Prod.mk.injEq] at hd
  obtain ⟨sF, hrun, rfl, rfl⟩ := hd
  obtain ⟨L, h0, hF⟩ := plan_of (base := H.next) hc.1 hc.2 hrun rfl rfl
  refine wp_region_any hf.mixed ?_
  have hrd := (Post.res hr ops.size).same (w' := { w with drawn := w.drawn + 1 }) rfl rfl rfl rfl
  have hr0 : Rel C φ H { w with drawn := w.drawn + 1 } := ((Post.refl hr).same (w' := { w with drawn := w.drawn + 1 }) rfl rfl rfl rfl).rel
  have hlive : ∀ i, H.get (H.next + i) = none := by
    intro i
    cases h : H.get (H.next + i) with
    | none => rfl
    | some o =>
      obtain ⟨l, hl, -⟩ := hr.obj _ _ h
      have := (hr.dom _ _ hl).1
      omega
  have hphi : ∀ i, φ (H.next + i) = none := by
    intro i
    cases h : φ (H.next + i) with
    | none => rfl
    | some l =>
      have := (hr.dom _ _ h).1
      omega
  have hno : ∀ i, (Array.replicate ops.size false).getD i false = false := by
    intro i
    simp only [Array.getD_eq_getD_getElem?, Array.getElem?_replicate]
    split <;> rfl
  have hpd : Post C φ H { w with drawn := w.drawn + 1 } φ (H.res ops.size) { w with drawn := w.drawn + 1 } := Post.res hr0 ops.size
  refine draw_any hf hcall L (by rw [h0]) hr0 (Q := Q) ?_ ops.size (Array.replicate ops.size false) φ (H.res ops.size) env a _ 0 ?_ (by simp)
  · intro φ' a' w' hp ha'
    rw [hF] at hp ha'
    exact hQ φ' a' w' (((Post.refl hr).same (w' := { w with drawn := w.drawn + 1 }) rfl rfl rfl rfl).trans hp) ha'
  · refine ⟨by simp, ?_, ha, rfl, ?_, fun t _ => rfl, hpd, Nat.zero_le _, ?_, ?_, by rw [h0], Nat.le_refl _, ?_, fun i _ _ => hphi i, ?_⟩
    · intro i o h
      rw [hno] at h; cases h
    · intro q i t _ h
      rw [hno] at h; cases h
    · intro q i _ _
      rw [hno, L.k_zero]
      simp
    · intro id ob h
      rw [h0] at h
      exact h
    · intro q i _ h
      rw [hno] at h; cases h
    · intro q i _ _
      rw [h0]
      exact hlive i
end
end Go.Ab
