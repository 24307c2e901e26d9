/-
  A region whose order is open: whatever order is drawn comes to what the one order comes to.
-/
import Derived.Test.YtbdnkdldmfnilaaGreatAbSeq
namespace Go.Ab

/-! ### What comes ahead of what -/

theorem or_fold_bit (acc : List Nat) (j : Nat) : ∀ (es : List Nat) (m : Nat), (es.foldl (fun m e => m ||| acc.getD e 0 ||| 2 ^ e) m).testBit j = true → m.testBit j = true ∨ ∃ e ∈ es, (acc.getD e 0).testBit j = true ∨ e = j
  | [], m, h => .inl h
  | e :: es, m, h => by
    simp only [List.foldl_cons] at h
    rcases or_fold_bit acc j es _ h with h | ⟨e', he', h⟩
    · simp only [Nat.testBit_or, Nat.testBit_two_pow, Bool.or_eq_true, decide_eq_true_eq] at h
      rcases h with (h | h) | h
      · exact .inl h
      · exact .inr ⟨e, by simp, .inl h⟩
      · exact .inr ⟨e, by simp, .inr h⟩
    · exact .inr ⟨e', by simp [he'], h⟩

theorem masks_spec : ∀ (ops : List Oper) (acc : List Nat), (∃ ext, masks ops acc = acc ++ ext) ∧
    ∀ (i : Nat) (o : Oper), ops[i]? = some o → ∀ j, has (masks ops acc) (acc.length + i) j = true → ∃ e ∈ edges o, (e < acc.length + i ∧ has (masks ops acc) e j = true) ∨ e = j
  | [], acc => ⟨⟨[], by simp [masks]⟩, fun i o h => by simp at h⟩
  | o :: ops, acc => by
    obtain ⟨⟨ext, hext⟩, h2⟩ := masks_spec ops (acc ++ [(edges o).foldl (fun m j => m ||| acc.getD j 0 ||| 2 ^ j) 0])
    refine ⟨⟨[(edges o).foldl (fun m j => m ||| acc.getD j 0 ||| 2 ^ j) 0] ++ ext, by rw [masks, hext, List.append_assoc]⟩, ?_⟩
    intro i o' ho' j hj
    cases i with
    | succ i =>
      have ho2 : ops[i]? = some o' := by simpa using ho'
      have e1 : acc.length + (i + 1) = (acc ++ [(edges o).foldl (fun m j => m ||| acc.getD j 0 ||| 2 ^ j) 0]).length + i := by simp; omega
      rw [masks, e1] at hj
      rw [masks, e1]
      exact h2 i o' ho2 j hj
    | zero =>
      have ho2 : o = o' := by simpa using ho'
      subst ho2
      simp only [Nat.add_zero] at hj ⊢
      have e1 : (masks (o :: ops) acc).getD acc.length 0 = (edges o).foldl (fun m j => m ||| acc.getD j 0 ||| 2 ^ j) 0 := by
        rw [masks, hext]
        simp [List.getD]
      rw [has, e1] at hj
      rcases or_fold_bit acc j _ _ hj with h | ⟨e, he, h⟩
      · simp at h
      · refine ⟨e, he, ?_⟩
        rcases h with h | h
        · left
          have hlt : e < acc.length := by
            rcases Nat.lt_or_ge e acc.length with h' | h'
            · exact h'
            · rw [show acc.getD e 0 = 0 by simp [List.getD, List.getElem?_eq_none h']] at h
              simp at h
          refine ⟨hlt, ?_⟩
          rw [has, masks, hext, List.append_assoc]
          have : (acc ++ ([(edges o).foldl (fun m j => m ||| acc.getD j 0 ||| 2 ^ j) 0] ++ ext)).getD e 0 = acc.getD e 0 := by
            simp [List.getD, List.getElem?_append_left hlt]
          rw [this]
          exact h
        · exact .inr h

theorem has_edge {ops : List Oper} {i j : Nat} {o : Oper} (ho : ops[i]? = some o) (h : has (masks ops []) i j = true) :
    ∃ e ∈ edges o, (e < i ∧ has (masks ops []) e j = true) ∨ e = j := by
  have := (masks_spec ops []).2 i o ho j (by simpa using h)
  simpa using this

theorem has_lt {ops : List Oper} {i j : Nat} (h : has (masks ops []) i j = true) : i < (masks ops []).length := by
  rcases Nat.lt_or_ge i (masks ops []).length with h' | h'
  · exact h'
  · rw [has, show (masks ops []).getD i 0 = 0 by simp [List.getD, List.getElem?_eq_none h']] at h
    simp at h

theorem masks_length : ∀ (ops : List Oper) (acc : List Nat), (masks ops acc).length = acc.length + ops.length
  | [], acc => by simp [masks]
  | o :: ops, acc => by rw [masks, masks_length ops]; simp; omega

/-- A set that holds what is bound ahead holds all that comes ahead. -/
theorem closed_has {ops : List Oper} {S : Nat → Prop} (hS : ∀ i o, S i → ops[i]? = some o → ∀ e ∈ edges o, S e) : ∀ (i j : Nat) (o : Oper), ops[i]? = some o → (∀ e ∈ edges o, S e) → has (masks ops []) i j = true → S j := by
  intro i
  induction i using Nat.strongRecOn with
  | _ i ih =>
    intro j o ho he h
    obtain ⟨e, hee, h | h⟩ := has_edge ho h
    · have hs := he e hee
      have hl := has_lt h.2
      rw [masks_length] at hl
      simp only [List.length_nil, Nat.zero_add] at hl
      obtain ⟨o', ho'⟩ : ∃ o', ops[e]? = some o' := ⟨_, List.getElem?_eq_getElem hl⟩
      exact ih e h.1 j o' ho' (hS e o' hs ho') h.2
    · exact h ▸ he e hee

theorem okOrd_spec {P : Program} {ops : List Oper} {ms : List Nat} : ∀ (rest acc : List Nat), okOrd P ops ms rest acc = true → ∀ (p i : Nat), rest[p]? = some i →
    i ∉ acc ++ rest.take p ∧ ∃ o, ops[i]? = some o ∧ (∀ e ∈ edges o, e ∈ acc ++ rest.take p) ∧ (kind P o = .e → ∀ j ∈ acc ++ rest.take p, has ms i j = true)
  | [], acc, _, p, i, h => by simp at h
  | x :: rest, acc, hok, p, i, h => by
    simp only [okOrd, Bool.and_eq_true] at hok
    obtain ⟨h1, h2⟩ := hok
    cases p with
    | zero =>
      have : x = i := by simpa using h
      subst this
      split at h1
      · cases h1
      · rename_i o ho
        simp only [Bool.and_eq_true, Bool.not_eq_true', List.all_eq_true, Bool.or_eq_true] at h1
        obtain ⟨⟨h3, h4⟩, h5⟩ := h1
        simp only [List.take_zero, List.append_nil]
        refine ⟨by simpa using h3, o, ho, fun e he => by simpa using h4 e he, ?_⟩
        intro hk j hj
        rcases h5 with h5 | h5
        · simp [hk] at h5
        · exact h5 j hj
    | succ p =>
      have := okOrd_spec rest (acc ++ [x]) h2 p i (by simpa using h)
      simpa [List.append_assoc] using this

/-! ### The values hang on the operands alone -/
section
variable {C : Cfg} {env env' : Env}

theorem opds_congr {xs : List Operand} (h : ∀ x ∈ xs, opd C env x = opd C env' x) : opds C env xs = opds C env' xs := by
  induction xs with
  | nil => rfl
  | cons x xs ih =>
    simp only [opds]
    rw [h x (by simp), ih (fun y hy => h y (by simp [hy]))]

theorem bnd_congr {d : Nat} {x : Option Operand} (h : ∀ y ∈ x, opd C env y = opd C env' y) : bnd C env d x = bnd C env' d x := by
  cases x with
  | none => rfl
  | some y => simp only [bnd, h y rfl]
theorem bndO_congr {x : Option Operand} (h : ∀ y ∈ x, opd C env y = opd C env' y) : bndO C env x = bndO C env' x := by
  cases x with
  | none => rfl
  | some y => simp only [bndO, bnd_congr (x := some y) h]

theorem evP_congr {o : Oper} (h : ∀ x ∈ o.op.operands, opd C env x = opd C env' x) : evP C env o = evP C env' o := by
  obtain ⟨dst, op, type, pos, after, guard⟩ := o
  cases op <;> simp only [Op.operands, List.mem_toArray, List.mem_cons, List.not_mem_nil, or_false, forall_eq_or_imp, forall_eq, Array.mem_append, Call.operands] at h
  case move x => exact h
  case assign x => exact h
  case pick c x y => simp only [evP, h.1, h.2.1, h.2.2]
  case nilCheck x => simp only [evP, h]
  case binOp op t x y ty => simp only [evP, h.1, h.2]
  case unOp op t x => simp only [evP, h]
  case convert s d x => simp only [evP, h]
  case makeInterface t x => simp only [evP, h]
  case makeFunc fn x y =>
    simp only [evP, opds_congr (xs := x.toList) (fun z hz => h z (.inl (by simpa using hz))), opds_congr (xs := y.toList) (fun z hz => h z (.inr (by simpa using hz)))]
  case fieldAddr s x f => simp only [evP, h]
  case field s x f => simp only [evP, h]
  case indexAddr t x i => simp only [evP, h.1, h.2]
  case index t x i => simp only [evP, h.1, h.2]
  case extract t i => simp only [evP, h]
  case build t parts => simp only [evP, opds_congr (xs := parts.toList.map (·.2)) h]
  case call c =>
    obtain ⟨callee, args, ts⟩ := c
    cases callee with
    | value f => rfl
    | invoke r n => rfl
    | builtin b =>
      have ha : ∀ i x, args[i]? = some x → opd C env x = opd C env' x := fun i x hx => h x (.inr (Array.mem_of_getElem? hx))
      have hl : opds C env args.toList = opds C env' args.toList := opds_congr (fun z hz => h z (.inr (by simpa using hz)))
      have g0 : ∀ {β : Type} (k : V → Option β), ((args[0]?).bind fun x => (opd C env x).bind k) = ((args[0]?).bind fun x => (opd C env' x).bind k) := by
        intro β k
        cases hx : args[0]? with
        | none => rfl
        | some x => simp only [Option.bind_some, ha 0 x hx]
      have g1 : ∀ {β γ : Type} (o : Option γ) (k : γ → V → Option β), ((args[0]?).bind fun x => o.bind fun d => (opd C env x).bind (k d)) = ((args[0]?).bind fun x => o.bind fun d => (opd C env' x).bind (k d)) := by
        intro β γ o k
        cases hx : args[0]? with
        | none => rfl
        | some x => simp only [Option.bind_some, ha 0 x hx]
      cases b <;> first
        | rfl
        | (simp only [evP, hl]; done)
        | (simp only [evP, Option.bind_eq_bind, g1])
  all_goals rfl

theorem evL_congr {o : Oper} {H : Heap} (h : ∀ x ∈ o.op.operands, opd C env x = opd C env' x) : evL C env o H = evL C env' o H := by
  obtain ⟨dst, op, type, pos, after, guard⟩ := o
  cases op <;> simp only [Op.operands, List.mem_toArray, List.mem_cons, List.not_mem_nil, or_false, forall_eq_or_imp, forall_eq, Array.mem_append] at h
  case load t x => simp only [evL, h]
  case convert s d x => simp only [evL, h]
  case slice t x lo hi mx =>
    have h1 : opd C env x = opd C env' x := h x (.inl (.inl (.inl (by simp))))
    have h2 : ∀ y ∈ lo, opd C env y = opd C env' y := fun y hy => h y (.inl (.inl (.inr (by simpa using hy))))
    have h3 : ∀ y ∈ hi, opd C env y = opd C env' y := fun y hy => h y (.inl (.inr (by simpa using hy)))
    have h4 : ∀ y ∈ mx, opd C env y = opd C env' y := fun y hy => h y (.inr (by simpa using hy))
    simp only [evL, h1]
    congr 1
    funext xv
    simp only [evSlice, slStr, bnd_congr h2, bnd_congr h3, bndO_congr h4]
  all_goals rfl

theorem evN_congr {o : Oper} {id : Nat} (h : ∀ x ∈ o.op.operands, opd C env x = opd C env' x) : evN C env o id = evN C env' o id := by
  obtain ⟨dst, op, type, pos, after, guard⟩ := o
  cases op <;> simp only [Op.operands, List.mem_toArray, List.mem_cons, List.not_mem_nil, or_false, forall_eq_or_imp, forall_eq] at h
  case box t x => simp only [evN, h]
  case buildSlice t n parts => simp only [evN, opds_congr (xs := parts.toList.map (·.2)) h]
  case makeSlice t x y => simp only [evN, h.1, h.2]
  case makeChan t x => simp only [evN, h]
  all_goals rfl

theorem evE_congr {call : FuncId → List V → Heap → Option (V × Heap)} {o : Oper} {H : Heap} (h : ∀ x ∈ o.op.operands, opd C env x = opd C env' x) : evE C call env o H = evE C call env' o H := by
  obtain ⟨dst, op, type, pos, after, guard⟩ := o
  cases op <;> simp only [Op.operands, List.mem_toArray, List.mem_cons, List.not_mem_nil, or_false, forall_eq_or_imp, forall_eq, Call.operands, Array.mem_append] at h
  case store t x y => simp only [evE, h.1, h.2]
  case call c =>
    obtain ⟨callee, args, ts⟩ := c
    have hl : opds C env args.toList = opds C env' args.toList := opds_congr (fun z hz => h z (.inr (by simpa using hz)))
    cases callee with
    | value f => simp only [evE, hl, h f (.inl (by simp))]
    | invoke r n => simp only [evE, hl, h r (.inl (by simp))]
    | builtin b =>
      have ha : ∀ i x, args[i]? = some x → opd C env x = opd C env' x := fun i x hx => h x (.inr (Array.mem_of_getElem? hx))
      have h0 : (args[0]?).bind (opd C env) = (args[0]?).bind (opd C env') := by
        cases hx : args[0]? with
        | none => rfl
        | some x => exact ha 0 x hx
      have h1 : (args[1]?).bind (opd C env) = (args[1]?).bind (opd C env') := by
        cases hx : args[1]? with
        | none => rfl
        | some x => exact ha 1 x hx
      have g0 : ∀ {β : Type} (k : V → Option β), ((args[0]?).bind fun x => (opd C env x).bind k) = ((args[0]?).bind fun x => (opd C env' x).bind k) := by
        intro β k
        cases hx : args[0]? with
        | none => rfl
        | some x => simp only [Option.bind_some, ha 0 x hx]
      have g1 : ∀ {β : Type} (k : V → Option β), ((args[1]?).bind fun x => (opd C env x).bind k) = ((args[1]?).bind fun x => (opd C env' x).bind k) := by
        intro β k
        cases hx : args[1]? with
        | none => rfl
        | some x => simp only [Option.bind_some, ha 1 x hx]
      cases b <;> first
        | rfl
        | (simp only [evE, Option.bind_eq_bind, g0, g1])
  all_goals rfl
end
end Go.Ab
