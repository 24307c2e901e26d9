/-
  Walking a body whose frame is an ordinary call's; a select of one case with a default.
-/
import Derived.Test.YtbdnkdldmfnilaaGreatAbDraw5
import Derived.Conc.LoneSelect
namespace Go.Ab

/-- As Code.wp, in an ordinary call's frame alone. -/
def wn (P : Program) (c : Code) (Q : Go.Exit → Act → World → Prop) (a : Act) (w : World) : Prop :=
  ∀ (b : Frame) (k : List Item) (cs : List Frame), b.kind ≠ .early →
    ∃ e a' w', Q e a' w' ∧ Arrives P (lone (b.at a (.code c :: k)) cs w) b k cs e a' w'

section
variable {P : Program} {Q : Go.Exit → Act → World → Prop} {a : Act} {w : World}

theorem wn_of {c : Code} (h : c.wp P Q a w) : wn P c Q a w := fun b k cs _ => h b k cs

theorem wn_seq {x y : Code} (h : wn P x (Exit.then (wn P y Q) Q) a w) : wn P (Code.seq x y) Q a w := by
  intro b k cs hb
  obtain ⟨e, a₁, w₁, hq, harr⟩ := h b (.code y :: k) cs hb
  cases e with
  | normal =>
    obtain ⟨e₂, a₂, w₂, hq₂, harr₂⟩ := hq b k cs hb
    exact ⟨e₂, a₂, w₂, hq₂, .of_steps (.head step_seq harr) harr₂⟩
  | exit id => exact ⟨_, a₁, w₁, hq, .of_steps (.one step_seq) (.pass (x := .code y) rfl (fun _ _ => .inl (by simp)) harr)⟩
  | goto l => exact ⟨_, a₁, w₁, hq, .of_steps (.one step_seq) (.pass (x := .code y) rfl (fun _ _ => .inl (by simp)) harr)⟩
  | ret => exact ⟨_, a₁, w₁, hq, .of_steps (.one step_seq) (.pass (x := .code y) rfl (fun _ _ => .inl (by simp)) harr)⟩
  | panic ch => exact ⟨_, a₁, w₁, hq, .of_steps (.one step_seq) (.pass (x := .code y) rfl (fun _ _ => .inl (by simp)) harr)⟩
  | outgrown => exact ⟨_, a₁, w₁, hq, .of_steps (.one step_seq) (.pass (x := .code y) rfl (fun _ _ => .inl (by simp)) harr)⟩

theorem wn_cond {c : Operand} {x y : Code} {t : Bool} (hc : a.eval c = .bool t) (h : wn P (if t then x else y) Q a w) : wn P (Code.cond c x y) Q a w :=
  fun b k cs hb => let ⟨e, a', w', q, r⟩ := h b k cs hb; ⟨e, a', w', q, .of_steps (.one (step_cond hc)) r⟩

theorem wn_block {id : Nat} {c : Code} (h : wn P c (Exit.inBlock id Q) a w) : wn P (Code.block id c) Q a w := by
  intro b k cs hb
  obtain ⟨e, a₁, w₁, hq, harr⟩ := h b (.inBlock id :: k) cs hb
  cases e with
  | normal => exact ⟨.normal, a₁, w₁, hq, .head step_block (Steps.trans harr (.one step_inBlock))⟩
  | exit id' =>
    by_cases hid : id' = id
    · simp only [Exit.inBlock, hid, if_true] at hq
      exact ⟨.normal, a₁, w₁, hq, .head step_block (harr k (by simp [exitTo, hid]))⟩
    · simp only [Exit.inBlock, hid, if_false] at hq
      refine ⟨.exit id', a₁, w₁, hq, fun k' hk => .head step_block (harr k' ?_)⟩
      have : (id == id') = false := by simp; exact fun h => hid h.symm
      simp [exitTo, this, hk]
  | goto l => exact ⟨_, a₁, w₁, hq, fun k' hk => .head step_block (harr k' (by simp [gotoIn, hk]))⟩
  | ret => exact ⟨_, a₁, w₁, hq, .of_steps (.one step_block) harr⟩
  | panic ch => exact ⟨_, a₁, w₁, hq, .of_steps (.one step_block) harr⟩
  | outgrown => exact ⟨_, a₁, w₁, hq, .of_steps (b := b) (k := k) (cs := cs) (e := .outgrown) (.one step_block) harr⟩

def roundsN (P : Program) (c : Code) (Q : Go.Exit → Act → World → Prop) : Nat → Act → World → Prop
  | 0, _, _ => False
  | n + 1, a, w => wn P c (Exit.then (roundsN P c Q n) Q) a w

theorem wn_loop {c : Code} (n : Nat) (h : roundsN P c Q n a w) : wn P (Code.loop c) Q a w := by
  intro b k cs hb
  have key : ∀ n a w, roundsN P c Q n a w →
      ∃ e a' w', Q e a' w' ∧ Arrives P (lone (b.at a (.code c :: .inLoop c :: k)) cs w) b k cs e a' w' := by
    intro n
    induction n with
    | zero => intro a w h; exact h.elim
    | succ n ih =>
      intro a w h
      obtain ⟨e, a₁, w₁, hq, harr⟩ := h b (.inLoop c :: k) cs hb
      cases e with
      | normal =>
        obtain ⟨e₂, a₂, w₂, hq₂, harr₂⟩ := ih a₁ w₁ hq
        exact ⟨e₂, a₂, w₂, hq₂, .of_steps (Steps.trans harr (.one step_inLoop)) harr₂⟩
      | exit id => exact ⟨_, a₁, w₁, hq, .pass (x := .inLoop c) rfl (fun _ _ => .inl (by simp)) harr⟩
      | goto l => exact ⟨_, a₁, w₁, hq, .pass (x := .inLoop c) rfl (fun _ _ => .inl (by simp)) harr⟩
      | ret => exact ⟨_, a₁, w₁, hq, .pass (x := .inLoop c) rfl (fun _ _ => .inl (by simp)) harr⟩
      | panic ch => exact ⟨_, a₁, w₁, hq, .pass (x := .inLoop c) rfl (fun _ _ => .inl (by simp)) harr⟩
      | outgrown => exact ⟨_, a₁, w₁, hq, .pass (x := .inLoop c) rfl (fun _ _ => .inl (by simp)) harr⟩
  obtain ⟨e, a', w', hq, harr⟩ := key n a w h
  exact ⟨e, a', w', hq, .of_steps (.one step_loop) harr⟩

theorem calls_of_wn {f : FuncId} {fn : Func} {c : Code} {args : Array Value} {R : Ending → World → Prop}
    (hf : P.funcs[f]? = some fn) (hb : fn.body = some c)
    (h : wn P c (bodyPost P fn R) { tmps := args ++ Array.replicate (fn.ntmps - args.size) undef, defers := [] } w) :
    Calls P f args w R := by
  intro cs
  let b : Frame := { (default : Frame) with fn := f, kind := .normal }
  have henter : Frame.enter P f args .normal =
      b.at { tmps := args ++ Array.replicate (fn.ntmps - args.size) undef, defers := [] } [.code c] := by
    simp [Frame.enter, Frame.at, hf, hb, b]
  obtain ⟨e, a', w', hq, harr⟩ := h b [] cs (by simp [b])
  rw [← henter] at harr
  cases e with
  | normal =>
    obtain ⟨hd, v, hr, hR⟩ := hq
    exact ⟨.returned v, w', _, hR, Steps.trans harr (.one step_end), rfl, rfl, hd, rfl, fn, hf, hr⟩
  | ret =>
    obtain ⟨hd, v, hr, hR⟩ := hq
    obtain ⟨todo, hs⟩ := harr
    exact ⟨.returned v, w', _, hR, hs, rfl, rfl, hd, rfl, fn, hf, hr⟩
  | panic chain =>
    obtain ⟨hd, hR⟩ := hq
    obtain ⟨todo, hs⟩ := harr
    exact ⟨.panicked chain, w', _, hR, hs, rfl, rfl, hd, fn, hf⟩
  | exit id => exact hq.elim
  | goto l => exact hq.elim
  | outgrown => exact ⟨.outgrown, w', b, hq, harr.resolve_left (by simp [b]), rfl, trivial⟩

/-- A region whose first operation is a communication that goes on at once. -/
theorem wn_comm {id : Nat} {ops : Array Oper} {o : Oper} {v : Value} {w₁ : World} (ho : ops[0]? = some o)
    (hs : ∀ (b : Frame) (k : List Item) (cs : List Frame) (rest : List Nat), b.kind ≠ .early →
      step P (Conc.solo (Conc.G (b.at a (.inRegion ops (0 :: rest) :: k)) cs) w) = .next (Conc.solo (Conc.G ((b.at a (.inRegion ops (0 :: rest) :: k)).finish v) cs) w₁))
    (h : wpOps P ops Q (List.range' 1 (ops.size - 1)) (a.put o.dst v) w₁) : wn P (.region id ops false) Q a w := by
  intro b k cs hb
  have hsz : 0 < ops.size := (Array.getElem?_eq_some_iff.1 ho).1
  have e1 : List.range ops.size = 0 :: List.range' 1 (ops.size - 1) := by
    rw [List.range_eq_range']
    obtain ⟨n, hn⟩ : ∃ n, ops.size = n + 1 := ⟨ops.size - 1, by omega⟩
    rw [hn]
    rfl
  have e2 := hs b k cs (List.range' 1 (ops.size - 1)) hb
  rw [Frame.finish_at, ho] at e2
  obtain ⟨e, a', w', hq, harr⟩ := wp_ops _ _ _ h b k cs
  refine ⟨e, a', w', hq, .of_steps (.one step_region) ?_⟩
  rw [e1]
  exact .of_steps (.one e2) harr
end

section
variable {C : Cfg} {φ : Phi} {H H' : Heap} {w : World} {env : Env} {a : Act}

theorem chan_at (hr : Rel C φ H w) {id cap : Nat} {buf : List V} {ro : Bool} (h : H.get id = some ⟨[.chq cap buf], ro⟩) :
    ∃ l s r, φ id = some l ∧ ro = false ∧ w.heap[l.blk]? = some (.chan cap (concL φ buf).toArray false s r false) ∧ wfL φ buf := by
  obtain ⟨l, hl, hh⟩ := hr.obj id _ h
  obtain ⟨cap', buf', s, r, h1, h2, h3⟩ := hh.chq rfl
  simp only [Ob.mk.injEq, List.cons.injEq, V.chq.injEq, and_true] at h1
  obtain ⟨⟨rfl, rfl⟩, rfl⟩ := h1
  exact ⟨l, s, r, hl, rfl, h2, h3⟩

theorem post_chan (hr : Rel C φ H w) {id cap : Nat} {buf buf' : List V} {l : Loc} {s r : Nat} {b' : Array Value} (h : H.get id = some ⟨[.chq cap buf], false⟩) (hl : φ id = some l) (hb : b' = (concL φ buf').toArray) (hw : wfL φ buf') :
    Post C φ H w φ (H.set id (some ⟨[.chq cap buf'], false⟩)) (w.setChan l.blk cap b' false s r false) := by
  subst hb
  have hlt := (hr.dom id l hl).2
  have := (Post.refl hr).blockG (H' := H.set id (some ⟨[.chq cap buf'], false⟩)) (id' := id) (l' := l) (cells := [.chq cap buf']) (w' := w.setChan l.blk cap (concL φ buf').toArray false s r false) h rfl hl (Nat.le_refl _) (hr.dom id l hl).1 (.inl ⟨rfl, rfl⟩)
    (fun j => by rw [Heap.get_set]; split <;> rfl) rfl (Conc.size_setChan _ _ _ _ _ _ _ _) (fun b hb => by simp only [World.setChan]; rw [Array.getElem?_setIfInBounds_ne (Ne.symm hb)]) rfl rfl rfl
    ⟨(fun hq => by cases hq), fun _ => ⟨cap, buf', s, r, rfl, ?_, ?_⟩⟩
  · have e : upd φ id l = φ := by
      funext j
      by_cases ej : j = id
      · rw [ej, upd_self, hl]
      · rw [upd_ne φ l ej]
    rw [e] at this
    exact this
  · have e : upd φ id l = φ := by
      funext j
      by_cases ej : j = id
      · rw [ej, upd_self, hl]
      · rw [upd_ne φ l ej]
    rw [e]
    exact Conc.heap_setChan _ _ _ _ _ _ _ _ hlt
  · exact (wfL_ext (ext_upd (.inr hl)) _ hw).1
end
end Go.Ab
