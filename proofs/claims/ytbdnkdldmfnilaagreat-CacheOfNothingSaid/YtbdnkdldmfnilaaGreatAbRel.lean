/-
  What an abstract heap says of a world.
-/
import Derived.Test.YtbdnkdldmfnilaaGreatAbEv
import Derived.LoopN
namespace Go.Ab

/-- Where an object lies: its block, its first cell there, how many cells from there on. -/
structure Loc where
  blk : Nat
  base : Nat
  ext : Nat

abbrev Phi := Nat → Option Loc

def Cap.val (l : Loc) (off sz : Nat) : Cap → Nat
  | .ex c => c
  | .full => (l.ext - off) / sz
  | .tail k => (l.ext - off) / sz - k
def Cap.off (l : Loc) (off sz : Nat) : Cap → Nat
  | .tail k => if (l.ext - off) / sz = k then off else off + k * sz
  | _ => off

mutual
/-- The value in the world. -/
def conc (φ : Phi) : V → Value
  | .bool b => .bool b
  | .int k n => .int k n
  | .str s => .string s
  | .nilp => .pointer none
  | .ptr id off => match φ id with
    | some l => .pointer (some ⟨l.blk, l.base + off, none⟩)
    | none => undef
  | .nils => .slice none 0 0
  | .sl id off len sz cap => match φ id with
    | some l => .slice (some ⟨l.blk, l.base + cap.off l off sz, none⟩) len (cap.val l off sz)
    | none => undef
  | .func fn a b => .func fn (concL φ a).toArray (concL φ b).toArray
  | .nilFunc => .nilFunc
  | .iface t v => .iface t (conc φ v)
  | .nilIface => .nilIface
  | .agg cs => .agg (concL φ cs).toArray
  | .tuple vs => .tuple (concL φ vs).toArray
  | .chan id => match φ id with
    | some l => .chan (some l.blk)
    | none => undef
  | .nilChan => .chan none
  | .chq _ _ => undef
def concL (φ : Phi) : List V → List Value
  | [] => []
  | v :: vs => conc φ v :: concL φ vs
end

mutual
def wf (φ : Phi) : V → Prop
  | .ptr id _ => ∃ l, φ id = some l
  | .sl id off len sz cap => ∃ l, φ id = some l ∧ 0 < sz ∧ len ≤ cap.val l off sz ∧ off ≤ l.ext ∧
      (match cap with
       | .ex c => c * sz + off ≤ l.ext
       | .full => True
       | .tail k => len = 0 ∧ k ≤ (l.ext - off) / sz)
  | .func _ a b => wfL φ a ∧ wfL φ b
  | .iface _ v => wf φ v
  | .agg cs => wfL φ cs
  | .tuple vs => wfL φ vs
  | .chan id => ∃ l, φ id = some l
  | .chq _ _ => False
  | _ => True
def wfL (φ : Phi) : List V → Prop
  | [] => True
  | v :: vs => wf φ v ∧ wfL φ vs
end

def Ext (φ φ' : Phi) : Prop := ∀ id l, φ id = some l → φ' id = some l
theorem Ext.refl (φ : Phi) : Ext φ φ := fun _ _ h => h
theorem Ext.trans {a b c : Phi} (h : Ext a b) (k : Ext b c) : Ext a c := fun id l e => k id l (h id l e)

mutual
theorem wf_ext {φ φ' : Phi} (h : Ext φ φ') : ∀ (v : V), wf φ v → wf φ' v ∧ conc φ' v = conc φ v
  | .bool _, _ => ⟨trivial, rfl⟩
  | .int _ _, _ => ⟨trivial, rfl⟩
  | .str _, _ => ⟨trivial, rfl⟩
  | .nilp, _ => ⟨trivial, rfl⟩
  | .ptr id off, hw => by
    obtain ⟨l, hl⟩ := hw
    exact ⟨⟨l, h _ _ hl⟩, by simp only [conc, hl, h _ _ hl]⟩
  | .nils, _ => ⟨trivial, rfl⟩
  | .sl id off len sz cap, hw => by
    obtain ⟨l, hl, hr⟩ := hw
    exact ⟨⟨l, h _ _ hl, hr⟩, by simp only [conc, hl, h _ _ hl]⟩
  | .func _ a b, hw => by
    have h1 := wfL_ext h a hw.1
    have h2 := wfL_ext h b hw.2
    exact ⟨⟨h1.1, h2.1⟩, by simp only [conc, h1.2, h2.2]⟩
  | .nilFunc, _ => ⟨trivial, rfl⟩
  | .iface t v, hw => by
    have h1 := wf_ext h v hw
    exact ⟨h1.1, by simp only [conc, h1.2]⟩
  | .nilIface, _ => ⟨trivial, rfl⟩
  | .agg cs, hw => by
    have h1 := wfL_ext h cs hw
    exact ⟨h1.1, by simp only [conc, h1.2]⟩
  | .tuple cs, hw => by
    have h1 := wfL_ext h cs hw
    exact ⟨h1.1, by simp only [conc, h1.2]⟩
  | .chan id, hw => by
    obtain ⟨l, hl⟩ := hw
    exact ⟨⟨l, h _ _ hl⟩, by simp only [conc, hl, h _ _ hl]⟩
  | .nilChan, _ => ⟨trivial, rfl⟩
  | .chq _ _, hw => hw.elim
theorem wfL_ext {φ φ' : Phi} (h : Ext φ φ') : ∀ (v : List V), wfL φ v → wfL φ' v ∧ concL φ' v = concL φ v
  | [], _ => ⟨trivial, rfl⟩
  | v :: vs, hw => by
    have h1 := wf_ext h v hw.1
    have h2 := wfL_ext h vs hw.2
    exact ⟨⟨h1.1, h2.1⟩, by simp only [concL, h1.2, h2.2]⟩
end

theorem concL_eq (φ : Phi) (vs : List V) : concL φ vs = vs.map (conc φ) := by
  induction vs with
  | nil => rfl
  | cons v vs ih => simp [concL, ih]
theorem wfL_iff (φ : Phi) (vs : List V) : wfL φ vs ↔ ∀ v ∈ vs, wf φ v := by
  induction vs with
  | nil => simp [wfL]
  | cons v vs ih => simp [wfL, ih]

/-- May the cells [lo, hi) of a block be written? -/
def Free (fr : Nat × Nat) (lo hi : Nat) : Prop := ∀ o, lo ≤ o → o < hi → ¬ (fr.1 ≤ o ∧ o < fr.2)

structure LiesC (φ : Phi) (w : World) (o : Ob) (l : Loc) : Prop where
  at_ : ∃ c elem fr, w.heap[l.blk]? = some (.cells c elem fr) ∧ l.base + l.ext ≤ c.size ∧ (o.ro = false → Free fr l.base (l.base + l.ext)) ∧
    ∀ i v, o.cells[i]? = some v → c[l.base + i]? = some (conc φ v)
  len : o.cells.length ≤ l.ext
  wfc : wfL φ o.cells
/-- An object is a row of cells, or a channel that nothing has closed. -/
structure Lies (φ : Phi) (w : World) (o : Ob) (l : Loc) : Prop where
  row : isq o.cells = false → LiesC φ w o l
  chq : isq o.cells = true → ∃ cap buf s r, o = ⟨[.chq cap buf], false⟩ ∧ w.heap[l.blk]? = some (.chan cap (concL φ buf).toArray false s r false) ∧ wfL φ buf
theorem isq_wf {φ : Phi} {cells : List V} (h : wfL φ cells) : isq cells = false := by
  cases cells with
  | nil => rfl
  | cons v vs =>
    cases v <;> first | rfl | exact h.1.elim
theorem LiesC.lies {φ : Phi} {w : World} {o : Ob} {l : Loc} (h : LiesC φ w o l) : Lies φ w o l :=
  ⟨fun _ => h, fun hq => by rw [isq_wf h.wfc] at hq; cases hq⟩

structure Rel (C : Cfg) (φ : Phi) (H : Heap) (w : World) : Prop where
  dom : ∀ id l, φ id = some l → id < H.next ∧ l.blk < w.heap.size
  obj : ∀ id o, H.get id = some o → ∃ l, φ id = some l ∧ Lies φ w o l
  inj : ∀ id id' o o' l l', H.get id = some o → H.get id' = some o' → o.ro = false → φ id = some l → φ id' = some l' → l.blk = l'.blk → id = id'
  glob : ∀ g, C.gl g = true → ∃ l, φ g = some l ∧ l.blk = g ∧ l.base = 0

theorem Rel.row {C : Cfg} {φ : Phi} {H : Heap} {w : World} (h : Rel C φ H w) {id : Nat} {o : Ob} (ho : H.gt id = some o) : ∃ l, φ id = some l ∧ LiesC φ w o l :=
  let ⟨l, hl, hh⟩ := h.obj id o (Heap.gt_some ho).1
  ⟨l, hl, hh.row (Heap.gt_some ho).2⟩

/-- A block in which an object lies that may be written. -/
def Hosts (φ : Phi) (H : Heap) (b : Nat) : Prop := ∃ id o l, H.get id = some o ∧ o.ro = false ∧ φ id = some l ∧ l.blk = b

/-- What became of the heap and of the world. -/
structure Post (C : Cfg) (φ : Phi) (H : Heap) (w : World) (φ' : Phi) (H' : Heap) (w' : World) : Prop where
  ext : Ext φ φ'
  rel : Rel C φ' H' w'
  size : w.heap.size ≤ w'.heap.size
  tape : w'.tape = w.tape
  os : w'.os = w.os
  output : w'.output = w.output
  frame : ∀ b, b < w.heap.size → ¬ Hosts φ H b → w'.heap[b]? = w.heap[b]?
  own : ∀ b, Hosts φ' H' b → b < w.heap.size → Hosts φ H b
  next : H.next ≤ H'.next
  fresh : ∀ id, id < H.next → H.get id = none → H'.get id = none
  ros : ∀ id o, H'.get id = some o → o.ro = true → H.get id = some o
  keep : ∀ id, id < H.next → φ id = none → φ' id = none

theorem Post.refl {C : Cfg} {φ : Phi} {H : Heap} {w : World} (h : Rel C φ H w) : Post C φ H w φ H w :=
  ⟨.refl _, h, Nat.le_refl _, rfl, rfl, rfl, fun _ _ _ => rfl, fun _ h _ => h, Nat.le_refl _, fun _ _ h => h, fun _ _ h _ => h, fun _ _ h => h⟩

theorem Post.trans {C : Cfg} {φ φ' φ'' : Phi} {H H' H'' : Heap} {w w' w'' : World} (h : Post C φ H w φ' H' w') (k : Post C φ' H' w' φ'' H'' w'') :
    Post C φ H w φ'' H'' w'' :=
  ⟨h.ext.trans k.ext, k.rel, Nat.le_trans h.size k.size, k.tape.trans h.tape, k.os.trans h.os, k.output.trans h.output,
    fun b hb hn => by
      rw [k.frame b (Nat.lt_of_lt_of_le hb h.size) (fun hh => hn (h.own b hh hb)), h.frame b hb hn],
    fun b hh hb => h.own b (k.own b hh (Nat.lt_of_lt_of_le hb h.size)) hb,
    Nat.le_trans h.next k.next,
    fun id hi hn => k.fresh id (Nat.lt_of_lt_of_le hi h.next) (h.fresh id hi hn),
    fun id o ho hr => h.ros id o (k.ros id o ho hr) hr,
    fun id hi hn => k.keep id (Nat.lt_of_lt_of_le hi h.next) (h.keep id hi hn)⟩

def Meets (C : Cfg) (f : FuncId) (args : List V) (H : Heap) (v : V) (H' : Heap) : Prop :=
  ∀ φ w, Rel C φ H w → wfL φ args → Calls C.P f (concL φ args).toArray w fun e w' =>
    match e with
    | .returned u => ∃ φ', Post C φ H w φ' H' w' ∧ wf φ' v ∧ u = conc φ' v
    | .panicked _ => False
    | .outgrown => False

/-- What is asked of a program and of what stands in for its functions. -/
structure Fit (C : Cfg) : Prop where
  mixed : C.P.follows .mixedOrders = true
  names : ∀ (f : FuncId) (fn : Func), C.P.funcs[f]? = some fn → (fn.name == "runtime.NumGoroutine") = false
  ext : ∀ f g args H v H', C.ext f = some g → g args H = some (v, H') → Meets C f args H v H'
  exts : ∀ (f : FuncId) g, C.ext f = some g → ∃ fn : Func, C.P.funcs[f]? = some fn ∧ fn.body.isSome = true

/-- The frame's slots. -/
structure AR (φ : Phi) (env : Env) (a : Act) : Prop where
  tmps : a.tmps = (concL φ env).toArray
  wfe : wfL φ env
  defers : a.defers = []

theorem AR.mono {φ φ' : Phi} {env : Env} {a : Act} (h : AR φ env a) (e : Ext φ φ') : AR φ' env a :=
  ⟨by rw [h.tmps, (wfL_ext e env h.wfe).2], (wfL_ext e env h.wfe).1, h.defers⟩

theorem conc_un (φ : Phi) : conc φ V.un = undef := rfl

theorem AR.put {φ : Phi} {env : Env} {a : Act} (h : AR φ env a) (d : Option Tmp) {v : V} (hv : wf φ v) : AR φ (env.put d v) (a.put d (conc φ v)) := by
  cases d with
  | none => exact h
  | some d =>
    refine ⟨?_, ?_, h.defers⟩
    · simp only [Act.put, Env.put, h.tmps, concL_eq]
      simp [List.map_set]
    · simp only [Env.put]
      rw [wfL_iff]
      intro x hx
      rcases List.mem_or_eq_of_mem_set hx with hx | rfl
      · exact (wfL_iff _ _).1 h.wfe x hx
      · exact hv

/-! ### Operands -/

theorem ofVal_ok (φ : Phi) : ∀ (c : Value) (v : V), ofVal c = some v → wf φ v ∧ conc φ v = c := by
  intro c v h
  unfold ofVal at h
  split at h <;> simp only [Option.some.injEq, reduceCtorEq] at h <;> subst h <;> first | exact ⟨trivial, rfl⟩ | exact ⟨⟨⟩, rfl⟩

theorem ofVals_ok (φ : Phi) : ∀ (cs : List Value) (vs : List V), ofVals cs = some vs → wfL φ vs ∧ concL φ vs = cs
  | [], vs, h => by simp only [ofVals, Option.some.injEq] at h; subst h; exact ⟨trivial, rfl⟩
  | c :: cs, vs, h => by
    simp only [ofVals, Option.bind_eq_bind, Option.bind_eq_some_iff, Option.some.injEq] at h
    obtain ⟨x, hx, xs, hxs, rfl⟩ := h
    have h1 := ofVal_ok φ c x hx
    have h2 := ofVals_ok φ cs xs hxs
    exact ⟨⟨h1.1, h2.1⟩, by simp only [concL, h1.2, h2.2]⟩

theorem ofCon_ok (φ : Phi) (c : Value) (v : V) (h : ofCon c = some v) : wf φ v ∧ conc φ v = c := by
  unfold ofCon at h
  split at h
  · simp only [Option.map_eq_some_iff] at h
    obtain ⟨vs, hvs, rfl⟩ := h
    have := ofVals_ok φ _ vs hvs
    exact ⟨this.1, by simp only [conc, this.2]⟩
  · exact ofVal_ok φ c v h

theorem opd_ok {C : Cfg} {φ : Phi} {H : Heap} {w : World} {env : Env} {a : Act} (hr : Rel C φ H w) (ha : AR φ env a) :
    ∀ (x : Operand) (v : V), opd C env x = some v → wf φ v ∧ a.eval x = conc φ v := by
  intro x v h
  cases x with
  | tmp t =>
    simp only [opd] at h
    refine ⟨(wfL_iff _ _).1 ha.wfe v (List.mem_of_getElem? h), ?_⟩
    simp only [Act.eval, ha.tmps, concL_eq]
    simp [Array.getD_eq_getD_getElem?, h]
  | const c =>
    simp only [opd] at h
    have := ofCon_ok φ c v h
    exact ⟨this.1, this.2.symm⟩
  | global g =>
    simp only [opd] at h
    split at h
    · rename_i hg
      simp only [Option.some.injEq] at h
      subst h
      obtain ⟨l, hl, hb, h0⟩ := hr.glob g hg
      exact ⟨⟨l, hl⟩, by simp only [Act.eval, conc, hl, hb, h0, Nat.zero_add]⟩
    · cases h
  | func f =>
    simp only [opd, Option.some.injEq] at h
    subst h
    exact ⟨⟨trivial, trivial⟩, rfl⟩

theorem opds_ok {C : Cfg} {φ : Phi} {H : Heap} {w : World} {env : Env} {a : Act} (hr : Rel C φ H w) (ha : AR φ env a) :
    ∀ (xs : List Operand) (vs : List V), opds C env xs = some vs → wfL φ vs ∧ xs.map a.eval = concL φ vs
  | [], vs, h => by simp only [opds, Option.some.injEq] at h; subst h; exact ⟨trivial, rfl⟩
  | x :: xs, vs, h => by
    simp only [opds, Option.bind_eq_bind, Option.bind_eq_some_iff, Option.some.injEq] at h
    obtain ⟨v, hv, vs', hvs, rfl⟩ := h
    have h1 := opd_ok hr ha x v hv
    have h2 := opds_ok hr ha xs vs' hvs
    exact ⟨⟨h1.1, h2.1⟩, by simp only [List.map_cons, concL, h1.2, h2.2]⟩
end Go.Ab
