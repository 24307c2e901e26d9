/-
  New objects, and objects that are written: what becomes of the relation.
-/
import Derived.Test.YtbdnkdldmfnilaaGreatAbMem
namespace Go.Ab
section
variable {C : Cfg} {φ φ0 : Phi} {H H0 : Heap} {w w0 : World} {env : Env} {a : Act}

def upd (φ : Phi) (id : Nat) (l : Loc) : Phi := fun j => if j = id then some l else φ j
theorem upd_self (φ : Phi) (id : Nat) (l : Loc) : upd φ id l id = some l := by simp [upd]
theorem upd_ne (φ : Phi) {id j : Nat} (l : Loc) (h : j ≠ id) : upd φ id l j = φ j := by simp [upd, h]
theorem ext_upd {φ : Phi} {id : Nat} {l : Loc} (h : φ id = none ∨ φ id = some l) : Ext φ (upd φ id l) := by
  intro j k hj
  by_cases e : j = id
  · subst e
    rcases h with h | h
    · rw [h] at hj; cases hj
    · rw [upd_self, ← h, hj]
  · rw [upd_ne φ l e]; exact hj

/-- Another object's place is as it was, where its block is. -/
theorem Lies.mono {φ φ' : Phi} {w w' : World} {o : Ob} {l : Loc} (h : Lies φ w o l) (e : Ext φ φ') (hb : w'.heap[l.blk]? = w.heap[l.blk]?) : Lies φ' w' o l := by
  refine ⟨fun hq => ?_, fun hq => ?_⟩
  · obtain ⟨⟨c, elem, fr, h1, h2, h3, h4⟩, h5, h6⟩ := h.row hq
    refine ⟨⟨c, elem, fr, by rw [hb, h1], h2, h3, ?_⟩, h5, (wfL_ext e _ h6).1⟩
    intro i v hv
    rw [h4 i v hv, (wf_ext e v (wfL_get h6 hv)).2]
  · obtain ⟨cap, buf, s, r, h1, h2, h3⟩ := h.chq hq
    exact ⟨cap, buf, s, r, h1, by rw [hb, h2, (wfL_ext e _ h3).2], (wfL_ext e _ h3).1⟩

/-- The world's heap is as it was. -/
theorem Post.same (h : Post C φ0 H0 w0 φ H w) {w' : World} (h1 : w'.heap = w.heap) (h2 : w'.tape = w.tape) (h3 : w'.os = w.os) (h4 : w'.output = w.output) : Post C φ0 H0 w0 φ H w' :=
  ⟨h.ext, ⟨fun id l hl => by rw [h1]; exact h.rel.dom id l hl, fun id o ho => let ⟨l, hl, hh⟩ := h.rel.obj id o ho; ⟨l, hl, hh.mono (.refl _) (by rw [h1])⟩, h.rel.inj, h.rel.glob⟩,
    by rw [h1]; exact h.size, h2.trans h.tape, h3.trans h.os, h4.trans h.output, fun b hb hn => by rw [h1]; exact h.frame b hb hn, h.own, h.next, h.fresh, h.ros, h.keep⟩

/-- Fewer objects are spoken of. -/
theorem Rel.less (hr : Rel C φ H w) {H' : Heap} (hn : H'.next = H.next) (hs : ∀ j o, H'.get j = some o → H.get j = some o) : Rel C φ H' w :=
  ⟨fun id l hl => by rw [hn]; exact hr.dom id l hl, fun id o ho => hr.obj id o (hs _ _ ho), fun id id' o o' l l' ho ho' => hr.inj id id' o o' l l' (hs _ _ ho) (hs _ _ ho'), hr.glob⟩
theorem Post.less (h : Post C φ0 H0 w0 φ H w) {H' : Heap} (hn : H'.next = H.next) (hs : ∀ j o, H'.get j = some o → H.get j = some o) (hf : ∀ j, j < H0.next → H0.get j = none → H'.get j = none) : Post C φ0 H0 w0 φ H' w :=
  ⟨h.ext, h.rel.less hn hs, h.size, h.tape, h.os, h.output, h.frame, fun b ⟨id, o, l, h1, h2, h3, h4⟩ hb => h.own b ⟨id, o, l, hs _ _ h1, h2, h3, h4⟩ hb, by rw [hn]; exact h.next, hf, fun j o ho => h.ros j o (hs _ _ ho), h.keep⟩

/-- A new object in a new block, of whatever kind. -/
theorem Post.allocG (h : Post C φ0 H0 w0 φ H w) {H' : Heap} {w' : World} {id : Nat} {cells : List V} {x : Obj} (hid : φ id = none) (hid0 : H0.next ≤ id) (hidn : id < H'.next) (hn : H.next ≤ H'.next)
    (hget : ∀ j, H'.get j = if j = id then some ⟨cells, false⟩ else H.get j)
    (h1 : w'.heap = w.heap.push x) (h2 : w'.tape = w.tape) (h3 : w'.os = w.os) (h4 : w'.output = w.output) {ext : Nat}
    (hlies : Lies (upd φ id ⟨w.heap.size, 0, ext⟩) w' ⟨cells, false⟩ ⟨w.heap.size, 0, ext⟩) :
    Post C φ0 H0 w0 (upd φ id ⟨w.heap.size, 0, ext⟩) H' w' := by
  have e := ext_upd (l := ⟨w.heap.size, 0, ext⟩) (.inl hid)
  have hold : ∀ b, b < w.heap.size → w'.heap[b]? = w.heap[b]? := fun b hb => by rw [h1, Array.getElem?_push, if_neg (by omega)]
  have hsz : w'.heap.size = w.heap.size + 1 := by rw [h1, Array.size_push]
  refine ⟨h.ext.trans e, ⟨?_, ?_, ?_, ?_⟩, by rw [hsz]; have := h.size; omega, h2.trans h.tape, h3.trans h.os, h4.trans h.output, ?_, ?_, Nat.le_trans h.next hn, ?_, ?_, fun j hj hjn => by rw [upd_ne φ _ (by omega)]; exact h.keep j hj hjn⟩
  · intro j l hl
    by_cases ej : j = id
    · subst ej
      rw [upd_self] at hl
      cases hl
      exact ⟨hidn, by rw [hsz]; exact Nat.lt_succ_self _⟩
    · rw [upd_ne φ _ ej] at hl
      have := h.rel.dom j l hl
      exact ⟨Nat.lt_of_lt_of_le this.1 hn, by rw [hsz]; omega⟩
  · intro j o ho
    rw [hget] at ho
    split at ho
    · rename_i ej
      subst ej
      cases ho
      exact ⟨_, upd_self _ _ _, hlies⟩
    · rename_i ej
      obtain ⟨l, hl, hh⟩ := h.rel.obj j o ho
      exact ⟨l, by rw [upd_ne φ _ ej]; exact hl, hh.mono e (hold _ (h.rel.dom j l hl).2)⟩
  · intro j j' o o' l l' ho ho' hro hl hl' hbb
    rw [hget] at ho ho'
    by_cases ej : j = id
    · by_cases ej' : j' = id
      · rw [ej, ej']
      · subst ej
        rw [upd_self] at hl
        cases hl
        rw [upd_ne φ _ ej'] at hl'
        have := (h.rel.dom j' l' hl').2
        simp only at hbb
        omega
    · by_cases ej' : j' = id
      · subst ej'
        rw [upd_self] at hl'
        cases hl'
        rw [upd_ne φ _ ej] at hl
        have := (h.rel.dom j l hl).2
        simp only at hbb
        omega
      · rw [upd_ne φ _ ej] at hl
        rw [upd_ne φ _ ej'] at hl'
        rw [if_neg ej] at ho
        rw [if_neg ej'] at ho'
        exact h.rel.inj j j' o o' l l' ho ho' hro hl hl' hbb
  · intro g hg
    obtain ⟨l, hl, h⟩ := h.rel.glob g hg
    exact ⟨l, e _ _ hl, h⟩
  · intro b hb hn'
    rw [hold b (Nat.lt_of_lt_of_le hb h.size)]
    exact h.frame b hb hn'
  · rintro b ⟨j, o, l, ho, hro, hl, hlb⟩ hb
    rw [hget] at ho
    by_cases ej : j = id
    · subst ej
      rw [upd_self] at hl
      cases hl
      have := h.size
      simp only at hlb
      omega
    · rw [upd_ne φ _ ej] at hl
      rw [if_neg ej] at ho
      exact h.own b ⟨j, o, l, ho, hro, hl, hlb⟩ hb
  · intro j hj hjn
    rw [hget, if_neg (by omega)]
    exact h.fresh j hj hjn
  · intro j o ho hro
    rw [hget] at ho
    split at ho
    · cases ho; cases hro
    · exact h.ros j o ho hro

/-- A new object in a new block. -/
theorem Post.alloc (h : Post C φ0 H0 w0 φ H w) {H' : Heap} {w' : World} {id : Nat} {cells : List V} {c : Array Value} {elem : TypeId} {fr : Nat × Nat} (hid : φ id = none) (hid0 : H0.next ≤ id) (hidn : id < H'.next) (hn : H.next ≤ H'.next)
    (hget : ∀ j, H'.get j = if j = id then some ⟨cells, false⟩ else H.get j)
    (h1 : w'.heap = w.heap.push (.cells c elem fr)) (h2 : w'.tape = w.tape) (h3 : w'.os = w.os) (h4 : w'.output = w.output) {ext : Nat}
    (hfr : Free fr 0 ext) (hext : ext ≤ c.size) (hlen : cells.length ≤ ext) (hwf : wfL φ cells) (hc : ∀ (i : Nat) v, cells[i]? = some v → c[i]? = some (conc φ v)) :
    Post C φ0 H0 w0 (upd φ id ⟨w.heap.size, 0, ext⟩) H' w' := by
  have e := ext_upd (l := ⟨w.heap.size, 0, ext⟩) (.inl hid)
  refine h.allocG hid hid0 hidn hn hget h1 h2 h3 h4 (LiesC.lies ⟨⟨c, elem, fr, ?_, by simpa using hext, fun _ => by simpa using hfr, ?_⟩, hlen, (wfL_ext e _ hwf).1⟩)
  · simp [h1]
  · intro i v hv
    simp only [Nat.zero_add]
    rw [hc i v hv, (wf_ext e v (wfL_get hwf hv)).2]

/-- A channel is made. -/
theorem Post.allocQ (h : Post C φ0 H0 w0 φ H w) {H' : Heap} {w' : World} {id cap : Nat} (hid : φ id = none) (hid0 : H0.next ≤ id) (hidn : id < H'.next) (hn : H.next ≤ H'.next)
    (hget : ∀ j, H'.get j = if j = id then some ⟨[.chq cap []], false⟩ else H.get j)
    (h1 : w'.heap = w.heap.push (.chan cap #[] false 0 0 false)) (h2 : w'.tape = w.tape) (h3 : w'.os = w.os) (h4 : w'.output = w.output) :
    Post C φ0 H0 w0 (upd φ id ⟨w.heap.size, 0, 0⟩) H' w' := by
  refine h.allocG hid hid0 hidn hn hget h1 h2 h3 h4 ⟨(fun hq => by cases hq), fun _ => ⟨cap, [], 0, 0, rfl, ?_, trivial⟩⟩
  simp [h1, concL]

/-- An object's block turns: the object is another one, or has another number. -/
theorem Post.blockG (h : Post C φ0 H0 w0 φ H w) {H' : Heap} {w' : World} {id id' : Nat} {o : Ob} {l l' : Loc} {cells : List V}
    (ho : H.get id = some o) (hro : o.ro = false) (hl : φ id = some l) (hn : H.next ≤ H'.next) (hidn : id' < H'.next)
    (hid' : (id' = id ∧ l' = l) ∨ (φ id' = none ∧ H0.next ≤ id'))
    (hget : ∀ j, H'.get j = if j = id' then some ⟨cells, false⟩ else if j = id then none else H.get j)
    (hl' : l'.blk = l.blk)
    (h1 : w'.heap.size = w.heap.size) (h1'' : ∀ b, b ≠ l.blk → w'.heap[b]? = w.heap[b]?)
    (h2 : w'.tape = w.tape) (h3 : w'.os = w.os) (h4 : w'.output = w.output)
    (hlies : Lies (upd φ id' l') w' ⟨cells, false⟩ l') :
    Post C φ0 H0 w0 (upd φ id' l') H' w' := by
  have e : Ext φ (upd φ id' l') := ext_upd (by
    rcases hid' with ⟨rfl, rfl⟩ | ⟨h, _⟩
    · exact .inr hl
    · exact .inl h)
  have hidl : id < H.next ∧ l.blk < w.heap.size := h.rel.dom id l hl
  have hother : ∀ j oj lj, j ≠ id → H.get j = some oj → φ j = some lj → lj.blk ≠ l.blk := fun j oj lj hj hoj hlj hbb =>
    hj (h.rel.inj id j o oj l lj ho hoj hro hl hlj hbb.symm).symm
  have hhost : Hosts φ H l.blk := ⟨id, o, l, ho, hro, hl, rfl⟩
  refine ⟨h.ext.trans e, ⟨?_, ?_, ?_, ?_⟩, by rw [h1]; exact h.size, h2.trans h.tape, h3.trans h.os, h4.trans h.output, ?_, ?_, Nat.le_trans h.next hn, ?_, ?_, ?_⟩
  · intro j lj hlj
    by_cases ej : j = id'
    · subst ej
      rw [upd_self] at hlj
      cases hlj
      exact ⟨hidn, by rw [h1, hl']; exact hidl.2⟩
    · rw [upd_ne φ _ ej] at hlj
      have := h.rel.dom j lj hlj
      exact ⟨Nat.lt_of_lt_of_le this.1 hn, by rw [h1]; exact this.2⟩
  · intro j oj hoj
    rw [hget] at hoj
    split at hoj
    · rename_i ej
      subst ej
      cases hoj
      exact ⟨l', upd_self _ _ _, hlies⟩
    · rename_i ej
      split at hoj
      · cases hoj
      · rename_i ej2
        obtain ⟨lj, hlj, hh⟩ := h.rel.obj j oj hoj
        exact ⟨lj, by rw [upd_ne φ _ ej]; exact hlj, hh.mono e (h1'' _ (hother j oj lj ej2 hoj hlj))⟩
  · intro j j' oj oj' lj lj' hoj hoj' hroj hlj hlj' hbb
    rw [hget] at hoj hoj'
    by_cases ej : j = id'
    · by_cases ej' : j' = id'
      · rw [ej, ej']
      · subst ej
        rw [upd_self] at hlj
        cases hlj
        rw [upd_ne φ _ ej'] at hlj'
        rw [if_neg ej'] at hoj'
        split at hoj'
        · cases hoj'
        · rename_i ej2
          exact absurd (hbb.symm.trans hl') (hother j' oj' lj' ej2 hoj' hlj')
    · by_cases ej' : j' = id'
      · subst ej'
        rw [upd_self] at hlj'
        cases hlj'
        rw [upd_ne φ _ ej] at hlj
        rw [if_neg ej] at hoj
        split at hoj
        · cases hoj
        · rename_i ej2
          exact absurd (hbb.trans hl') (hother j oj lj ej2 hoj hlj)
      · rw [upd_ne φ _ ej] at hlj
        rw [upd_ne φ _ ej'] at hlj'
        rw [if_neg ej] at hoj
        rw [if_neg ej'] at hoj'
        split at hoj
        · cases hoj
        · split at hoj'
          · cases hoj'
          · exact h.rel.inj j j' oj oj' lj lj' hoj hoj' hroj hlj hlj' hbb
  · intro g hg
    obtain ⟨lg, hlg, hh⟩ := h.rel.glob g hg
    exact ⟨lg, e _ _ hlg, hh⟩
  · intro b hb hn'
    have : b ≠ l.blk := fun eb => hn' (h.own b (eb ▸ hhost) hb)
    rw [h1'' b this]
    exact h.frame b hb hn'
  · rintro b ⟨j, oj, lj, hoj, hroj, hlj, hljb⟩ hb
    rw [hget] at hoj
    by_cases ej : j = id'
    · subst ej
      rw [upd_self] at hlj
      cases hlj
      exact h.own b (by rw [← hljb, hl']; exact hhost) hb
    · rw [upd_ne φ _ ej] at hlj
      rw [if_neg ej] at hoj
      split at hoj
      · cases hoj
      · exact h.own b ⟨j, oj, lj, hoj, hroj, hlj, hljb⟩ hb
  · intro j hj hjn
    rw [hget]
    rcases hid' with ⟨rfl, -⟩ | ⟨-, hid'⟩
    · by_cases ej : j = id'
      · subst ej
        have := h.fresh j hj hjn
        rw [ho] at this
        cases this
      · rw [if_neg ej, if_neg ej]
        exact h.fresh j hj hjn
    · rw [if_neg (by omega)]
      split
      · rfl
      · exact h.fresh j hj hjn
  · intro j oj hoj hroj
    rw [hget] at hoj
    split at hoj
    · cases hoj; cases hroj
    · split at hoj
      · cases hoj
      · exact h.ros j oj hoj hroj
  · intro j hj hjn
    have h1 := h.keep j hj hjn
    rcases hid' with ⟨rfl, rfl⟩ | ⟨-, hge⟩
    · rw [upd_ne φ _ (by rintro rfl; rw [hl] at h1; cases h1)]
      exact h1
    · rw [upd_ne φ _ (by omega)]
      exact h1

/-- An object's block is written: the object is another one, or has another number. -/
theorem Post.block (h : Post C φ0 H0 w0 φ H w) {H' : Heap} {w' : World} {id id' : Nat} {o : Ob} {l l' : Loc} {cells : List V} {c c' : Array Value} {elem : TypeId} {fr : Nat × Nat}
    (ho : H.get id = some o) (hro : o.ro = false) (hl : φ id = some l) (hn : H.next ≤ H'.next) (hidn : id' < H'.next)
    (hid' : (id' = id ∧ l' = l) ∨ (φ id' = none ∧ H0.next ≤ id'))
    (hget : ∀ j, H'.get j = if j = id' then some ⟨cells, false⟩ else if j = id then none else H.get j)
    (hblk : w.heap[l.blk]? = some (.cells c elem fr)) (hfr : Free fr l.base (l.base + l.ext))
    (hl' : l'.blk = l.blk) (hb1 : l.base ≤ l'.base) (hb2 : l'.base + l'.ext ≤ l.base + l.ext) (hb3 : l.base + l.ext ≤ c.size)
    (h1 : w'.heap.size = w.heap.size) (h1' : w'.heap[l.blk]? = some (.cells c' elem fr)) (h1'' : ∀ b, b ≠ l.blk → w'.heap[b]? = w.heap[b]?)
    (h2 : w'.tape = w.tape) (h3 : w'.os = w.os) (h4 : w'.output = w.output)
    (hcs : c'.size = c.size) (hlen : cells.length ≤ l'.ext) (hwf : wfL φ cells) (hc : ∀ (i : Nat) v, cells[i]? = some v → c'[l'.base + i]? = some (conc φ v)) :
    Post C φ0 H0 w0 (upd φ id' l') H' w' := by
  have e : Ext φ (upd φ id' l') := ext_upd (by
    rcases hid' with ⟨rfl, rfl⟩ | ⟨h, _⟩
    · exact .inr hl
    · exact .inl h)
  refine h.blockG ho hro hl hn hidn hid' hget hl' h1 h1'' h2 h3 h4 (LiesC.lies ⟨⟨c', elem, fr, by rw [hl']; exact h1', by rw [hcs]; omega, fun _ q hq1 hq2 => hfr q (by omega) (by omega), ?_⟩, hlen, (wfL_ext e _ hwf).1⟩)
  intro i v hv
  rw [hc i v hv, (wf_ext e v (wfL_get hwf hv)).2]

/-- A list of cells is stored into a block. -/
theorem store_list {P : Program} {b : Nat} {elem : TypeId} {fr : Nat × Nat} (o : Nat) : ∀ (vs : List Value) (i : Nat) (c : Array Value) (w : World),
    w.heap[b]? = some (.cells c elem fr) → o + i + vs.length ≤ c.size → Free fr (o + i) (o + i + vs.length) → (∀ v ∈ vs, v.oneCell' = true) →
    ∃ w' c', (storeCells ⟨b, o, none⟩ vs i).run P w = .ok () w' ∧ w'.heap.size = w.heap.size ∧ w'.heap[b]? = some (.cells c' elem fr) ∧ (∀ b', b' ≠ b → w'.heap[b']? = w.heap[b']?) ∧
      w'.tape = w.tape ∧ w'.os = w.os ∧ w'.output = w.output ∧ c'.size = c.size ∧ ∀ j, c'[j]? = if o + i ≤ j ∧ j < o + i + vs.length then vs[j - (o + i)]? else c[j]?
  | [], i, c, w, h, _, _, _ => ⟨w, c, rfl, rfl, h, fun _ _ => rfl, rfl, rfl, rfl, rfl, fun j => by rw [if_neg (by simp only [List.length_nil]; omega)]⟩
  | v :: vs, i, c, w, h, hle, hfr, h1 => by
    simp only [List.length_cons] at hle hfr
    have hcell : w.cell? ⟨b, o + i, none⟩ = some c[o + i] := by
      simp only [World.cell?, h, Option.isSome_none, Bool.false_eq_true, if_false]
      exact Array.getElem?_eq_getElem (by omega)
    have hfroz : w.frozen? ⟨b, o + i, none⟩ = false := by
      have := hfr (o + i) (Nat.le_refl _) (by omega)
      obtain ⟨lo, hi⟩ := fr
      simp only [World.frozen?, h, Bool.and_eq_false_iff, decide_eq_false_iff_not]
      simp only at this
      omega
    have hst : (store ((⟨b, o, none⟩ : Addr).add i) v).run P w = .ok () (w.setCell ⟨b, o + i, none⟩ v) := by
      rw [add_zero_off, run_store P w _ v _ (h1 v (by simp)), hcell, hfroz]
      rfl
    have hb : (w.setCell ⟨b, o + i, none⟩ v).heap[b]? = some (.cells (c.setIfInBounds (o + i) v) elem fr) := by
      simp [World.setCell, Array.getElem?_modify, h]
    have hoth : ∀ b', b' ≠ b → (w.setCell ⟨b, o + i, none⟩ v).heap[b']? = w.heap[b']? := by
      intro b' hb'
      simp only [World.setCell, Array.getElem?_modify]
      rw [if_neg (by omega)]
    obtain ⟨w', c', r1, r2, r3, r4, r5, r6, r7, r8, r9⟩ := store_list (P := P) o vs (i + 1) (c.setIfInBounds (o + i) v) (w.setCell ⟨b, o + i, none⟩ v) hb
      (by rw [Array.size_setIfInBounds]; omega) (fun q hq1 hq2 => hfr q (by omega) (by omega)) (fun u hu => h1 u (by simp [hu]))
    refine ⟨w', c', ?_, ?_, r3, fun b' hb' => by rw [r4 b' hb', hoth b' hb'], r5, r6, r7, by rw [r8, Array.size_setIfInBounds], ?_⟩
    · simp only [storeCells, Sem.run_bind, hst, Result.andThen, r1]
    · rw [r2]; simp [World.setCell]
    · intro j
      rw [r9, Array.getElem?_setIfInBounds]
      simp only [List.length_cons]
      by_cases e1 : j = o + i
      · subst e1
        rw [if_neg (by omega), if_pos rfl, if_pos (by omega), if_pos (by omega)]
        simp
      · by_cases e2 : o + (i + 1) ≤ j ∧ j < o + (i + 1) + vs.length
        · rw [if_pos e2, if_pos (by omega), show j - (o + i) = (j - (o + (i + 1))) + 1 by omega, List.getElem?_cons_succ]
        · rw [if_neg e2, if_neg (by omega), if_neg (by omega)]

theorem one_conc {v : V} (h : v.one = true) (hw : wf φ v) : (conc φ v).oneCell' = true := by
  cases v <;> simp only [V.one, Bool.false_eq_true] at h <;> try rfl
  case ptr id off => obtain ⟨l, hl⟩ := hw; simp only [conc, hl]; rfl
  case sl id off len z cap => obtain ⟨l, hl, _⟩ := hw; simp only [conc, hl]; rfl
  case chan id => obtain ⟨l, hl⟩ := hw; simp only [conc, hl]; rfl
theorem one_concL {vs : List V} (h : vs.all V.one = true) (hw : wfL φ vs) : ∀ v ∈ concL φ vs, v.oneCell' = true := by
  intro v hv
  rw [concL_eq] at hv
  obtain ⟨x, hx, rfl⟩ := List.mem_map.1 hv
  exact one_conc (List.all_eq_true.1 h x hx) ((wfL_iff _ _).1 hw x hx)

/-- Cells are written over an object's. -/
theorem wr_ok (hr : Rel C φ H w) {id off : Nat} {vs : List V} {H' : Heap} (h : H.wr id off vs = some H') (hw : wfL φ vs) {l : Loc} (hl : φ id = some l) :
    ∃ w', (storeCells ⟨l.blk, l.base + off, none⟩ (concL φ vs)).run C.P w = .ok () w' ∧ Post C φ H w φ H' w' := by
  simp only [Heap.wr, Option.bind_eq_bind, Option.bind_eq_some_iff] at h
  obtain ⟨o, ho, h⟩ := h
  split at h
  case isFalse => cases h
  rename_i hc
  obtain ⟨hro, hle, hone⟩ := hc
  simp only [Option.some.injEq] at h
  subst h
  obtain ⟨l', hl', hlies⟩ := hr.row ho
  have ho := (Heap.gt_some ho).1
  rw [hl] at hl'
  cases hl'
  obtain ⟨⟨c, elem, fr, hb, hsz, hfr, hcell⟩, hlen, hwf⟩ := hlies
  have hfr := hfr hro
  obtain ⟨w', c', r1, r2, r3, r4, r5, r6, r7, r8, r9⟩ := store_list (P := C.P) (l.base + off) (concL φ vs) 0 c w hb (by rw [concL_length]; omega)
    (fun q h1 h2 => hfr q (by omega) (by rw [concL_length] at h2; omega)) (one_concL hone hw)
  refine ⟨w', r1, ?_⟩
  have := (Post.refl hr).block (H' := H.set id (some ⟨over o.cells off vs, false⟩)) (id' := id) (l' := l) (cells := over o.cells off vs) (c' := c') (w' := w') ho hro hl (Nat.le_refl _) (hr.dom id l hl).1 (.inl ⟨rfl, rfl⟩)
    (fun j => by rw [Heap.get_set]; split <;> rfl) hb hfr rfl (Nat.le_refl _) (Nat.le_refl _) hsz r2 r3 r4 r5 r6 r7 r8 (by rw [over_length _ _ _ hle]; exact hlen) (wfL_over hwf hw) (by
      intro i v hv
      rw [over_get _ _ _ hle] at hv
      rw [r9, concL_length]
      split at hv
      · rw [if_pos (by omega), concL_get, show l.base + i - (l.base + off + 0) = i - off by omega, hv]
        rfl
      · rw [if_neg (by omega)]
        exact hcell i v hv)
  have e : upd φ id l = φ := by
    funext j
    by_cases ej : j = id
    · rw [ej, upd_self, hl]
    · rw [upd_ne φ l ej]
  rw [e] at this
  exact this
end
end Go.Ab
