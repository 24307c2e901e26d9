/-
  What stands in for strings.Join, and for calls that are run once for all.
-/
import Derived.Test.YtbdnkdldmfnilaaGreatAbRun
import Derived.Lib.Join
import Derived.Below
namespace Go.Ab
section
variable {C : Cfg} {φ φ0 : Phi} {H H0 H' : Heap} {w w' w0 : World} {env : Env} {a : Act}

/-- Nothing that was there has turned. -/
theorem Post.below (hr : Rel C φ H w) (hb : Go.RowKit.Below w.heap.size w w') : Post C φ H w φ H w' :=
  ⟨.refl _, ⟨fun id l hl => ⟨(hr.dom id l hl).1, Nat.lt_of_lt_of_le (hr.dom id l hl).2 hb.size⟩, fun id o ho => let ⟨l, hl, hh⟩ := hr.obj id o ho; ⟨l, hl, hh.mono (.refl _) (hb.block _ (hr.dom id l hl).2)⟩, hr.inj, hr.glob⟩,
    hb.size, hb.tape, hb.os, hb.output, fun b hbs _ => hb.block b hbs, fun _ h _ => h, Nat.le_refl _, fun _ _ h => h, fun _ _ h _ => h, fun _ _ h => h⟩

/-- An act that knows of no object lets all be. -/
theorem Post.to_below {n : Nat} (hp : Post C φ ⟨.leaf, n⟩ w φ0 H' w') : Go.RowKit.Below w.heap.size w w' :=
  ⟨hp.os, hp.tape, hp.output, hp.size, fun b hb => hp.frame b hb (by rintro ⟨id, o, l, h, -⟩; cases h)⟩

/-- No address in it. -/
def V.plain : V → Bool
  | .bool _ | .int .. | .str _ | .nilp | .nils | .nilFunc | .nilIface => true
  | _ => false
theorem plain_conc {v : V} (h : v.plain = true) (φ φ' : Phi) : wf φ v ∧ conc φ v = conc φ' v := by
  cases v <;> simp only [V.plain, Bool.false_eq_true] at h <;> exact ⟨trivial, rfl⟩

/-- A CALL THAT IS RUN ONCE, FROM AN EMPTY HEAP, DOES THE SAME WHEREVER IT STANDS. -/
theorem meets_closed (hf : Fit C) (hgl : ∀ g, C.gl g = false) {C' : Cfg} (hP : C'.P = C.P) {n k : Nat} {f : FuncId} {args : List V} {v : V} (hrun : (ev C n f args ⟨.leaf, k⟩).map (·.1) = some v) (hv : v.plain = true) (hargs : ∀ x ∈ args, x.plain = true) (H : Heap) :
    Meets C' f args H v H := by
  simp only [Option.map_eq_some_iff, Prod.exists] at hrun
  obtain ⟨v', H1, hrun, rfl⟩ := hrun
  intro φ w hr hw
  have h0 : Rel C (fun _ => none) ⟨.leaf, k⟩ w := { dom := (by intro id l h; cases h), obj := (by intro id o h; cases h), inj := (by intro id id' o o' l l' h; cases h), glob := (by intro g hg; rw [hgl] at hg; cases hg) }
  have hwf : ∀ φ : Phi, wfL φ args := fun φ => (wfL_iff _ _).2 fun x hx => (plain_conc (hargs x hx) φ φ).1
  have hcc : concL (fun _ => none) args = concL φ args := by
    rw [concL_eq, concL_eq]
    exact List.map_congr_left fun x hx => (plain_conc (hargs x hx) _ _).2
  have := (ev_ok hf n f args _ _ _ hrun).1 _ w h0 (hwf _)
  rw [hcc, ← hP] at this
  refine this.mono ?_
  intro e w' he
  cases e with
  | returned u =>
    obtain ⟨φ', hp, -, rfl⟩ := he
    exact ⟨φ, Post.below hr hp.to_below, (plain_conc hv φ φ).1, (plain_conc hv φ' φ).2⟩
  | panicked _ => exact he
  | outgrown => exact he

def strsOf : List V → Option (List ByteArray)
  | [] => some []
  | .str s :: r => do some (s :: (← strsOf r))
  | _ => none
theorem strsOf_ok : ∀ (vs : List V) (xs : List ByteArray), strsOf vs = some xs → concL φ vs = xs.map Value.string
  | [], xs, h => by simp only [strsOf, Option.some.injEq] at h; subst h; rfl
  | v :: vs, xs, h => by
    unfold strsOf at h
    split at h
    · rename_i e; cases e
    · rename_i s r e
      cases e
      simp only [Option.bind_eq_bind, Option.bind_eq_some_iff, Option.some.injEq] at h
      obtain ⟨xs', hxs, rfl⟩ := h
      simp only [concL, conc, strsOf_ok _ xs' hxs, List.map_cons]
    · cases h

def joinG (args : List V) (H : Heap) : Option (V × Heap) :=
  match args with
  | [.nils, .str _] => some (.str ⟨#[]⟩, H)
  | [.sl id off len sz _, .str sep] =>
    if len = 0 then some (.str ⟨#[]⟩, H) else
    if sz = 1 then do
      let cs ← H.rd id off len
      let xs ← strsOf cs
      if (Lib.join (xs.map (·.data.toList)) sep.data.toList).length ≤ 140737488355328 ∧ len ≤ 140737488355328 then
        some (.str ⟨(Lib.join (xs.map (·.data.toList)) sep.data.toList).toArray⟩, H)
      else none
    else none
  | _ => none

/-- What the shelf says of strings.Join. -/
structure JoinLaw (P : Program) (f : FuncId) : Prop where
  nil : ∀ (a : Option Addr) (c : Nat) (sep : ByteArray) (w : World), Calls P f #[.slice a 0 c, .string sep] w fun e w' => e = .returned (.string ⟨#[]⟩) ∧ w' = w
  many : ∀ (bk o c : Nat) (xs : List ByteArray) (sep : ByteArray) (w : World), (∀ (j : Nat) x, xs[j]? = some x → w.cell? ⟨bk, o + j, none⟩ = some (.string x)) → bk < w.heap.size → xs.length ≤ 140737488355328 → xs.length ≤ c →
    (Lib.join (xs.map (·.data.toList)) sep.data.toList).length ≤ 140737488355328 →
    Calls P f #[.slice (some ⟨bk, o, none⟩) xs.length c, .string sep] w fun e w' => e = .returned (.string ⟨(Lib.join (xs.map (·.data.toList)) sep.data.toList).toArray⟩) ∧ Go.RowKit.Below w.heap.size w w'

theorem joinG_ok {f : FuncId} (L : JoinLaw C.P f) {args : List V} {v : V} (h : joinG args H = some (v, H')) : Meets C f args H v H' := by
  intro φ w hr hw
  unfold joinG at h
  split at h
  · rename_i sep
    simp only [Option.some.injEq, Prod.mk.injEq] at h
    obtain ⟨rfl, rfl⟩ := h
    refine (L.nil none 0 sep w).mono ?_
    rintro e w' ⟨rfl, rfl⟩
    exact ⟨φ, .refl hr, trivial, rfl⟩
  · rename_i id off len sz cap sep
    obtain ⟨l, hl, hz0, hlen, hoff, hcap⟩ := hw.1
    split at h
    · rename_i h0
      subst h0
      simp only [Option.some.injEq, Prod.mk.injEq] at h
      obtain ⟨rfl, rfl⟩ := h
      have e1 : (concL φ [V.sl id off 0 sz cap, V.str sep]).toArray = #[.slice (some ⟨l.blk, l.base + cap.off l off sz, none⟩) 0 (cap.val l off sz), .string sep] := by simp [concL, conc, hl]
      rw [e1]
      refine (L.nil _ _ sep w).mono ?_
      rintro e w' ⟨rfl, rfl⟩
      exact ⟨φ, .refl hr, trivial, rfl⟩
    · rename_i h0
      split at h
      case isFalse => cases h
      rename_i h1
      subst h1
      simp only [Option.bind_eq_bind, Option.bind_eq_some_iff] at h
      obtain ⟨cs, hcs, xs, hxs, h⟩ := h
      split at h
      case isFalse => cases h
      rename_i hb
      simp only [Option.some.injEq, Prod.mk.injEq] at h
      obtain ⟨rfl, rfl⟩ := h
      obtain ⟨l', hl', hwc, hn, hcell⟩ := rd_ok hr hcs
      rw [hl] at hl'; cases hl'
      have hx := strsOf_ok (φ := φ) cs xs hxs
      have hxl : xs.length = len := by
        have := congrArg List.length hx
        simpa [concL_length, hn] using this.symm
      have hco : cap.off l off 1 = off := by
        cases cap <;> simp only [Cap.off]
        simp only at hcap
        omega
      have e1 : (concL φ [V.sl id off len 1 cap, V.str sep]).toArray = #[.slice (some ⟨l.blk, l.base + off, none⟩) xs.length (cap.val l off 1), .string sep] := by simp [concL, conc, hl, hco, hxl]
      rw [e1]
      refine (L.many l.blk (l.base + off) (cap.val l off 1) xs sep w (fun j x hj => ?_) (hr.dom id l hl).2 (by rw [hxl]; exact hb.2) (by rw [hxl]; exact hlen) hb.1).mono ?_
      · refine hcell j _ ?_
        rw [hx, List.getElem?_map, hj]
        rfl
      · rintro e w' ⟨rfl, hbl⟩
        exact ⟨φ, Post.below hr hbl, trivial, rfl⟩
  · cases h
end
end Go.Ab
