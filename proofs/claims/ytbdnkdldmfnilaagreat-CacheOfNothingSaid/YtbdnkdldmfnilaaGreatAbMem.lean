/-
  Reading, writing and making objects: what it does in the world.
-/
import Derived.Test.YtbdnkdldmfnilaaGreatAbOpP2
import Derived.Laws.BytesString
namespace Go.Ab
section
variable {C : Cfg} {φ : Phi} {H : Heap} {w : World} {env : Env} {a : Act}

theorem lies_cell {o : Ob} {l : Loc} (h : LiesC φ w o l) {i : Nat} {v : V} (hv : o.cells[i]? = some v) : w.cell? ⟨l.blk, l.base + i, none⟩ = some (conc φ v) := by
  obtain ⟨c, elem, fr, hb, _, _, hc⟩ := h.at_
  simp [World.cell?, hb, hc i v hv]

theorem rd_ok (hr : Rel C φ H w) {id off n : Nat} {vs : List V} (h : H.rd id off n = some vs) :
    ∃ l, φ id = some l ∧ wfL φ vs ∧ vs.length = n ∧ ∀ j v, (concL φ vs)[j]? = some v → w.cell? ⟨l.blk, l.base + off + j, none⟩ = some v := by
  simp only [Heap.rd, Option.bind_eq_bind, Option.bind_eq_some_iff] at h
  obtain ⟨o, ho, h⟩ := h
  split at h
  · rename_i hle
    simp only [Option.some.injEq] at h
    subst h
    obtain ⟨l, hl, hlies⟩ := hr.row ho
    refine ⟨l, hl, wfL_take (wfL_drop hlies.wfc _) _, by simp; omega, ?_⟩
    intro j v hv
    rw [concL_get] at hv
    simp only [Option.map_eq_some_iff] at hv
    obtain ⟨x, hx, rfl⟩ := hv
    rw [List.getElem?_take] at hx
    split at hx
    · rw [List.getElem?_drop] at hx
      rw [Nat.add_assoc]
      exact lies_cell hlies hx
    · cases hx
  · cases h

theorem rd_bound (hr : Rel C φ H w) {id off n : Nat} {vs : List V} (h : H.rd id off n = some vs) :
    ∃ l, φ id = some l ∧ (∃ o, H.gt id = some o ∧ off + n ≤ o.cells.length) ∧ off + n ≤ l.ext := by
  simp only [Heap.rd, Option.bind_eq_bind, Option.bind_eq_some_iff] at h
  obtain ⟨o, ho, h⟩ := h
  split at h
  · rename_i hle
    obtain ⟨l, hl, hlies⟩ := hr.row ho
    exact ⟨l, hl, ⟨o, ho, hle⟩, Nat.le_trans hle hlies.len⟩
  · cases h

theorem load_agg (hr : Rel C φ H w) {id off n : Nat} {vs : List V} (h : H.rd id off n = some vs) {t : TypeId} (ha : isAg C.P t = some true) (hs : szOf C.P t = some n)
    {l : Loc} (hl : φ id = some l) : (loadVar t ⟨l.blk, l.base + off, none⟩).run C.P w = .ok (conc φ (.agg vs)) w := by
  obtain ⟨l', hl', hw, hn, hc⟩ := rd_ok hr h
  rw [hl] at hl'
  cases hl'
  have := run_loadCells_list (P := C.P) w ⟨l.blk, l.base + off, none⟩ (concL φ vs) (fun j v hv => by rw [add_zero_off]; exact hc j v hv)
  rw [concL_length, hn] at this
  simp only [loadVar, Sem.run_bind, isAg_ok ha, Result.andThen, if_true, szOf_ok hs, this, Sem.run_pure, conc]

theorem load_one (hr : Rel C φ H w) {id off : Nat} {vs : List V} {v : V} (h : H.rd id off 1 = some vs) (hv : vs[0]? = some v) {t : TypeId} (ha : isAg C.P t = some false)
    {l : Loc} (hl : φ id = some l) : (loadVar t ⟨l.blk, l.base + off, none⟩).run C.P w = .ok (conc φ v) w := by
  obtain ⟨l', hl', hw, hn, hc⟩ := rd_ok hr h
  rw [hl] at hl'
  cases hl'
  have := hc 0 (conc φ v) (by rw [concL_get, hv]; rfl)
  simp only [Nat.add_zero] at this
  simp only [loadVar, Sem.run_bind, isAg_ok ha, Result.andThen, Bool.false_eq_true, if_false, run_load, this]

theorem bytesOf_ok (φ : Phi) : ∀ (vs : List V) (bs : List UInt8), bytesOf vs = some bs → ∃ ns : List Int, concL φ vs = ns.map (fun n => Value.int .u8 n) ∧ bs = ns.map fun n => UInt8.ofNat n.toNat
  | [], bs, h => by simp only [bytesOf, Option.some.injEq] at h; subst h; exact ⟨[], rfl, rfl⟩
  | v :: vs, bs, h => by
    unfold bytesOf at h
    split at h
    · rename_i e; cases e
    · rename_i n r e
      cases e
      simp only [Option.bind_eq_bind, Option.bind_eq_some_iff, Option.some.injEq] at h
      obtain ⟨bs', hbs, rfl⟩ := h
      obtain ⟨ns, h1, h2⟩ := bytesOf_ok φ _ bs' hbs
      exact ⟨n :: ns, by simp only [concL, conc, h1, List.map_cons], by simp only [h2, List.map_cons]⟩
    · cases h

theorem foldl_push (ns : List Int) : ∀ (b : ByteArray), ns.foldl (fun r n => r.push (UInt8.ofNat n.toNat)) b = ⟨b.data ++ (ns.map fun n => UInt8.ofNat n.toNat).toArray⟩ := by
  induction ns with
  | nil => intro b; simp
  | cons n ns ih =>
    intro b
    simp only [List.foldl_cons, ih]
    apply ByteArray.ext
    show _ = _
    simp only [ByteArray.push]
    apply Array.ext'
    simp

theorem slice_wf_off {id off len z : Nat} {cap : Cap} (hp : wf φ (.sl id off len z cap)) (hlen : 0 < len) : ∃ l, φ id = some l ∧ cap.off l off z = off := by
  obtain ⟨l, hl, hz, hc, ho, hk⟩ := hp
  refine ⟨l, hl, ?_⟩
  cases cap <;> simp only [Cap.off]
  simp only at hk
  omega

theorem bound_ok (hr : Rel C φ H w) (ha : AR φ env a) {x : Operand} {d i : Nat} (h : bnd C env d (some x) = some i) :
    ∃ k, (a.eval x) = .int k (i : Int) := by
  simp only [bnd] at h
  split at h
  · rename_i k n hx
    split at h
    · rename_i h0
      simp only [Option.some.injEq] at h
      subst h
      refine ⟨k, ?_⟩
      rw [(opd_ok hr ha x _ hx).2]
      simp only [conc]
      congr 1
      omega
    · cases h
  · cases h

theorem sliceBound_ok {P : Program} {k : IntKind} {i y : Nat} {code : BoundsCode} (h : i ≤ y) : (Instr.sliceBound (.int k (i : Int)) y code).run P w = .ok i w := by
  have : (0 : Int) ≤ (i : Int) ∧ (i : Int) ≤ (y : Int) := ⟨Int.natCast_nonneg _, by omega⟩
  simp only [Instr.sliceBound, asIntOf, Sem.run_bind, Sem.run_pure, Result.andThen, if_pos this, Int.toNat_natCast]

/-- Bounds without a third index. -/
theorem bounds_ok (hr : Rel C φ H w) (ha : AR φ env a) {isSl : Bool} {len cap l h : Nat} {lo hi : Option Operand} (hh : bnd C env len hi = some h) (hl : bnd C env 0 lo = some l)
    (hlh : l ≤ h) (hhc : h ≤ cap) :
    (Instr.sliceBounds isSl len cap (lo.map a.eval) (hi.map a.eval) none).run C.P w = .ok (l, h, cap) w := by
  cases hi with
  | none =>
    simp only [bnd, Option.some.injEq] at hh
    subst hh
    cases lo with
    | none =>
      simp only [bnd, Option.some.injEq] at hl
      subst hl
      simp only [Instr.sliceBounds, Sem.run_bind, Sem.run_pure, Result.andThen, Option.map_none]
    | some x =>
      obtain ⟨k, hk⟩ := bound_ok hr ha hl
      simp only [Instr.sliceBounds, Sem.run_bind, Sem.run_pure, Result.andThen, Option.map_none, Option.map_some, hk, sliceBound_ok hlh]
  | some xh =>
    obtain ⟨k', hk'⟩ := bound_ok hr ha hh
    cases lo with
    | none =>
      simp only [bnd, Option.some.injEq] at hl
      subst hl
      simp only [Instr.sliceBounds, Sem.run_bind, Sem.run_pure, Result.andThen, Option.map_none, Option.map_some, hk', sliceBound_ok hhc]
    | some x =>
      obtain ⟨k, hk⟩ := bound_ok hr ha hl
      simp only [Instr.sliceBounds, Sem.run_bind, Sem.run_pure, Result.andThen, Option.map_some, hk, hk', sliceBound_ok hhc, sliceBound_ok hlh]

/-- Bounds with a third index. -/
theorem bounds3_ok (hr : Rel C φ H w) (ha : AR φ env a) {isSl : Bool} {len cap l h m : Nat} {lo : Option Operand} {xh xm : Operand} (hh : bnd C env len (some xh) = some h) (hl : bnd C env 0 lo = some l)
    (hm : bnd C env 0 (some xm) = some m) (hlh : l ≤ h) (hhm : h ≤ m) (hmc : m ≤ cap) :
    (Instr.sliceBounds isSl len cap (lo.map a.eval) (some (a.eval xh)) (some (a.eval xm))).run C.P w = .ok (l, h, m) w := by
  obtain ⟨k1, hk1⟩ := bound_ok hr ha hh
  obtain ⟨k2, hk2⟩ := bound_ok hr ha hm
  cases lo with
  | none =>
    simp only [bnd, Option.some.injEq] at hl
    subst hl
    simp only [Instr.sliceBounds, Sem.run_bind, Sem.run_pure, Result.andThen, Option.map_none, hk1, hk2, sliceBound_ok hmc, sliceBound_ok hhm]
  | some x =>
    obtain ⟨k, hk⟩ := bound_ok hr ha hl
    simp only [Instr.sliceBounds, Sem.run_bind, Sem.run_pure, Result.andThen, Option.map_some, hk, hk1, hk2, sliceBound_ok hmc, sliceBound_ok hhm, sliceBound_ok hlh]

/-- Slices are cut by Instr.slice where the type is no array. -/
theorem sliceAt_slice {P : Program} {t e : TypeId} (h : P.underlying t = some (.slice e)) (x : Value) (lo hi mx : Option Value) (w : World) :
    (Instr.sliceAt t x lo hi mx).run P w = (Instr.slice t x lo hi mx).run P w := by
  simp only [Instr.sliceAt, Sem.run_bind, run_underlying h, Result.andThen]
theorem sliceAt_string {P : Program} {t : TypeId} (h : P.underlying t = some .string) (x : Value) (lo hi mx : Option Value) (w : World) :
    (Instr.sliceAt t x lo hi mx).run P w = (Instr.slice t x lo hi mx).run P w := by
  simp only [Instr.sliceAt, Sem.run_bind, run_underlying h, Result.andThen]

/-- What a cut of a slice comes to. -/
theorem slice_run {t e : TypeId} {size : Nat} (hu : C.P.underlying t = some (.slice e)) (hs : szOf C.P e = some size) (ad : Addr) (hsp : ad.spot = none) (len cap l h m : Nat) (lo hi mx : Option Value)
    (hb : (Instr.sliceBounds true len cap lo hi mx).run C.P w = .ok (l, h, m) w) :
    (Instr.slice t (.slice (some ad) len cap) lo hi mx).run C.P w = .ok (.slice (some (if m = l then ad else ⟨ad.block, ad.off + l * size, none⟩)) (h - l) (m - l)) w := by
  obtain ⟨b, o, sp⟩ := ad
  simp only at hsp
  subst hsp
  simp only [Instr.slice, Sem.run_bind, run_underlying hu, Result.andThen, hb, szOf_ok hs, Sem.run_pure]
  by_cases e1 : m = l <;> simp [e1, add_zero_off]

theorem mul_le_of_le_div {k n z : Nat} (h : k ≤ n / z) : k * z ≤ n := Nat.le_trans (Nat.mul_le_mul_right _ h) (Nat.div_mul_le_self _ _)
theorem le_div_of_mul_le {k n z : Nat} (hz : 0 < z) (h : k * z ≤ n) : k ≤ n / z := (Nat.le_div_iff_mul_le hz).2 h

theorem slSl_ok {t e : TypeId} {id off len z size l h : Nat} {cap : Cap} {m : Option Nat} {lo hi mx : Option Operand} {v : V} (hr : Rel C φ H w) (ha : AR φ env a) (hx : wf φ (.sl id off len z cap))
    (hu : C.P.underlying t = some (.slice e)) (hs : szOf C.P e = some size) (h1 : bnd C env len hi = some h) (h2 : bnd C env 0 lo = some l)
    (hm : bndO C env mx = some m) (hmh : m.isSome = true → hi.isNone = false)
    (hv : slSl H size id off len z cap l h m = some v) :
    (Instr.slice t (conc φ (.sl id off len z cap)) (lo.map a.eval) (hi.map a.eval) (mx.map a.eval)).run C.P w = .ok (conc φ v) w ∧ wf φ v := by
  simp only [slSl, Option.bind_eq_bind, Option.bind_eq_some_iff] at hv
  obtain ⟨o, ho, hv⟩ := hv
  split at hv
  case isFalse => cases hv
  rename_i hc
  obtain ⟨rfl, hz0, hlh⟩ := hc
  obtain ⟨lc, hl, -, hlen, hoff, hcap⟩ := hx
  obtain ⟨lc', hl', hlies⟩ := hr.row ho
  rw [hl] at hl'
  cases hl'
  have hext := hlies.len
  -- the bounds, whichever there are
  have hb : ∀ capv m', (m = none → m' = capv ∧ h ≤ capv) → (∀ k, m = some k → m' = k ∧ h ≤ k ∧ k ≤ capv) →
      (Instr.sliceBounds true len capv (lo.map a.eval) (hi.map a.eval) (mx.map a.eval)).run C.P w = .ok (l, h, m') w := by
    intro capv m' q1 q2
    cases mx with
    | none =>
      simp only [bndO, Option.some.injEq] at hm
      obtain ⟨rfl, q⟩ := q1 hm.symm
      exact bounds_ok hr ha h1 h2 hlh q
    | some xm =>
      simp only [bndO, Option.map_eq_some_iff] at hm
      obtain ⟨k, hk, rfl⟩ := hm
      obtain ⟨rfl, q, q'⟩ := q2 k rfl
      cases hi with
      | none => exact absurd (hmh rfl) (by simp)
      | some xh => exact bounds3_ok hr ha h1 h2 hk hlh q q'
  cases cap with
  | ex c =>
    simp only at hcap
    simp only [Cap.val] at hlen
    cases m with
    | none =>
      simp only [] at hv
      split at hv
      · rename_i hc
        simp only [Option.some.injEq] at hv
        subst hv
        have := slice_run (w := w) hu hs ⟨lc.blk, lc.base + off, none⟩ rfl len c l h c _ _ _ (hb c c (fun _ => ⟨rfl, hc⟩) (fun _ e => by cases e))
        simp only [conc, hl, Cap.off, Cap.val]
        rw [this]
        have q : (c - l) * z = c * z - l * z := Nat.sub_mul _ _ _
        have q' : l * z ≤ c * z := Nat.mul_le_mul_right _ (by omega)
        refine ⟨by split <;> simp [Nat.add_assoc], lc, hl, hz0, ?_, ?_, ?_⟩
        · simp only [Cap.val]; omega
        · split <;> omega
        · simp only; split
          · rename_i e1; subst e1; simp; omega
          · omega
      · cases hv
    | some k =>
      simp only [] at hv
      split at hv
      · rename_i hc
        simp only [Option.some.injEq] at hv
        subst hv
        have := slice_run (w := w) hu hs ⟨lc.blk, lc.base + off, none⟩ rfl len c l h k _ _ _ (hb c k (fun e => by cases e) (fun _ e => by cases e; exact ⟨rfl, hc.1, hc.2⟩))
        simp only [conc, hl, Cap.off, Cap.val]
        rw [this]
        have q : (k - l) * z = k * z - l * z := Nat.sub_mul _ _ _
        have q' : l * z ≤ k * z := Nat.mul_le_mul_right _ (by omega)
        have q'' : k * z ≤ c * z := Nat.mul_le_mul_right _ hc.2
        refine ⟨by split <;> simp [Nat.add_assoc], lc, hl, hz0, ?_, ?_, ?_⟩
        · simp only [Cap.val]; omega
        · split <;> omega
        · simp only; split
          · rename_i e1; subst e1; simp; omega
          · omega
      · cases hv
  | full =>
    simp only [Cap.val] at hlen
    have hcov : ∀ k, k ≤ len ∨ off + k * z ≤ o.cells.length → k ≤ (lc.ext - off) / z := by
      intro k hk
      rcases hk with hk | hk
      · omega
      · exact le_div_of_mul_le hz0 (by omega)
    cases m with
    | none =>
      simp only [] at hv
      split at hv
      · rename_i hc
        have hhc := hcov h hc
        have hb1 := slice_run (w := w) hu hs ⟨lc.blk, lc.base + off, none⟩ rfl len ((lc.ext - off) / z) l h ((lc.ext - off) / z) _ _ _ (hb _ _ (fun _ => ⟨rfl, hhc⟩) (fun _ e => by cases e))
        simp only [conc, hl, Cap.off, Cap.val]
        rw [hb1]
        split at hv
        · rename_i hl0
          simp only [Option.some.injEq] at hv
          subst hv
          subst hl0
          refine ⟨?_, lc, hl, hz0, by simpa [Cap.val] using hhc, hoff, trivial⟩
          simp [conc, hl, Cap.off, Cap.val]
        · rename_i hl0
          split at hv
          · rename_i hlt
            simp only [Option.some.injEq] at hv
            subst hv
            have hle := mul_le_of_le_div hhc
            have q1 : l * z ≤ h * z := Nat.mul_le_mul_right _ hlh
            have e1 : (lc.ext - (off + l * z)) / z = (lc.ext - off) / z - l := by
              rw [← Nat.sub_sub, Nat.mul_comm l z, Nat.sub_mul_div]
            refine ⟨?_, lc, hl, hz0, ?_, ?_, trivial⟩
            · simp only [conc, hl, Cap.off, Cap.val, e1]
              rw [if_neg (by omega)]
              simp [Nat.add_assoc]
            · simp only [Cap.val, e1]; omega
            · omega
          · rename_i hlt
            simp only [Option.some.injEq] at hv
            subst hv
            have : h = l := by omega
            subst this
            refine ⟨?_, lc, hl, hz0, by simp, hoff, rfl, hhc⟩
            simp only [conc, hl, Cap.off, Cap.val]
            split <;> simp_all [Nat.add_assoc]
      · cases hv
    | some k =>
      simp only [] at hv
      split at hv
      · rename_i hc
        have hkc := hcov k hc.2
        simp only [Option.some.injEq] at hv
        subst hv
        have := slice_run (w := w) hu hs ⟨lc.blk, lc.base + off, none⟩ rfl len ((lc.ext - off) / z) l h k _ _ _ (hb _ k (fun e => by cases e) (fun _ e => by cases e; exact ⟨rfl, hc.1, hkc⟩))
        simp only [conc, hl, Cap.off, Cap.val]
        rw [this]
        have q : (k - l) * z = k * z - l * z := Nat.sub_mul _ _ _
        have q' : l * z ≤ k * z := Nat.mul_le_mul_right _ (by omega)
        have q'' := mul_le_of_le_div hkc
        refine ⟨by split <;> simp [Nat.add_assoc], lc, hl, hz0, ?_, ?_, ?_⟩
        · simp only [Cap.val]; omega
        · split <;> omega
        · simp only; split
          · rename_i e1; subst e1; simp; omega
          · omega
      · cases hv
  | tail k =>
    simp only at hcap
    obtain ⟨rfl, hk⟩ := hcap
    cases m with
    | none =>
      simp only [] at hv
      split at hv
      · rename_i hh0
        simp only [Option.some.injEq] at hv
        subst hv
        subst hh0
        have hl0 : l = 0 := by omega
        subst hl0
        have := slice_run (w := w) hu hs ⟨lc.blk, lc.base + (Cap.tail k).off lc off z, none⟩ rfl 0 ((Cap.tail k).val lc off z) 0 0 ((Cap.tail k).val lc off z) _ _ _ (hb _ _ (fun _ => ⟨rfl, Nat.zero_le _⟩) (fun _ e => by cases e))
        simp only [conc, hl]
        rw [this]
        refine ⟨?_, lc, hl, hz0, Nat.zero_le _, hoff, rfl, hk⟩
        simp
      · cases hv
    | some k => cases hv

theorem evSlice_ok {t : TypeId} {x v : V} {lo hi mx : Option Operand} (hr : Rel C φ H w) (ha : AR φ env a) (hx : wf φ x) (h : evSlice C env H t x lo hi mx = some v) :
    (Instr.sliceAt t (conc φ x) (lo.map a.eval) (hi.map a.eval) (mx.map a.eval)).run C.P w = .ok (conc φ v) w ∧ wf φ v := by
  unfold evSlice at h
  split at h
  · -- a text
    rename_i s hu
    split at h
    · rename_i hmx
      simp only [slStr, Option.bind_eq_bind, Option.bind_eq_some_iff] at h
      obtain ⟨hh, h1, l, h2, h3⟩ := h
      split at h3
      · rename_i hb
        simp only [Option.some.injEq] at h3
        subst h3
        refine ⟨?_, trivial⟩
        have hm : mx = none := by simpa using hmx
        subst hm
        have := bounds_ok (isSl := false) (cap := s.size) hr ha h1 h2 hb.2 hb.1
        rw [sliceAt_string hu]
        simp only [Instr.slice, Sem.run_bind, run_underlying hu, Result.andThen, conc, Option.map_none, Option.isSome_none, Bool.false_eq_true, if_false, this, Sem.run_pure]
      · cases h3
    · cases h
  · -- a slice's slice
    rename_i e id off len z cap hu
    simp only [Option.bind_eq_bind, Option.bind_eq_some_iff] at h
    obtain ⟨size, hs, hh, h1, l, h2, m, hm, h⟩ := h
    split at h
    · cases h
    · rename_i hmh
      rw [sliceAt_slice hu]
      exact slSl_ok hr ha hx hu hs h1 h2 hm (fun q => by cases hi <;> simp_all) h
  · -- a nil slice
    rename_i e hu
    simp only [Option.bind_eq_bind, Option.bind_eq_some_iff] at h
    obtain ⟨size, hs, hh, h1, l, h2, h3⟩ := h
    split at h3
    · rename_i hb
      simp only [Option.some.injEq] at h3
      subst h3
      obtain ⟨rfl, rfl, hmx⟩ := hb
      refine ⟨?_, trivial⟩
      have hm : mx = none := by simpa using hmx
      subst hm
      have := bounds_ok (isSl := true) (cap := 0) hr ha h1 h2 (Nat.le_refl _) (Nat.le_refl _)
      rw [sliceAt_slice hu]
      simp only [Instr.slice, Sem.run_bind, run_underlying hu, Result.andThen, conc, Option.map_none, this, Sem.run_pure, szOf_ok hs, if_true, Nat.sub_zero]
    · cases h3
  · -- an array's slice
    rename_i n e id off hu
    simp only [Option.bind_eq_bind, Option.bind_eq_some_iff] at h
    obtain ⟨size, hs, hh, h1, l, h2, rs, hrd, h3⟩ := h
    split at h3
    · rename_i hb
      simp only [Option.some.injEq] at h3
      subst h3
      obtain ⟨hmx, hz, hlh, hhn⟩ := hb
      have hm : mx = none := by simpa using hmx
      subst hm
      have := bounds_ok (isSl := false) (cap := n) hr ha h1 h2 hlh hhn
      obtain ⟨lc, hl⟩ := hx
      obtain ⟨lc', hl', -, hbd⟩ := rd_bound hr hrd
      rw [hl] at hl'
      cases hl'
      refine ⟨?_, lc, hl, hz, ?_, ?_, ?_⟩
      · simp only [Instr.sliceAt, Sem.run_bind, run_underlying hu, Result.andThen, conc, hl, Instr.sureAddr, Option.map_none, this, Sem.run_pure, szOf_ok hs, Cap.off, Cap.val]
        by_cases e1 : n = l
        · simp only [e1, if_true]
        · simp only [e1, if_false, add_zero_off, Nat.add_assoc]
      · simp only [Cap.val]; omega
      · split
        · omega
        · have : l * size ≤ n * size := Nat.mul_le_mul_right _ (by omega)
          omega
      · simp only
        have e2 : (n - l) * size = n * size - l * size := Nat.sub_mul _ _ _
        have : l * size ≤ n * size := Nat.mul_le_mul_right _ (by omega)
        split
        · rename_i e3; subst e3; simp; omega
        · omega
    · cases h3
  · cases h

theorem evL_ok {o : Oper} {v : V} (hr : Rel C φ H w) (ha : AR φ env a) (h : evL C env o H = some v) :
    (execOp a.eval o).run C.P w = .ok (.value (conc φ v)) w ∧ wf φ v := by
  obtain ⟨dst, op, type, pos, after, guard⟩ := o
  cases op with
  | load t x =>
    simp only [evL, Option.bind_eq_bind, Option.bind_eq_some_iff] at h
    obtain ⟨xv, hx, h⟩ := h
    have h1 := opd_ok hr ha x _ hx
    cases xv <;> simp only [reduceCtorEq] at h
    rename_i id off
    obtain ⟨l, hl⟩ := h1.1
    simp only [Option.bind_eq_some_iff] at h
    obtain ⟨b, hb, h⟩ := h
    cases b
    · simp only [Option.bind_eq_some_iff] at h
      obtain ⟨vs, hvs, h⟩ := h
      have h2 := load_one hr hvs h hb hl
      obtain ⟨_, _, hw, _⟩ := rd_ok hr hvs
      refine ⟨?_, wfL_get hw h⟩
      simp only [execOp, Instr.loadAt, h1.2, conc, hl, Instr.sureAddr, Sem.run_bind, Sem.run_pure, Result.andThen, h2]
    · simp only [Option.bind_eq_some_iff, Option.some.injEq] at h
      obtain ⟨n, hn, vs, hvs, rfl⟩ := h
      have h2 := load_agg hr hvs hb hn hl
      obtain ⟨_, _, hw, _⟩ := rd_ok hr hvs
      refine ⟨?_, hw⟩
      simp only [execOp, Instr.loadAt, h1.2, conc, hl, Instr.sureAddr, Sem.run_bind, Sem.run_pure, Result.andThen] at h2 ⊢
      rw [h2]
  | convert src dst x =>
    simp only [evL, Option.bind_eq_bind, Option.bind_eq_some_iff] at h
    obtain ⟨d, hd, h⟩ := h
    cases d <;> simp only [reduceCtorEq, Option.bind_eq_some_iff] at h
    rename_i e
    obtain ⟨d2, hd2, h⟩ := h
    cases d2 <;> simp only [reduceCtorEq, Option.bind_eq_some_iff] at h
    obtain ⟨d3, hd3, h⟩ := h
    cases d3 <;> (try simp only [reduceCtorEq] at h)
    rename_i k
    cases k <;> (try simp only [reduceCtorEq, Option.bind_eq_some_iff] at h)
    obtain ⟨xv, hx, h⟩ := h
    have h1 := opd_ok hr ha x _ hx
    split at h
    · simp only [Option.some.injEq] at h
      subst h
      refine ⟨?_, trivial⟩
      simp only [execOp, h1.2, conc, Sem.run_bind, convert, run_underlying hd, run_underlying hd2, run_underlying hd3, Result.andThen]
      rfl
    · rename_i id off len z cap
      simp only [Option.bind_eq_some_iff, Option.some.injEq] at h
      obtain ⟨vs, hvs, bs, hbs, rfl⟩ := h
      refine ⟨?_, trivial⟩
      obtain ⟨ns, hns, rfl⟩ := bytesOf_ok φ vs bs hbs
      obtain ⟨l, hl, hw, hn, hc⟩ := rd_ok hr hvs
      have hnl : ns.length = len := by
        have := congrArg List.length hns
        simpa [concL_length, hn] using this.symm
      simp only [execOp, h1.2, conc, hl, Sem.run_bind, convert, run_underlying hd, run_underlying hd2, run_underlying hd3, Result.andThen]
      by_cases h0 : len = 0
      · subst h0
        have : ns = [] := List.length_eq_zero_iff.1 hnl
        subst this
        rfl
      · obtain ⟨l', hl', hoff⟩ := slice_wf_off h1.1 (by omega)
        rw [hl] at hl'; cases hl'
        rw [hoff]
        have := run_loadCells_list (P := C.P) w ⟨l.blk, l.base + off, none⟩ (concL φ vs) (fun j v hv => by rw [add_zero_off]; exact hc j v hv)
        rw [concL_length, hn, hns] at this
        rw [run_bytesToString w _ len _ ns this, foldl_push]
        have e : (ByteArray.empty.data ++ (ns.map fun n : Int => UInt8.ofNat n.toNat).toArray) = (ns.map fun n : Int => UInt8.ofNat n.toNat).toArray := by
          apply Array.ext'
          simp only [Array.toList_append]
          rfl
        rw [e]
        rfl
    · cases h
  | slice t x lo hi mx =>
    simp only [evL, Option.bind_eq_bind, Option.bind_eq_some_iff] at h
    obtain ⟨xv, hx, h⟩ := h
    have h1 := opd_ok hr ha x _ hx
    have h2 := evSlice_ok hr ha h1.1 h
    refine ⟨?_, h2.2⟩
    simp only [execOp, h1.2, Sem.run_bind, h2.1, Result.andThen, Sem.run_pure]
  | _ => simp [evL] at h
end
end Go.Ab
