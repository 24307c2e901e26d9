/-
  Operations that act: stores, appends, copies, calls.
-/
import Derived.Test.YtbdnkdldmfnilaaGreatAbOpN
namespace Go.Ab
section
variable {C : Cfg} {φ φ0 : Phi} {H H0 H' : Heap} {w w0 : World} {env : Env} {a : Act}

/-- An operation comes to a value. -/
def Does (C : Cfg) (o : Oper) (a : Act) (φ : Phi) (H : Heap) (w : World) (v : V) (H' : Heap) : Prop :=
  ∃ φ' w', ((execOp a.eval o).run C.P w = .ok (.value (conc φ' v)) w' ∨ ((execOp a.eval o).run C.P w = .ok .skip w' ∧ v = V.un)) ∧ Post C φ H w φ' H' w' ∧ wf φ' v

theorem src_ok (hr : Rel C φ H w) {x : V} {sz : Nat} {xs : List V} (hx : wf φ x) (hz : 0 < sz) (h : srcV H sz x = some xs) :
    xs.length = lenV x * sz ∧ wfL φ xs ∧ (Builtin.lenOf (conc φ x)).run C.P w = .ok (lenV x) w ∧
      ∀ n, n ≤ lenV x → (Builtin.firstCells sz n (conc φ x)).run C.P w = .ok (concL φ (xs.take (n * sz))).toArray w := by
  unfold srcV at h
  split at h
  · simp only [Option.some.injEq] at h
    subst h
    refine ⟨by simp [lenV], trivial, rfl, fun n hn => ?_⟩
    simp only [lenV, Nat.le_zero_eq] at hn
    subst hn
    simp [conc, Builtin.firstCells, concL]
  · rename_i id off len sz' cap
    split at h
    · rename_i e
      subst e
      obtain ⟨l, hl, hw, hn, hc⟩ := rd_ok hr h
      obtain ⟨l', hl', hzz, hlen, hoff, hcap⟩ := hx
      rw [hl] at hl'
      cases hl'
      refine ⟨hn, hw, by simp only [conc, hl, Builtin.lenOf, lenV]; rfl, fun n hnl => ?_⟩
      simp only [lenV] at hnl
      simp only [conc, hl, Builtin.firstCells]
      have hln : (xs.take (n * sz')).length = n * sz' := by
        rw [List.length_take, hn]
        exact Nat.min_eq_left (Nat.mul_le_mul_right _ hnl)
      by_cases h0 : n = 0
      · subst h0
        simp [loadCells, loadCellsFrom, concL]
      · have hco : cap.off l off sz' = off := by
          cases cap <;> simp only [Cap.off]
          simp only at hcap
          omega
        rw [hco]
        have := run_loadCells_list (P := C.P) w ⟨l.blk, l.base + off, none⟩ (concL φ (xs.take (n * sz'))) (fun j v hv => by
          rw [add_zero_off]
          refine hc j v ?_
          rw [concL_take, List.getElem?_take] at hv
          split at hv
          · exact hv
          · cases hv)
        rw [concL_length, hln] at this
        exact this
    · cases h
  · rename_i s
    split at h
    · rename_i e
      subst e
      simp only [Option.some.injEq] at h
      subst h
      refine ⟨by simp [lenV], ?_, rfl, fun n hn => ?_⟩
      · rw [wfL_iff]
        intro v hv
        obtain ⟨b, _, rfl⟩ := List.mem_map.1 hv
        trivial
      · simp only [conc, Builtin.firstCells, lenV, Sem.run_pure, Nat.mul_one] at hn ⊢
        congr 1
        apply Array.ext'
        apply List.ext_getElem?
        intro i
        simp only [concL_get, List.getElem?_take, List.getElem?_map, ByteArray.data_extract, Array.toList_map, Array.toList_extract, List.extract_eq_take_drop, Nat.sub_zero, List.drop_zero]
        split <;> simp
        · rename_i hi
          cases s.data[i]? <;> simp [conc]
    · cases h
  · cases h

theorem store_ok {t : TypeId} {x v : Operand} {o : Oper} {u : V} {call : FuncId → List V → Heap → Option (V × Heap)} (ho : o.op = .store t x v) (hr : Rel C φ H w) (ha : AR φ env a)
    (h : evE C call env o H = some (u, H')) : Does C o a φ H w u H' := by
  simp only [evE, ho, Option.bind_eq_bind, Option.bind_eq_some_iff] at h
  obtain ⟨xv, hx, h⟩ := h
  cases xv <;> (try simp only [reduceCtorEq] at h)
  rename_i id off
  simp only [Option.bind_eq_some_iff] at h
  obtain ⟨vv, hv, n, hn, h⟩ := h
  split at h
  case isFalse => cases h
  rename_i hlen
  simp only [Option.bind_eq_some_iff, Option.some.injEq, Prod.mk.injEq] at h
  obtain ⟨H1, hw, rfl, rfl⟩ := h
  have h1 := opd_ok hr ha x _ hx
  have h2 := opd_ok hr ha v _ hv
  obtain ⟨l, hl⟩ := h1.1
  obtain ⟨w', r1, hp⟩ := wr_ok hr hw (wfL_cells h2.1) hl
  refine ⟨φ, w', .inr ⟨?_, rfl⟩, hp, trivial⟩
  have hsz : (concL φ vv.cells).toArray.size = n := by simp [concL_length, hlen]
  have hst : (storeVar t ⟨l.blk, l.base + off, none⟩ (conc φ vv)).run C.P w = .ok () w' := by
    simp only [storeVar, Sem.run_bind, szOf_ok hn, Result.andThen, cells_conc' h2.1, hsz]
    rw [if_neg (by simp)]
    exact r1
  simp only [execOp, ho, Instr.storeAt, h1.2, h2.2, Sem.run_bind, conc, hl, Instr.sureAddr, Sem.run_pure, Result.andThen] at hst ⊢
  rw [hst]

theorem take_all {l : List V} {n : Nat} (h : l.length = n) : l.take n = l := List.take_of_length_le (by omega)

/-- append within the room that there is. -/
theorem append_room {t tx ty e : TypeId} {info : TypeInfo} {dx : TypeDesc} (ht : C.P.underlying t = some (.slice e)) (hi : C.P.info? e = some info) (htx : C.P.underlying tx = some dx) (hd : ∀ k, dx ≠ .int k)
    {base : Option Addr} {sLen sCap n : Nat} {X : Value} {new : Array Value} (h1 : (Builtin.lenOf X).run C.P w = .ok n w) (h2 : (Builtin.firstCells info.size n X).run C.P w = .ok new w) (h3 : sLen + n ≤ sCap) :
    (Builtin.append_ #[t, tx] ty #[.slice base sLen sCap, X]).run C.P w =
      (match base with | some ad => (storeCells (ad.add (sLen * info.size)) new.toList).run C.P w | none => .ok () w).andThen fun _ w' => .ok (.slice base (sLen + n) sCap) w' := by
  have _ := hd
  have hsz : (sizeOf e).run C.P w = .ok info.size w := by simp [sizeOf, typeInfo, hi]
  cases base with
  | none => simp [Builtin.append_, run_underlying ht, run_underlying htx, hsz, h1, h2, h3, Result.andThen]
  | some ad => simp [Builtin.append_, run_underlying ht, run_underlying htx, hsz, h1, h2, h3, Result.andThen]

/-- append where there is no room. -/
theorem append_grow {t tx ty e : TypeId} {info : TypeInfo} {dx : TypeDesc} {z : Value} (ht : C.P.underlying t = some (.slice e)) (hi : C.P.info? e = some info) (htx : C.P.underlying tx = some dx) (hd : ∀ k, dx ≠ .int k)
    (hzv : info.zero = some z)
    {base : Option Addr} {sLen sCap n : Nat} {X : Value} {new old : Array Value} (h1 : (Builtin.lenOf X).run C.P w = .ok n w) (h2 : (Builtin.firstCells info.size n X).run C.P w.drew = .ok new w.drew)
    (h2' : (Builtin.firstCells info.size sLen (.slice base sLen sCap)).run C.P w.drew = .ok old w.drew) (h3 : sCap < sLen + n) (hb : 0 < info.bytes) (hfit : (sLen + n) * info.bytes ≤ 2 ^ 47) :
    (Builtin.append_ #[t, tx] ty #[.slice base sLen sCap, X]).run C.P w =
      .ok (.slice (some ⟨w.heap.size, 0, none⟩) (sLen + n) (grownCap w (sLen + n) sCap e))
        (w.drew.alloc (.cells (old ++ new ++ Builtin.zeroCells z.cells (grownCap w (sLen + n) sCap e - (sLen + n))) e)) := by
  have _ := hd
  have hsz : (sizeOf e).run C.P w = .ok info.size w := by simp [sizeOf, typeInfo, hi]
  have hn : ¬ (sLen + n ≤ sCap) := by omega
  have hle : sLen + n ≤ (sLen + n) * info.bytes := Nat.le_mul_of_pos_right _ hb
  have h63' : ¬ (9223372036854775807 < ((sLen : Int) + (n : Int))) := by omega
  have hb0 : ¬ info.bytes = 0 := by omega
  have h48 := growslice_fits (bytes := info.bytes) h3 (by omega)
  have h48' : ¬ (281474976710656 < Builtin.nextslicecap (sLen + n) sCap * info.bytes) := by omega
  simp [Builtin.append_, run_underlying ht, run_underlying htx, hsz, h1, typeInfo, zeroValue, hi, hzv, hn, h63', h48', Question.forced, h2, h2', newRow, grownCap]

theorem new_get (H : Heap) (cells : List V) (j : Nat) : (H.new cells).2.get j = if j = H.next then some ⟨cells, false⟩ else H.get j := by
  simp only [Heap.new, Heap.get]
  exact Tr.get_set _ _ _ _
theorem new_next (H : Heap) (cells : List V) : (H.new cells).2.next = H.next + 1 := rfl
theorem zeroCells_size (z : Array Value) (n : Nat) : (Builtin.zeroCells z n).size = n * z.size := by simp [Builtin.zeroCells]
theorem next_none (hr : Rel C φ H w) : φ H.next = none := by
  cases h : φ H.next with
  | none => rfl
  | some l => exact absurd (hr.dom _ l h).1 (Nat.lt_irrefl _)
theorem Rel.drew (hr : Rel C φ H w) : Rel C φ H w.drew := ((Post.refl hr).same (w' := w.drew) rfl rfl rfl rfl).rel

theorem grown_ge (w : World) (need old : Nat) (e : TypeId) : need ≤ grownCap w need old e := by
  unfold grownCap
  simp only [Question.cut]
  exact Nat.le_add_right _ _

/-- append makes a new row. -/
theorem post_grown {e : TypeId} {info : TypeInfo} {z : Value} {olds xs : List V} {H1 : Heap} {need g : Nat} (hp : Post C φ H w φ H w) (hget : ∀ j, H1.get j = if j = H.next then some ⟨olds ++ xs, false⟩ else H.get j) (hn : H1.next = H.next + 1)
    (hwf : wfL φ (olds ++ xs)) (hlen : (olds ++ xs).length = need * info.size) (hz : z.cells.size = info.size) (hg : need ≤ g) :
    Post C φ H w (upd φ H.next ⟨w.heap.size, 0, g * info.size⟩) H1 (w.drew.alloc (.cells ((concL φ olds).toArray ++ (concL φ xs).toArray ++ Builtin.zeroCells z.cells (g - need)) e)) := by
  have hd := hp.same (w' := w.drew) rfl rfl rfl rfl
  refine hd.alloc (w' := w.drew.alloc (.cells ((concL φ olds).toArray ++ (concL φ xs).toArray ++ Builtin.zeroCells z.cells (g - need)) e)) (elem := e)
    (c := (concL φ olds).toArray ++ (concL φ xs).toArray ++ Builtin.zeroCells z.cells (g - need)) (next_none hp.rel) (Nat.le_refl _) (by omega) (by omega) hget rfl rfl rfl rfl (free_zero _ _) ?_ ?_ hwf ?_
  · simp only [Array.size_append, zeroCells_size, hz, List.size_toArray, concL_length]
    rw [List.length_append] at hlen
    have : (g - need) * info.size = g * info.size - need * info.size := Nat.sub_mul _ _ _
    have : need * info.size ≤ g * info.size := Nat.mul_le_mul_right _ hg
    omega
  · rw [hlen]
    exact Nat.mul_le_mul_right _ hg
  · intro i v hv
    have hi : i < (olds ++ xs).length := (List.getElem?_eq_some_iff.1 hv).1
    rw [← Array.getElem?_toList]
    simp only [Array.toList_append]
    rw [List.getElem?_append_left (by simp only [List.length_append, concL_length] at hi ⊢; omega)]
    rw [← concL_append, concL_get, hv]
    rfl

/-- append in place, to the end of what is known of the object: another number for it. -/
theorem post_tail {id off k : Nat} {o : Ob} {l : Loc} {xs : List V} {H1 : Heap} (hr : Rel C φ H w) (ho : H.gt id = some o) (hro : o.ro = false) (hl : φ id = some l)
    (hend : off + k = o.cells.length) (hroom : off + k + xs.length ≤ l.ext) (hone : xs.all V.one = true) (hwf : wfL φ xs) (hoff : off ≤ o.cells.length)
    (hget : ∀ j, H1.get j = if j = H.next then some ⟨o.cells.drop off ++ xs, false⟩ else if j = id then none else H.get j) (hn : H1.next = H.next + 1) :
    ∃ w', (storeCells ⟨l.blk, l.base + (off + k), none⟩ (concL φ xs)).run C.P w = .ok () w' ∧ Post C φ H w (upd φ H.next ⟨l.blk, l.base + off, l.ext - off⟩) H1 w' := by
  obtain ⟨l', hl', hlies⟩ := hr.row ho
  have ho := (Heap.gt_some ho).1
  rw [hl] at hl'
  cases hl'
  obtain ⟨⟨c, elem, fr, hb, hsz, hfr, hcell⟩, hlen, hwfo⟩ := hlies
  have hfr := hfr hro
  obtain ⟨w', c', r1, r2, r3, r4, r5, r6, r7, r8, r9⟩ := store_list (P := C.P) (l.base + (off + k)) (concL φ xs) 0 c w hb (by rw [concL_length]; omega)
    (fun q h1 h2 => hfr q (by omega) (by rw [concL_length] at h2; omega)) (one_concL hone hwf)
  refine ⟨w', r1, ?_⟩
  refine (Post.refl hr).block (H' := H1) (id' := H.next) (l' := ⟨l.blk, l.base + off, l.ext - off⟩) (cells := o.cells.drop off ++ xs) (c' := c') (w' := w') ho hro hl (by omega) (by omega) (.inr ⟨next_none hr, Nat.le_refl _⟩)
    hget hb hfr rfl (by simp) (by simp only; omega) hsz r2 r3 r4 r5 r6 r7 r8 ?_ ((wfL_append _ _ _).2 ⟨wfL_drop hwfo _, hwf⟩) ?_
  · simp only [List.length_append, List.length_drop]; omega
  · intro i v hv
    show c'[l.base + off + i]? = _
    rw [r9, concL_length]
    by_cases h1 : i < k
    · rw [List.getElem?_append_left (by rw [List.length_drop]; omega), List.getElem?_drop] at hv
      rw [if_neg (by omega)]
      have := hcell (off + i) v hv
      rw [← this]
      congr 1
      omega
    · rw [List.getElem?_append_right (by rw [List.length_drop]; omega), List.length_drop] at hv
      have hi := (List.getElem?_eq_some_iff.1 hv).1
      rw [if_pos (by omega), concL_get, show l.base + off + i - (l.base + (off + k) + 0) = i - (o.cells.length - off) by omega, hv]
      rfl

theorem append_ok {o : Oper} {args : Array Operand} {ts : Array TypeId} {u : V} {call : FuncId → List V → Heap → Option (V × Heap)} (ho : o.op = .call ⟨.builtin .append, args, ts⟩) (hr : Rel C φ H w) (ha : AR φ env a)
    (h : evE C call env o H = some (u, H')) : Does C o a φ H w u H' := by
  simp only [evE, ho, Option.bind_eq_bind, Option.bind_eq_some_iff] at h
  obtain ⟨t, ht, d, hd, h⟩ := h
  cases d <;> (try simp only [reduceCtorEq] at h)
  rename_i e
  simp only [Option.bind_eq_some_iff] at h
  obtain ⟨info, hi, zv, hz, s0, hs0, s, hs, x0, hx0, x, hx, tx, htx, dx, hdx, h⟩ := h
  have hdn : ∀ k, dx ≠ .int k := by rintro k rfl; simp at h
  replace h : (if (args.size = 2 ∧ ts.size = 2) ∧ 0 < info.size ∧ 0 < info.bytes ∧ zv.cells.length = info.size then evAppend H info.size info.bytes s x else none) = some (u, H') := by
    cases dx <;> first | exact h | exact absurd rfl (hdn _)
  split at h
  case isFalse => cases h
  rename_i hc
  obtain ⟨⟨hargs, hts⟩, hsz0, hby0, hzl⟩ := hc
  have h1 := opd_ok hr ha s0 _ hs
  have h2 := opd_ok hr ha x0 _ hx
  have eargs : args.map a.eval = #[conc φ s, conc φ x] := by
    apply Array.ext
    · simp [hargs]
    · intro i hi1 hi2
      simp only [List.size_toArray, List.length_cons, List.length_nil] at hi2
      have : i = 0 ∨ i = 1 := by omega
      rcases this with rfl | rfl
      · have := (Array.getElem?_eq_some_iff.1 hs0).2
        simp [this, h1.2]
      · have := (Array.getElem?_eq_some_iff.1 hx0).2
        simp [this, h2.2]
  have ets : ts = #[t, tx] := by
    apply Array.ext
    · simp [hts]
    · intro i hi1 hi2
      simp only [List.size_toArray, List.length_cons, List.length_nil] at hi2
      have : i = 0 ∨ i = 1 := by omega
      rcases this with rfl | rfl
      · simpa using (Array.getElem?_eq_some_iff.1 ht).2
      · simpa using (Array.getElem?_eq_some_iff.1 htx).2
  have eop : ∀ (R : Result Value), (Builtin.append_ #[t, tx] o.type #[conc φ s, conc φ x]).run C.P w = R → (execOp a.eval o).run C.P w = R.andThen fun v w' => .ok (.value v) w' := by
    intro R hR
    simp only [execOp, ho, resolve, invoke, builtin, eargs, ets, Sem.run_bind, Sem.run_pure, Result.andThen, hR]
  have hz1 := zeroOf_ok (φ := φ) hz w
  obtain ⟨z, hzi⟩ : ∃ z, info.zero = some z ∧ z.cells.size = info.size := by
    simp only [zeroOf, hi, Option.bind_eq_bind, Option.bind_some, Option.bind_eq_some_iff] at hz
    obtain ⟨z, hz', hc⟩ := hz
    refine ⟨z, hz', ?_⟩
    have := ofCon_ok φ z zv hc
    rw [← this.2, cells_conc' this.1]
    simp [concL_length, hzl]
  simp only [evAppend, Option.bind_eq_bind, Option.bind_eq_some_iff] at h
  obtain ⟨xs, hxs, h⟩ := h
  obtain ⟨q1, q2, q3, q4⟩ := src_ok hr h2.1 hsz0 hxs
  obtain ⟨-, -, -, q4d⟩ := src_ok hr.drew h2.1 hsz0 hxs
  have q5 := q4 (lenV x) (Nat.le_refl _)
  have q5d := q4d (lenV x) (Nat.le_refl _)
  rw [take_all q1] at q5 q5d
  split at h
  · -- nothing is appended
    rename_i hn0
    rw [hn0] at q3 q5
    have hxs0 : xs = [] := by
      rw [hn0, Nat.zero_mul] at q1
      exact List.length_eq_zero_iff.1 q1
    subst hxs0
    split at h
    · simp only [Option.some.injEq, Prod.mk.injEq] at h
      obtain ⟨rfl, rfl⟩ := h
      have := append_room (w := w) (ty := o.type) (base := none) (sLen := 0) (sCap := 0) hd hi hdx hdn q3 q5 (Nat.le_refl _)
      refine ⟨φ, w, .inl ?_, .refl hr, h1.1⟩
      rw [eop _ (by simpa [conc] using this)]
      simp [conc, Result.andThen]
    · rename_i id off len sz cap
      simp only [Option.some.injEq, Prod.mk.injEq] at h
      obtain ⟨rfl, rfl⟩ := h
      obtain ⟨l, hl, hz0, hlen, hoff, hcap⟩ := h1.1
      have := append_room (w := w) (ty := o.type) (base := some ⟨l.blk, l.base + cap.off l off sz, none⟩) (sLen := len) (sCap := cap.val l off sz) hd hi hdx hdn q3 q5 (by omega)
      refine ⟨φ, w, .inl ?_, .refl hr, h1.1⟩
      rw [eop _ (by simpa [conc, hl] using this)]
      simp [conc, hl, concL, storeCells, Result.andThen]
    · cases h
  · rename_i hn0
    split at h
    · cases h
    · rename_i hone
      have hone : xs.all V.one = true := by simpa using hone
      split at h
      · -- onto nil
        split at h
        case isFalse => cases h
        rename_i hfit
        simp only [Option.some.injEq, Prod.mk.injEq] at h
        obtain ⟨rfl, rfl⟩ := h
        have hg := append_grow (w := w) (ty := o.type) (base := none) (sLen := 0) (sCap := 0) (old := #[]) hd hi hdx hdn hzi.1 q3 q5d (by simp [Builtin.firstCells]) (by omega) hby0 (by simpa using hfit)
        refine ⟨_, _, .inl ?_, post_grown (olds := []) (xs := xs) (need := lenV x) (g := grownCap w (0 + lenV x) 0 e) (e := e) (.refl hr) (fun j => by rw [new_get]; rfl) rfl (by simpa using q2) (by simpa using q1) hzi.2 (by simpa using grown_ge w (0 + lenV x) 0 e), ?_⟩
        · rw [eop _ (by simpa [conc] using hg)]
          simp [conc, upd_self, Cap.off, Cap.val, concL, Result.andThen, Nat.mul_div_cancel _ hsz0]
        · refine ⟨_, upd_self _ _ _, hsz0, ?_, Nat.zero_le _, trivial⟩
          simp only [Cap.val, Nat.sub_zero, Nat.mul_div_cancel _ hsz0]
          simpa using grown_ge w (0 + lenV x) 0 e
      · rename_i id off len sz cap
        split at h
        · cases h
        rename_i hsze
        have hsze : sz = info.size := by simpa using hsze
        subst hsze
        obtain ⟨l, hl, hz0, hlen, hoff, hcap⟩ := h1.1
        cases cap with
        | ex c =>
          simp only [] at h
          simp only [Cap.val] at hlen
          split at h
          · rename_i hlt
            simp only [Option.bind_eq_some_iff] at h
            obtain ⟨old, hold, h⟩ := h
            split at h
            case isFalse => cases h
            rename_i hfit
            simp only [Option.some.injEq, Prod.mk.injEq] at h
            obtain ⟨rfl, rfl⟩ := h
            obtain ⟨p1, p2, -, p4⟩ := src_ok (x := .sl id off len info.size (.ex c)) hr.drew h1.1 hsz0 (by simp only [srcV, if_true]; exact hold)
            have p5 := p4 len (by simp [lenV])
            simp only [lenV] at p1
            rw [take_all p1] at p5
            have hg := append_grow (w := w) (ty := o.type) (base := some ⟨l.blk, l.base + off, none⟩) (sLen := len) (sCap := c) hd hi hdx hdn hzi.1 q3 q5d (by simpa [conc, hl, Cap.off, Cap.val] using p5) hlt hby0 hfit
            refine ⟨_, _, .inl ?_, post_grown (olds := old) (xs := xs) (need := len + lenV x) (g := grownCap w (len + lenV x) c e) (e := e) (.refl hr) (fun j => by rw [new_get]) rfl ((wfL_append _ _ _).2 ⟨p2, q2⟩) (by rw [List.length_append, p1, q1, Nat.add_mul]) hzi.2 (grown_ge _ _ _ _), ?_⟩
            · rw [eop _ (by simpa [conc, hl, Cap.off, Cap.val] using hg)]
              simp [conc, upd_self, Cap.off, Cap.val, Result.andThen, Nat.mul_div_cancel _ hsz0]
            · refine ⟨_, upd_self _ _ _, hsz0, ?_, Nat.zero_le _, trivial⟩
              simp only [Cap.val, Nat.sub_zero, Nat.mul_div_cancel _ hsz0]
              exact grown_ge _ _ _ _
          · rename_i hlt
            simp only [Option.bind_eq_some_iff, Option.some.injEq, Prod.mk.injEq] at h
            obtain ⟨H1, hw1, rfl, rfl⟩ := h
            obtain ⟨w', r1, hp⟩ := wr_ok hr hw1 q2 hl
            have hg := append_room (w := w) (ty := o.type) (base := some ⟨l.blk, l.base + off, none⟩) (sLen := len) (sCap := c) hd hi hdx hdn q3 q5 (by omega)
            refine ⟨φ, w', .inl ?_, hp, ⟨l, hl, hz0, by simp only [Cap.val]; omega, hoff, hcap⟩⟩
            rw [eop _ (by simpa [conc, hl, Cap.off, Cap.val] using hg)]
            (try simp only [add_zero_off, Nat.add_assoc] at r1 ⊢)
            simp [conc, hl, Cap.off, Cap.val, Result.andThen, r1]
        | full =>
          simp only [Option.bind_eq_some_iff] at h
          obtain ⟨ob, hob, h⟩ := h
          simp only [Cap.val] at hlen
          obtain ⟨l2, hl2, hlies⟩ := hr.row hob
          rw [hl] at hl2
          cases hl2
          split at h
          · rename_i hend
            split at h
            case isFalse => cases h
            rename_i hfit
            obtain ⟨hro, hfit⟩ := hfit
            simp only [Option.some.injEq, Prod.mk.injEq] at h
            obtain ⟨rfl, rfl⟩ := h
            have hle := hlies.len
            by_cases hroom : len + lenV x ≤ (l.ext - off) / info.size
            · -- there is room
              have hm := mul_le_of_le_div hroom
              rw [Nat.add_mul] at hm
              obtain ⟨w', r1, hp⟩ := post_tail (H1 := ((H.set id none).new (ob.cells.drop off ++ xs)).2) (k := len * info.size) hr hob hro hl hend (by rw [q1]; omega) hone q2 (by omega)
                (fun j => by rw [new_get, Heap.get_set]; rfl) rfl
              have hg := append_room (w := w) (ty := o.type) (base := some ⟨l.blk, l.base + off, none⟩) (sLen := len) (sCap := (l.ext - off) / info.size) hd hi hdx hdn q3 q5 hroom
              refine ⟨_, w', .inl ?_, hp, ⟨_, upd_self _ _ _, hsz0, by simpa [Cap.val] using hroom, Nat.zero_le _, trivial⟩⟩
              rw [eop _ (by simpa [conc, hl, Cap.off, Cap.val] using hg)]
              (try simp only [add_zero_off, Nat.add_assoc] at r1 ⊢)
              simp [conc, upd_self, Cap.off, Cap.val, Result.andThen, r1]
            · -- there is none
              have hrd : H.rd id off (len * info.size) = some (ob.cells.drop off) := by
                simp only [Heap.rd, hob, Option.bind_eq_bind, Option.bind_some]
                rw [if_pos (by omega), List.take_of_length_le (by rw [List.length_drop]; omega)]
              obtain ⟨p1, p2, -, p4⟩ := src_ok (x := .sl id off len info.size .full) hr.drew h1.1 hsz0 (by simp only [srcV, if_true]; exact hrd)
              have p5 := p4 len (by simp [lenV])
              simp only [lenV] at p1
              rw [take_all p1] at p5
              have hg := append_grow (w := w) (ty := o.type) (base := some ⟨l.blk, l.base + off, none⟩) (sLen := len) (sCap := (l.ext - off) / info.size) hd hi hdx hdn hzi.1 q3 q5d (by simpa [conc, hl, Cap.off, Cap.val] using p5) (by omega) hby0 hfit
              have hpg := post_grown (H1 := (H.new (ob.cells.drop off ++ xs)).2) (olds := ob.cells.drop off) (xs := xs) (need := len + lenV x) (g := grownCap w (len + lenV x) ((l.ext - off) / info.size) e) (e := e) (z := z) (info := info) (.refl hr) (fun j => by rw [new_get]) rfl ((wfL_append _ _ _).2 ⟨p2, q2⟩) (by rw [List.length_append, p1, q1, Nat.add_mul]) hzi.2 (grown_ge _ _ _ _)
              refine ⟨_, _, .inl ?_, hpg.less (H' := ((H.set id none).new (ob.cells.drop off ++ xs)).2) rfl (fun j o' hj => ?_) (fun j hj hn => ?_), ?_⟩
              · rw [eop _ (by simpa [conc, hl, Cap.off, Cap.val] using hg)]
                simp [conc, upd_self, Cap.off, Cap.val, Result.andThen, Nat.mul_div_cancel _ hsz0]
              · rw [new_get, Heap.get_set, Heap.next_set] at hj
                rw [new_get]
                split at hj
                · rename_i ej
                  rw [if_pos ej]; exact hj
                · rename_i ej
                  rw [if_neg ej]
                  split at hj
                  · cases hj
                  · exact hj
              · rw [new_get, Heap.get_set, if_neg (by show ¬ j = H.next; omega)]
                split
                · rfl
                · exact hn
              · refine ⟨_, upd_self _ _ _, hsz0, ?_, Nat.zero_le _, trivial⟩
                simp only [Cap.val, Nat.sub_zero, Nat.mul_div_cancel _ hsz0]
                exact grown_ge _ _ _ _
          · simp only [Option.bind_eq_some_iff, Option.some.injEq, Prod.mk.injEq] at h
            obtain ⟨H1, hw1, rfl, rfl⟩ := h
            obtain ⟨w', r1, hp⟩ := wr_ok hr hw1 q2 hl
            have hroom : len + lenV x ≤ (l.ext - off) / info.size := by
              refine le_div_of_mul_le hsz0 ?_
              simp only [Heap.wr, hob, Option.bind_eq_bind, Option.bind_some] at hw1
              split at hw1
              · rename_i hcc
                have := hlies.len
                rw [q1] at hcc
                rw [Nat.add_mul]
                omega
              · cases hw1
            have hg := append_room (w := w) (ty := o.type) (base := some ⟨l.blk, l.base + off, none⟩) (sLen := len) (sCap := (l.ext - off) / info.size) hd hi hdx hdn q3 q5 hroom
            refine ⟨φ, w', .inl ?_, hp, ⟨l, hl, hz0, by simpa [Cap.val] using hroom, hoff, trivial⟩⟩
            rw [eop _ (by simpa [conc, hl, Cap.off, Cap.val] using hg)]
            (try simp only [add_zero_off, Nat.add_assoc] at r1 ⊢)
            simp [conc, hl, Cap.off, Cap.val, Result.andThen, r1]
        | tail k =>
          simp only [Option.bind_eq_some_iff] at h
          obtain ⟨ob, hob, h⟩ := h
          split at h
          case isFalse => cases h
          rename_i hcc
          obtain ⟨hend, hro, rfl, hfit⟩ := hcc
          simp only [Option.some.injEq, Prod.mk.injEq] at h
          obtain ⟨rfl, rfl⟩ := h
          obtain ⟨l2, hl2, hlies⟩ := hr.row hob
          rw [hl] at hl2
          cases hl2
          have hle := hlies.len
          simp only at hcap
          by_cases hroom : lenV x ≤ (l.ext - off) / info.size - k
          · have hm := mul_le_of_le_div (show k + lenV x ≤ (l.ext - off) / info.size by omega)
            rw [Nat.add_mul] at hm
            obtain ⟨w', r1, hp⟩ := post_tail (H1 := ((H.set id none).new xs).2) (off := off + k * info.size) (k := 0) hr hob hro hl (by omega) (by rw [q1]; omega) hone q2 (by omega)
              (fun j => by
                rw [new_get, Heap.get_set, List.drop_of_length_le (by omega)]
                rfl) rfl
            have hne : ¬ (l.ext - off) / info.size = k := by omega
            have hg := append_room (w := w) (ty := o.type) (base := some ⟨l.blk, l.base + (off + k * info.size), none⟩) (sLen := 0) (sCap := (l.ext - off) / info.size - k) hd hi hdx hdn q3 q5 (by omega)
            have e1 : (l.ext - (off + k * info.size)) / info.size = (l.ext - off) / info.size - k := by
              rw [← Nat.sub_sub, Nat.mul_comm k info.size, Nat.sub_mul_div]
            refine ⟨_, w', .inl ?_, hp, ⟨_, upd_self _ _ _, hsz0, ?_, Nat.zero_le _, trivial⟩⟩
            · rw [eop _ (by simpa [conc, hl, Cap.off, Cap.val, hne] using hg)]
              (try simp only [add_zero_off, Nat.add_zero] at r1 ⊢)
              simp [conc, upd_self, Cap.off, Cap.val, Result.andThen, r1, e1]
            · simpa [Cap.val, e1] using hroom
          · have hg := append_grow (w := w) (ty := o.type) (base := some ⟨l.blk, l.base + (Cap.tail k).off l off info.size, none⟩) (sLen := 0) (sCap := (l.ext - off) / info.size - k) (old := #[]) hd hi hdx hdn hzi.1 q3 q5d (by simp [Builtin.firstCells, loadCells, loadCellsFrom]) (by omega) hby0 (by simpa using hfit)
            have hpg := post_grown (H1 := (H.new xs).2) (olds := []) (xs := xs) (need := lenV x) (g := grownCap w (0 + lenV x) ((l.ext - off) / info.size - k) e) (e := e) (z := z) (info := info) (.refl hr) (fun j => by rw [new_get]; rfl) rfl (by simpa using q2) (by simpa using q1) hzi.2 (by simpa using grown_ge w (0 + lenV x) ((l.ext - off) / info.size - k) e)
            refine ⟨_, _, .inl ?_, hpg.less (H' := ((H.set id none).new xs).2) rfl (fun j o' hj => ?_) (fun j hj hn => ?_), ?_⟩
            · rw [eop _ (by simpa [conc, hl, Cap.val] using hg)]
              simp [conc, upd_self, Cap.off, Cap.val, concL, Result.andThen, Nat.mul_div_cancel _ hsz0]
            · rw [new_get, Heap.get_set, Heap.next_set] at hj
              rw [new_get]
              split at hj
              · rename_i ej
                rw [if_pos ej]; exact hj
              · rename_i ej
                rw [if_neg ej]
                split at hj
                · cases hj
                · exact hj
            · rw [new_get, Heap.get_set, if_neg (by show ¬ j = H.next; omega)]
              split
              · rfl
              · exact hn
            · refine ⟨_, upd_self _ _ _, hsz0, ?_, Nat.zero_le _, trivial⟩
              simp only [Cap.val, Nat.sub_zero, Nat.mul_div_cancel _ hsz0]
              simpa using grown_ge w (0 + lenV x) ((l.ext - off) / info.size - k) e
      · cases h
end
end Go.Ab
