/-
  Operations that make an object.
-/
import Derived.Test.YtbdnkdldmfnilaaGreatAbPost
import Derived.Laws.NewFold
import Derived.IntWalk
namespace Go.Ab
section
variable {C : Cfg} {φ φ0 : Phi} {H H0 H' : Heap} {w w0 : World} {env : Env} {a : Act}

theorem zerosV_get (z : List V) (hz : 0 < z.length) : ∀ (n i : Nat), i < n * z.length → (zerosV z n)[i]? = z[i % z.length]?
  | 0, i, h => by omega
  | n + 1, i, h => by
    rw [Nat.succ_mul] at h
    simp only [zerosV, List.replicate_succ, List.flatten_cons]
    by_cases h1 : i < z.length
    · rw [List.getElem?_append_left h1, Nat.mod_eq_of_lt h1]
    · rw [List.getElem?_append_right (by omega)]
      have := zerosV_get z hz n (i - z.length) (by omega)
      simp only [zerosV] at this
      rw [this, ← Nat.mod_eq_sub_mod (by omega)]
theorem zerosV_length (z : List V) (n : Nat) : (zerosV z n).length = n * z.length := by
  simp [zerosV, List.length_flatten]
theorem wfL_zeros {z : List V} (h : wfL φ z) (n : Nat) : wfL φ (zerosV z n) := by
  rw [wfL_iff]
  intro v hv
  simp only [zerosV, List.mem_flatten, List.mem_replicate] at hv
  obtain ⟨l, ⟨_, rfl⟩, hv⟩ := hv
  exact (wfL_iff _ _).1 h v hv

/-- The model's zero cells. -/
theorem zeros_eq (φ : Phi) (z : List V) (zc : Array Value) (hzc : zc = (concL φ z).toArray) (hz : 0 < z.length) (n : Nat) :
    ((Array.range (n * z.length)).map fun i => zc[i % zc.size]!) = (concL φ (zerosV z n)).toArray := by
  apply Array.ext'
  apply List.ext_getElem?
  intro i
  have hs : zc.size = z.length := by rw [hzc]; simp [concL_length]
  simp only [Array.toList_map, Array.toList_range, List.getElem?_map, concL_get, hs]
  by_cases h : i < n * z.length
  · rw [List.getElem?_range h, zerosV_get z hz n i h]
    have hm : i % z.length < z.length := Nat.mod_lt _ hz
    rw [List.getElem?_eq_getElem hm]
    have e : zc[i % z.length]? = some (conc φ z[i % z.length]) := by
      rw [hzc]
      simp [concL_get, List.getElem?_eq_getElem hm]
    simp only [Option.map_some, getElem!_def, e]
  · rw [List.getElem?_eq_none (by simpa using h), List.getElem?_eq_none (by rw [zerosV_length]; omega)]
    rfl

theorem free_zero (lo hi : Nat) : Free (0, 0) lo hi := fun _ _ _ h => by simp at h

/-- Parts of a literal, in the world. -/
theorem parts_ok (hr : Rel C φ H w) (ha : AR φ env a) {parts : Array (Nat × Operand)} {vs : List V} (hvs : opds C env (parts.toList.map (·.2)) = some vs) :
    (parts.map fun x => (x.1, a.eval x.2)).toList = (((parts.toList.map (·.1)).zip vs).map fun p => (p.1, conc φ p.2)) ∧ wfL φ (((parts.toList.map (·.1)).zip vs).map (·.2)) := by
  have hv1 := opds_ok hr ha _ _ hvs
  have hlen : vs.length = parts.toList.length := by
    have := congrArg List.length hv1.2
    simpa [concL_length] using this.symm
  refine ⟨?_, ?_⟩
  · simp only [Array.toList_map]
    apply List.ext_getElem?
    intro i
    have hg := congrArg (·[i]?) hv1.2
    simp only [List.getElem?_map, concL_get] at hg
    simp only [List.getElem?_map]
    cases hp : parts.toList[i]? with
    | none =>
      have : vs[i]? = none := by
        rw [List.getElem?_eq_none_iff] at hp ⊢
        omega
      simp [List.zip, List.getElem?_zipWith, hp, this]
    | some q =>
      have hvi : ∃ u, vs[i]? = some u := by
        have : i < vs.length := by rw [hlen]; exact (List.getElem?_eq_some_iff.1 hp).1
        exact ⟨_, List.getElem?_eq_getElem this⟩
      obtain ⟨u, hu⟩ := hvi
      simp only [hp, hu, Option.map_some, Option.some.injEq] at hg
      simp [List.zip, List.getElem?_zipWith, hp, hu, hg]
  · rw [wfL_iff]
    intro u hu
    obtain ⟨p, hp, rfl⟩ := List.mem_map.1 hu
    exact (wfL_iff _ _).1 hv1.1 _ (List.of_mem_zip hp).2

theorem wrap_small {n : Int} (h0 : 0 ≤ n) (h : n < 2 ^ 62) : IntKind.i64.wrap n = n := by
  rw [IntKind.wrap_i64]
  omega

theorem fillV_length {place : Nat → Option (Nat × Nat)} : ∀ (parts : List (Nat × V)) (cells r : List V), evP.fillV place cells parts = some r → r.length = cells.length
  | [], cells, r, h => by simp only [evP.fillV, Option.some.injEq] at h; rw [h]
  | (i, v) :: rest, cells, r, h => by
    simp only [evP.fillV] at h
    split at h
    · cases h
    · split at h
      · cases h
      · rename_i hc
        rw [fillV_length rest _ _ h, over_length]
        simp at hc
        omega

theorem evN_ok {o : Oper} {v : V} {cells : List V} {id : Nat} (hp : Post C φ0 H0 w0 φ H w) (ha : AR φ env a) (h : evN C env o id = some (v, cells)) (hid : φ id = none) (hid0 : H0.next ≤ id)
    (hidn : id < H'.next) (hn : H.next ≤ H'.next) (hget : ∀ j, H'.get j = if j = id then some ⟨cells, false⟩ else H.get j) :
    ∃ l w', (execOp a.eval o).run C.P w = .ok (.value (conc (upd φ id l) v)) w' ∧ Post C φ0 H0 w0 (upd φ id l) H' w' ∧ wf (upd φ id l) v := by
  obtain ⟨dst, op, type, pos, after, guard⟩ := o
  have hr := hp.rel
  cases op with
  | alloc e =>
    simp only [evN, Option.bind_eq_bind, Option.bind_eq_some_iff, Option.some.injEq, Prod.mk.injEq] at h
    obtain ⟨z, hz, rfl, rfl⟩ := h
    have h1 := zeroOf_ok (φ := φ) hz w
    refine ⟨⟨w.heap.size, 0, z.cells.length⟩, w.alloc (.cells (conc φ z).cells e), ?_, ?_, ⟨_, upd_self _ _ _⟩⟩
    · simp only [execOp, Instr.alloc, Sem.run_bind, h1.2, Result.andThen, newVar, newRow, run_newObj_alloc, Sem.run_pure, conc, upd_self, Nat.add_zero]
    · refine hp.alloc (w' := w.alloc (.cells ((conc φ z).cells) e)) (elem := e) (c := (conc φ z).cells) hid hid0 hidn hn hget rfl rfl rfl rfl (free_zero _ _) ?_ (Nat.le_refl _) (wfL_cells h1.1) ?_
      · rw [cells_conc' h1.1]; simp [concL_length]
      · intro i x hx
        rw [cells_conc' h1.1]
        simp [concL_get, hx]
  | box e x =>
    simp only [evN, Option.bind_eq_bind, Option.bind_eq_some_iff, Option.some.injEq, Prod.mk.injEq] at h
    obtain ⟨xv, hx, rfl, rfl⟩ := h
    have h1 := opd_ok hr ha x _ hx
    refine ⟨⟨w.heap.size, 0, xv.cells.length⟩, w.alloc (.cells (conc φ xv).cells e), ?_, ?_, ⟨_, upd_self _ _ _⟩⟩
    · simp only [execOp, Instr.box, h1.2, Sem.run_bind, Result.andThen, newVar, newRow, run_newObj_alloc, Sem.run_pure, conc, upd_self, Nat.add_zero]
    · refine hp.alloc (w' := w.alloc (.cells ((conc φ xv).cells) e)) (elem := e) (c := (conc φ xv).cells) hid hid0 hidn hn hget rfl rfl rfl rfl (free_zero _ _) ?_ (Nat.le_refl _) (wfL_cells h1.1) ?_
      · rw [cells_conc' h1.1]; simp [concL_length]
      · intro i x hx
        rw [cells_conc' h1.1]
        simp [concL_get, hx]
  | buildSlice t len parts =>
    simp only [evN, Option.bind_eq_bind, Option.bind_eq_some_iff] at h
    obtain ⟨d, hd, h⟩ := h
    cases d <;> (try simp only [reduceCtorEq] at h)
    rename_i e
    simp only [Option.bind_eq_some_iff] at h
    obtain ⟨size, hs, z, hz, vs, hvs, h⟩ := h
    split at h
    case isFalse => cases h
    rename_i hc
    simp only [Option.bind_eq_some_iff, Option.some.injEq, Prod.mk.injEq] at h
    obtain ⟨cs, hf, rfl, rfl⟩ := h
    obtain ⟨hz0, hle, hzl⟩ := hc
    have h1 := zeroOf_ok (φ := φ) hz w
    have hzl' : 0 < z.cells.length := by omega
    have hpart := parts_ok hr ha hvs
    have h3 := fillV_ok (φ := φ) (place' := fun i => some (i * size, size)) (fun i => rfl) _ _ _ hf (wfL_zeros (wfL_cells h1.1) _) hpart.2
    have hlenc : cs.length = len * size := by rw [fillV_length _ _ _ hf, zerosV_length, hzl]
    refine ⟨⟨w.heap.size, 0, len * size⟩, w.alloc (.cells (concL φ cs).toArray e), ?_, ?_, ⟨_, upd_self _ _ _, hz0, by simp [Cap.val], Nat.zero_le _, by simp⟩⟩
    · simp only [execOp, Instr.buildSlice, Sem.run_bind, run_underlying hd, Result.andThen, szOf_ok hs]
      rw [if_neg (by omega)]
      by_cases h0 : len * size = 0
      · have hl0 : len = 0 := by
          rcases Nat.mul_eq_zero.1 h0 with h | h <;> omega
        have e0 : (Array.range (len * size)).map (fun i => (#[] : Array Value)[i % (#[] : Array Value).size]!) = (concL φ (zerosV z.cells len)).toArray := by
          subst hl0
          simp [zerosV, concL]
        simp only [if_pos h0, Sem.run_bind, Sem.run_pure, Result.andThen, e0, hpart.1, h3.1, newRow, run_newObj_alloc, conc, upd_self, Cap.off, Cap.val, Nat.add_zero]
      · have e0 : (Array.range (len * size)).map (fun i => (conc φ z).cells[i % (conc φ z).cells.size]!) = (concL φ (zerosV z.cells len)).toArray := by
          rw [← hzl]
          exact zeros_eq φ z.cells _ (cells_conc' h1.1) hzl' len
        simp only [if_neg h0, Sem.run_bind, Sem.run_pure, Result.andThen, h1.2, e0, hpart.1, h3.1, newRow, run_newObj_alloc, conc, upd_self, Cap.off, Cap.val, Nat.add_zero]
    · refine hp.alloc (w' := w.alloc (.cells ((concL φ cs).toArray) e)) (elem := e) (c := (concL φ cs).toArray) hid hid0 hidn hn hget rfl rfl rfl rfl (free_zero _ _) ?_ (by rw [hlenc]; exact Nat.le_refl _) h3.2 ?_
      · simp [concL_length, hlenc]
      · intro i x hx
        simp [concL_get, hx]
  | makeSlice t lo ca =>
    simp only [evN, Option.bind_eq_bind, Option.bind_eq_some_iff] at h
    obtain ⟨d, hd, h⟩ := h
    cases d <;> (try simp only [reduceCtorEq] at h)
    rename_i e
    simp only [Option.bind_eq_some_iff] at h
    obtain ⟨info, hi, z, hz, lv, hl, h⟩ := h
    cases lv <;> (try simp only [reduceCtorEq] at h)
    rename_i k1 l
    simp only [Option.bind_eq_some_iff] at h
    obtain ⟨cv, hcv, h⟩ := h
    cases cv <;> (try simp only [reduceCtorEq] at h)
    rename_i k2 c
    split at h
    case isFalse => cases h
    rename_i hc
    simp only [Option.some.injEq, Prod.mk.injEq] at h
    obtain ⟨rfl, rfl⟩ := h
    obtain ⟨hs0, hzl, hl0, hlc, hc62, hb⟩ := hc
    have h1 := zeroOf_ok (φ := φ) hz w
    have ho1 := opd_ok hr ha lo _ hl
    have ho2 := opd_ok hr ha ca _ hcv
    have hzl' : 0 < z.cells.length := by omega
    refine ⟨⟨w.heap.size, 0, c.toNat * info.size⟩, w.alloc (.cells (concL φ (zerosV z.cells c.toNat)).toArray e), ?_, ?_, ⟨_, upd_self _ _ _, hs0, by simp only [Cap.val]; omega, Nat.zero_le _, by simp⟩⟩
    · have hw1 : IntKind.i64.wrap l = l := wrap_small hl0 (by omega)
      have hw2 : IntKind.i64.wrap c = c := wrap_small (by omega) hc62
      have hti : (typeInfo e).run C.P w = .ok info w := by simp [typeInfo, hi]
      have hsz : (sizeOf e).run C.P w = .ok info.size w := by simp [sizeOf, typeInfo, hi]
      simp only [execOp, Instr.makeSlice, Sem.run_bind, run_underlying hd, Result.andThen, asInt, asIntOf, ho1.2, ho2.2, conc, Sem.run_pure, hti, hw1, hw2]
      rw [if_neg (by simp; omega)]
      simp only [Sem.run_bind, Result.andThen, run_askRoom, hsz]
      by_cases h0 : c.toNat * info.size = 0
      · have hl0 : c.toNat = 0 := by
          rcases Nat.mul_eq_zero.1 h0 with h | h <;> omega
        have e0 : (Array.range (c.toNat * info.size)).map (fun i => (#[] : Array Value)[i % (#[] : Array Value).size]!) = (concL φ (zerosV z.cells c.toNat)).toArray := by
          rw [hl0]
          simp [zerosV, concL]
        simp only [if_pos h0, Sem.run_bind, Sem.run_pure, Result.andThen, e0, newRow, run_newObj_alloc, upd_self, Cap.off, Cap.val, Nat.add_zero]
      · have e0 : (Array.range (c.toNat * info.size)).map (fun i => (conc φ z).cells[i % (conc φ z).cells.size]!) = (concL φ (zerosV z.cells c.toNat)).toArray := by
          rw [← hzl]
          exact zeros_eq φ z.cells _ (cells_conc' h1.1) hzl' _
        simp only [if_neg h0, Sem.run_bind, Sem.run_pure, Result.andThen, h1.2, e0, newRow, run_newObj_alloc, upd_self, Cap.off, Cap.val, Nat.add_zero]
    · refine hp.alloc (w' := w.alloc (.cells ((concL φ (zerosV z.cells c.toNat)).toArray) e)) (elem := e) (c := (concL φ (zerosV z.cells c.toNat)).toArray) hid hid0 hidn hn hget rfl rfl rfl rfl (free_zero _ _) ?_ ?_ (wfL_zeros (wfL_cells h1.1) _) ?_
      · simp [concL_length, zerosV_length, hzl]
      · rw [zerosV_length, hzl]; exact Nat.le_refl _
      · intro i x hx
        simp [concL_get, hx]
  | makeChan t sz =>
    simp only [evN, Option.bind_eq_bind, Option.bind_eq_some_iff] at h
    obtain ⟨d, hd, h⟩ := h
    cases d <;> (try simp only [reduceCtorEq] at h)
    rename_i dir e
    simp only [Option.bind_eq_some_iff] at h
    obtain ⟨info, hi, x, hx, h⟩ := h
    have h1 := opd_ok hr ha sz x hx
    cases x <;> (try simp only [reduceCtorEq] at h)
    rename_i k n
    split at h
    case isFalse => cases h
    rename_i hc
    simp only [Option.some.injEq, Prod.mk.injEq] at h
    obtain ⟨rfl, rfl⟩ := h
    refine ⟨⟨w.heap.size, 0, 0⟩, w.alloc (.chan n.toNat #[] false 0 0 false), ?_, hp.allocQ hid hid0 hidn hn hget rfl rfl rfl rfl, ⟨_, upd_self _ _ _⟩⟩
    have hmax : ¬ (n < 0 ∨ IntKind.i64.max < n ∨ 281474976710544 < (info.bytes : Int) * n) := by
      have : IntKind.i64.max = 9223372036854775807 := by decide
      omega
    have e0 : (asInt (Value.int k n)).run C.P w = .ok n w := rfl
    have e1 : (IntKind.i64.max : Int) = 9223372036854775807 := by decide
    rw [e1] at hmax
    simp only [execOp, Instr.makeChan, h1.2, conc, Sem.run_bind, e0]
    simp [underlying, typeInfo, hd, hi, Result.andThen, Sem.run_bind, upd_self, hmax]
  | _ => simp [evN] at h
end
end Go.Ab
