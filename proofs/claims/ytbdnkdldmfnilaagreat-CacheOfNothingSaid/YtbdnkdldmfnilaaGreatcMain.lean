/-
  Every call of CacheOfNothing returns true and leaves its arguments as they were: for every operation and every int, in whatever memory, whatever order and capacity is drawn.
-/
import Derived.Test.YtbdnkdldmfnilaaGreatcRow
import Derived.Test.YtbdnkdldmfnilaaGreatcNothing
import Derived.Test.YtbdnkdldmfnilaaGreatcOver
namespace Go.Proofs.YtbdnkdldmfnilaaGreat
open Go.ChangeShapes Go.WideShapes Go.ChangeAt Go.RowKit Go.ChangeMaps

section
variable {H : Type} {enc : TypeId × Value → H} {W : World} {base : Nat} {sp : Nat → Bool} {held : Bool}

theorem cells3 : Tryz.prog.cellsOf 3 = 1 := by kernel_rfl
theorem cells9 : Tryz.prog.cellsOf 9 = 1 := by kernel_rfl
theorem cells23 : Tryz.prog.cellsOf 23 = 4 := by kernel_rfl

set_option maxRecDepth 100000 in
theorem open_op {r : Reach} {b0 : Nat} {v : Value} {d : DataW H} {ps : List MemPlace} (hval : Value.okWide Tryz.prog W r b0 23 v) (hd : DataW.Trod enc Tryz.prog W base sp held 23 v d ps) :
    ∃ (k n : Int) (key val : ByteArray), v = .agg #[.int .i64 k, .string key, .string val, .int .i64 n] ∧ d = .agg [.lit (.int .i64 k), .lit (.string key.data.toList), .lit (.string val.data.toList), .lit (.int .i64 n)] ∧ ps = [] ∧
      (Lit.int .i64 k).wf = true ∧ key.size ≤ maxLen ∧ val.size ≤ maxLen ∧ (Lit.int .i64 n).wf = true := by
  obtain ⟨cs, rfl, hsz⟩ := okWide_struct (P := Tryz.prog) (t := 23) Tryz.underlying23 hval
  rw [cells23] at hsz
  obtain ⟨l⟩ := cs
  match l, hsz with
  | [c0, c1, c2, c3], _ =>
    obtain ⟨fuel, hf⟩ := hd
    obtain ⟨xs, m, rfl, e, hlen, hxl, hx⟩ := DataW.trod_struct Tryz.underlying23 hf
    have x0 : DataW.trod enc Tryz.prog W base sp held m 3 (([c0, c1, c2, c3].drop 0).take (Tryz.prog.cellsOf 3)) = xs[0]? := hx 0 _ rfl
    have x1 : DataW.trod enc Tryz.prog W base sp held m 9 (([c0, c1, c2, c3].drop 1).take (Tryz.prog.cellsOf 9)) = xs[1]? := hx 1 _ rfl
    have x2 : DataW.trod enc Tryz.prog W base sp held m 9 (([c0, c1, c2, c3].drop 2).take (Tryz.prog.cellsOf 9)) = xs[2]? := hx 2 _ rfl
    have x3 : DataW.trod enc Tryz.prog W base sp held m 3 (([c0, c1, c2, c3].drop 3).take (Tryz.prog.cellsOf 3)) = xs[3]? := hx 3 _ rfl
    rw [cells3] at x0 x3
    rw [cells9] at x1 x2
    match xs, hxl with
    | [y0, y1, y2, y3], _ =>
      obtain ⟨k, e0, rfl, w0⟩ := DataW.trod_int Tryz.underlying3 x0
      obtain ⟨key, e1, rfl, w1⟩ := DataW.trod_string Tryz.underlying9 x1
      obtain ⟨val, e2, rfl, w2⟩ := DataW.trod_string Tryz.underlying9 x2
      obtain ⟨n, e3, rfl, w3⟩ := DataW.trod_int Tryz.underlying3 x3
      simp at e0 e1 e2 e3
      subst e0; subst e1; subst e2; subst e3
      simp only [Prod.mk.injEq] at e
      exact ⟨k, n, key, val, rfl, by rw [e.1]; rfl, by rw [e.2]; rfl, w0, w1, w2, w3⟩

set_option maxRecDepth 100000 in
theorem shut_op {k n : Int} {key val : ByteArray} (w0 : (Lit.int .i64 k).wf = true) (w1 : key.size ≤ maxLen) (w2 : val.size ≤ maxLen) (w3 : (Lit.int .i64 n).wf = true) :
    DataW.Trod enc Tryz.prog W base sp held 23 (.agg #[.int .i64 k, .string key, .string val, .int .i64 n]) (.agg [.lit (.int .i64 k), .lit (.string key.data.toList), .lit (.string val.data.toList), .lit (.int .i64 n)]) [] :=
  ⟨2, by
    show DataW.trod enc Tryz.prog W base sp held (1 + 1) 23 [.int .i64 k, .string key, .string val, .int .i64 n] = _
    rw [DataW.trod_step]
    unfold DataW.trodStep
    simp only [Tryz.underlying23]
    rw [if_pos (by rw [cells23]; rfl)]
    simp [cells3, cells9, DataW.trod, Tryz.underlying3, Tryz.underlying9, w0, w1, w2, w3]⟩
end

theorem own_knob26 : ownKnob Tryz.prog.godebug = none := by kernel_rfl

set_option maxRecDepth 100000 in
theorem nothing_lifted (os : Os) (started : os.Started) (H : Type) (enc : TypeId × Value → H) :
    ReturnsInHanded {} Tryz.checked os 3 .any (Rows.cacheOfNothingSpec.pre6 enc Tryz.prog Tryz.f3 Rows.cacheOfNothingRow.domain false) (Rows.cacheOfNothingSpec.post enc Tryz.prog Tryz.f3 false true false false) := by
  refine returnsInHanded_of_change (C := Tryz.checked) own_knob26 started (by kernel_rfl) Tryz.func3
    (ChangeSpec.witness6 (enc := enc) (C := Tryz.checked) false ⟨#[], #[.agg #[.int .i64 0, .string ⟨#[]⟩, .string ⟨#[]⟩, .int .i64 0], .int .i64 0], []⟩ 8 (by kernel_rfl) (by kernel_rfl) (by kernel_rfl) (by kernel_rfl)) ?_
  intro W base args ds gs before hval0 hW hcnd _
  have hval : ∀ (j : Nat) t v, Tryz.f3.params[j]? = some t → args[j]? = some v → Value.okWide Tryz.prog W .any base t v := hval0
  have hW' := hW
  obtain ⟨p, q, hA0, hV, rfl, hfz, hnd⟩ := hW
  have hA : DataW.TrodAll enc Tryz.prog W 0 (fun _ => true) true Tryz.f3.params.toList args.toList ds p := hA0
  rw [Tryz.params3] at hA hval
  obtain ⟨v0, v1, d0, d1, p0, p1, rfl, rfl, rfl, h0, h1⟩ := trodAll_two hA
  obtain ⟨rfl, rfl⟩ := trodVars_none hV
  obtain ⟨k, n, key, val, rfl, rfl, rfl, w0, w1, w2, w3⟩ := open_op (hval 0 23 v0 rfl rfl) h0
  obtain ⟨i, rfl, rfl, rfl, wi⟩ := open_int Tryz.underlying3 (hval 1 3 v1 rfl rfl) h1
  clear hA0 hval0
  simp only [List.append_nil] at hW'
  refine (Go.Ab.calls3 k n i key val W).mono fun e W' ⟨he, hw⟩ => ?_
  subst he
  exact ⟨_, rfl, post_of_below (pa := []) (pv := []) hW' (fun _ _ _ => trodAll_mk1 (shut_bool Tryz.underlying4 true)) (fun sp _ => trodAll_mk2 (shut_op w0 w1 w2 w3) (shut_int Tryz.underlying3 wi)) (fun _ _ => rfl) rfl
    hw (ok_one (by kernel_rfl) rfl (okWide_bool_mk Tryz.underlying4 true))⟩

theorem cache_of_nothing : Rows.CacheOfNothingSaid :=
  OpenClaim.holds_of_wide 3 Tryz.f3 rfl rfl rfl rfl rfl rfl rfl ⟨rfl, rfl, rfl, rfl, rfl⟩ rfl rfl rfl rfl rfl CacheOfNothing_fn Tryz.func3
    CacheOfNothing_facts CacheOfNothing_inst CacheOfNothing_wrap
    (fun os started H enc _ => nothing_lifted os started H enc)
#print axioms cache_of_nothing
end Go.Proofs.YtbdnkdldmfnilaaGreat
