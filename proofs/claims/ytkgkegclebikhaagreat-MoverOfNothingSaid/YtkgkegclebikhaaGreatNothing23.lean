/-
  MoverOfNothing: the law's body, evaluated.
-/
import Derived.Test.YtkgkegclebikhaaGreatParts
namespace Go.Ab
open Go.Proofs

noncomputable def C1 : Cfg := { P := Tryz.prog, ext := fun f => if f = 18 then some trueG else none, gl := fun _ => false }
theorem fit1 : Fit C1 where
  mixed := mixed_ok
  names := names_ok
  ext := by
    intro f g args H v H' hg h
    simp only [C1] at hg
    split at hg
    · rename_i hf
      cases hg
      subst hf
      unfold trueG at h
      split at h
      · simp only [Option.some.injEq, Prod.mk.injEq] at h
        obtain ⟨rfl, rfl⟩ := h
        exact known23_meets (C' := C1) rfl H
      · cases h
    · cases hg
  exts := by
    intro f g hg
    simp only [C1] at hg
    split at hg
    · rename_i hf
      subst hf
      exact ⟨Tryz.f18, Tryz.func18, by kernel_rfl⟩
    · cases hg

noncomputable def b5 : Code := match Tryz.f5.body with | some c => c | none => .skip
theorem ev5 (key : ByteArray) (n : Int) : ∃ H', ev C1 40 5 [.str key, .int .i64 n] ⟨.leaf, 4⟩ = some (.bool true, H') := by
  have hb : Tryz.f5.body = some (.seq (Code.fst' b5) (.seq (.seq (Code.fst' (Code.fst' (Code.snd' b5))) (.cond (.tmp 12) (match Code.snd' (Code.fst' (Code.snd' b5)) with | .cond _ x _ => x | c => c) .skip)) (Code.snd' (Code.snd' b5)))) := by kernel_rfl
  have h0 : ev C1 40 5 [.str key, .int .i64 n] ⟨.leaf, 4⟩ = evBody C1 (ev C1 39) 39 Tryz.f5 [.str key, .int .i64 n] ⟨.leaf, 4⟩ := by kernel_rfl
  rw [h0, evBody_fin hb]
  -- the first two statements
  have h1 : evCode C1 (ev C1 39) 39 (Code.fst' b5) ([V.str key, .int .i64 n] ++ List.replicate (Tryz.f5.ntmps - [V.str key, .int .i64 n].length) V.un) ⟨.leaf, 4⟩ =
      some (.normal, ([V.str key, .int .i64 n] ++ List.replicate 114 V.un).set 4 (.bool false), ⟨.leaf, 4⟩) := by kernel_rfl
  rw [evCode_seq_normal h1]
  have h2 : evCode C1 (ev C1 39) 39 (Code.fst' (Code.fst' (Code.snd' b5))) (([V.str key, .int .i64 n] ++ List.replicate 114 V.un).set 4 (.bool false)) ⟨.leaf, 4⟩ =
      some (.normal, ((((([V.str key, .int .i64 n] ++ List.replicate 114 V.un).set 4 (.bool false)).set 10 (.str key)).set 11 (.int .i64 key.size)).set 12 (.bool (decide ((key.size : Int) > 40)))), ⟨.leaf, 4⟩) := by kernel_rfl
  by_cases hk : (key.size : Int) > 40
  · rw [decide_eq_true hk] at h2
    have h3 : evCode C1 (ev C1 39) 39 (.seq (Code.fst' (Code.fst' (Code.snd' b5))) (.cond (.tmp 12) (match Code.snd' (Code.fst' (Code.snd' b5)) with | .cond _ x _ => x | c => c) .skip)) (([V.str key, .int .i64 n] ++ List.replicate 114 V.un).set 4 (.bool false)) ⟨.leaf, 4⟩ =
        some (.ret, (((((([V.str key, .int .i64 n] ++ List.replicate 114 V.un).set 4 (.bool false)).set 10 (.str key)).set 11 (.int .i64 key.size)).set 12 (.bool true)).set 4 (.bool true)), ⟨.leaf, 4⟩) := by
      rw [evCode_seq_normal h2]
      kernel_rfl
    rw [evCode_seq_ret h3]
    exact ⟨⟨.leaf, 4⟩, by kernel_rfl⟩
  · rw [decide_eq_false hk] at h2
    have h3 : evCode C1 (ev C1 39) 39 (.seq (Code.fst' (Code.fst' (Code.snd' b5))) (.cond (.tmp 12) (match Code.snd' (Code.fst' (Code.snd' b5)) with | .cond _ x _ => x | c => c) .skip)) (([V.str key, .int .i64 n] ++ List.replicate 114 V.un).set 4 (.bool false)) ⟨.leaf, 4⟩ =
        some (.normal, ((((([V.str key, .int .i64 n] ++ List.replicate 114 V.un).set 4 (.bool false)).set 10 (.str key)).set 11 (.int .i64 key.size)).set 12 (.bool false)), ⟨.leaf, 4⟩) := by
      rw [evCode_seq_normal h2]
      kernel_rfl
    rw [evCode_seq_normal h3]
    have h4 : (fin C1 Tryz.f5 (evCode C1 (ev C1 39) 39 (Code.snd' (Code.snd' b5)) ((((([V.str key, .int .i64 n] ++ List.replicate 114 V.un).set 4 (.bool false)).set 10 (.str key)).set 11 (.int .i64 key.size)).set 12 (.bool false)) ⟨.leaf, 4⟩)).map (·.1) = some (.bool true) := by kernel_rfl
    simp only [Option.map_eq_some_iff, Prod.exists] at h4
    obtain ⟨v, H', h5, rfl⟩ := h4
    exact ⟨H', h5⟩

/-- The call, in any world. -/
theorem calls5 (key : ByteArray) (n : Int) (w : World) : Calls Tryz.prog 5 #[.string key, .int .i64 n] w fun e w' => e = .returned (.bool true) ∧ Go.RowKit.Below w.heap.size w w' := by
  obtain ⟨H', h⟩ := ev5 key n
  have h0 : Rel C1 (fun _ => none) ⟨.leaf, 4⟩ w := { dom := (by intro id l h; cases h), obj := (by intro id o h; cases h), inj := (by intro id id' o o' l l' h; cases h), glob := (by intro g hg; cases hg) }
  have := (ev_ok fit1 40 5 _ _ _ _ h).1 _ w h0 ⟨trivial, trivial, trivial⟩
  refine Calls.mono this ?_
  intro e w' he
  cases e with
  | returned u =>
    obtain ⟨φ', hp, -, rfl⟩ := he
    exact ⟨rfl, hp.to_below⟩
  | panicked _ => exact he.elim
  | outgrown => exact he.elim
end Go.Ab
