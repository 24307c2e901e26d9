/-
  ShardOfNothing: the law's body, evaluated.
-/
import Derived.Test.YtkgkegclebikhaaGreatParts
namespace Go.Ab
open Go.Proofs

/-- The example of chapter 24. -/
theorem known24 : (ev C0 100 45 [] ⟨.leaf, 4⟩).map (·.1) = some (.bool true) := by kernel_rfl
theorem known24_meets {C' : Cfg} (hP : C'.P = Tryz.prog) (H : Heap) : Meets C' 45 [] H (.bool true) H :=
  meets_closed fit0 (fun _ => rfl) hP known24 rfl (fun _ h => by cases h) H

noncomputable def C2 : Cfg := { P := Tryz.prog, ext := fun f => if f = 45 then some trueG else none, gl := fun _ => false }
theorem fit2 : Fit C2 where
  mixed := mixed_ok
  names := names_ok
  ext := by
    intro f g args H v H' hg h
    simp only [C2] at hg
    split at hg
    · rename_i hf
      cases hg
      subst hf
      unfold trueG at h
      split at h
      · simp only [Option.some.injEq, Prod.mk.injEq] at h
        obtain ⟨rfl, rfl⟩ := h
        exact known24_meets (C' := C2) rfl H
      · cases h
    · cases hg
  exts := by
    intro f g hg
    simp only [C2] at hg
    split at hg
    · rename_i hf
      subst hf
      exact ⟨Tryz.f45, Tryz.func45, by kernel_rfl⟩
    · cases hg

noncomputable def b12 : Code := match Tryz.f12.body with | some c => c | none => .skip
theorem ev12 (key : ByteArray) (n : Int) : ∃ H', ev C2 40 12 [.str key, .int .i64 n] ⟨.leaf, 4⟩ = some (.bool true, H') := by
  have hb : Tryz.f12.body = some (.seq (Code.fst' b12) (.seq (.seq (Code.fst' (Code.fst' (Code.snd' b12))) (.cond (.tmp 23) (match Code.snd' (Code.fst' (Code.snd' b12)) with | .cond _ x _ => x | c => c) .skip)) (Code.snd' (Code.snd' b12)))) := by kernel_rfl
  have h0 : ev C2 40 12 [.str key, .int .i64 n] ⟨.leaf, 4⟩ = evBody C2 (ev C2 39) 39 Tryz.f12 [.str key, .int .i64 n] ⟨.leaf, 4⟩ := by kernel_rfl
  rw [h0, evBody_fin hb]
  -- the first two statements
  have h1 : evCode C2 (ev C2 39) 39 (Code.fst' b12) ([V.str key, .int .i64 n] ++ List.replicate (Tryz.f12.ntmps - [V.str key, .int .i64 n].length) V.un) ⟨.leaf, 4⟩ =
      some (.normal, ([V.str key, .int .i64 n] ++ List.replicate 187 V.un).set 4 (.bool false), ⟨.leaf, 4⟩) := by kernel_rfl
  rw [evCode_seq_normal h1]
  have h2 : evCode C2 (ev C2 39) 39 (Code.fst' (Code.fst' (Code.snd' b12))) (([V.str key, .int .i64 n] ++ List.replicate 187 V.un).set 4 (.bool false)) ⟨.leaf, 4⟩ =
      some (.normal, ((((([V.str key, .int .i64 n] ++ List.replicate 187 V.un).set 4 (.bool false)).set 21 (.str key)).set 22 (.int .i64 key.size)).set 23 (.bool (decide ((key.size : Int) > 40)))), ⟨.leaf, 4⟩) := by kernel_rfl
  by_cases hk : (key.size : Int) > 40
  · rw [decide_eq_true hk] at h2
    have h3 : evCode C2 (ev C2 39) 39 (.seq (Code.fst' (Code.fst' (Code.snd' b12))) (.cond (.tmp 23) (match Code.snd' (Code.fst' (Code.snd' b12)) with | .cond _ x _ => x | c => c) .skip)) (([V.str key, .int .i64 n] ++ List.replicate 187 V.un).set 4 (.bool false)) ⟨.leaf, 4⟩ =
        some (.ret, (((((([V.str key, .int .i64 n] ++ List.replicate 187 V.un).set 4 (.bool false)).set 21 (.str key)).set 22 (.int .i64 key.size)).set 23 (.bool true)).set 4 (.bool true)), ⟨.leaf, 4⟩) := by
      rw [evCode_seq_normal h2]
      kernel_rfl
    rw [evCode_seq_ret h3]
    exact ⟨⟨.leaf, 4⟩, by kernel_rfl⟩
  · rw [decide_eq_false hk] at h2
    have h3 : evCode C2 (ev C2 39) 39 (.seq (Code.fst' (Code.fst' (Code.snd' b12))) (.cond (.tmp 23) (match Code.snd' (Code.fst' (Code.snd' b12)) with | .cond _ x _ => x | c => c) .skip)) (([V.str key, .int .i64 n] ++ List.replicate 187 V.un).set 4 (.bool false)) ⟨.leaf, 4⟩ =
        some (.normal, ((((([V.str key, .int .i64 n] ++ List.replicate 187 V.un).set 4 (.bool false)).set 21 (.str key)).set 22 (.int .i64 key.size)).set 23 (.bool false)), ⟨.leaf, 4⟩) := by
      rw [evCode_seq_normal h2]
      kernel_rfl
    rw [evCode_seq_normal h3]
    have h4 : (fin C2 Tryz.f12 (evCode C2 (ev C2 39) 39 (Code.snd' (Code.snd' b12)) ((((([V.str key, .int .i64 n] ++ List.replicate 187 V.un).set 4 (.bool false)).set 21 (.str key)).set 22 (.int .i64 key.size)).set 23 (.bool false)) ⟨.leaf, 4⟩)).map (·.1) = some (.bool true) := by kernel_rfl
    simp only [Option.map_eq_some_iff, Prod.exists] at h4
    obtain ⟨v, H', h5, rfl⟩ := h4
    exact ⟨H', h5⟩

/-- The call, in any world. -/
theorem calls12 (key : ByteArray) (n : Int) (w : World) : Calls Tryz.prog 12 #[.string key, .int .i64 n] w fun e w' => e = .returned (.bool true) ∧ Go.RowKit.Below w.heap.size w w' := by
  obtain ⟨H', h⟩ := ev12 key n
  have h0 : Rel C2 (fun _ => none) ⟨.leaf, 4⟩ w := { dom := (by intro id l h; cases h), obj := (by intro id o h; cases h), inj := (by intro id id' o o' l l' h; cases h), glob := (by intro g hg; cases hg) }
  have := (ev_ok fit2 40 12 _ _ _ _ h).1 _ w h0 ⟨trivial, trivial, trivial⟩
  refine Calls.mono this ?_
  intro e w' he
  cases e with
  | returned u =>
    obtain ⟨φ', hp, -, rfl⟩ := he
    exact ⟨rfl, hp.to_below⟩
  | panicked _ => exact he.elim
  | outgrown => exact he.elim
end Go.Ab
