/-
  No cell of these rows narrows 'for every input' (looked for: loops, veiled, ifaces, maps, wideKeys, modest, calm, conditions, laid).
  DERIVED. THE GIVEN ROWS OF THIS SEAT. 10 by the template 'for every input the law returns true; each argument reads behind the call as it read before'; 0 by the template 'total and deterministic' (their statements: YtkgkegclebikhaaGreatTotals.lean).
  GIVEN WITH THE SEED: the statements are not yours to turn. If you find one false, say at which input.
  Laid BY PROGRAM, IN A SANDBOX (cutbox-rows.mjs): the forced cells as the released guide's own fill.sh prints them over the translation 91b7de11be6a8322… (all of the seat's roots in one cut). By AI agents, Wed Nov 11 2026. No macro, syntax, notation, axiom, sorry.
-/
import Derived.Test.YtkgkegclebikhaaGreatChecked
import GoSem.Claim
import GoSem.ClaimJoined
import GoSem.ClaimMapViews
import Derived.JoinedTies
import Derived.KernelRfl
namespace Go.Proofs.YtkgkegclebikhaaGreat
/- THE CELL 'sum', in the pinned program and in every row, IS THE sha256 OF THE DUMP (.gsa) THAT YtkgkegclebikhaaGreatProg.lean LOADS. Nothing in Lean hashes anything: it is a label: what it is worth is what the hold of that sum in a sandbox is worth. -/
noncomputable def Tryz.pinned : Pinned := { name := "ytkgkegclebikhaagreat", sum := "91b7de11be6a832229af632cdfc51de69ae7359e8d9fb4111130fc00c345885b", checked := Tryz.checked }
namespace Rows
def none {H : Type} : Left H := { results := [], args := [] }

/-- 'hoardlaw23.MoverPlays': WHATEVER THE INPUT: true; the input reads as it did. -/
def moverPlaysSpec : ChangeSpec := { name := "moverPlays", fn := fun _ => fun
  | [d1, d2, d3] => { results := [.lit (.bool true)], args := [d1, d2, d3] }
  | _ => none }
def moverPlaysRow : OpenClaim := { program := "ytkgkegclebikhaagreat", sum := "91b7de11be6a832229af632cdfc51de69ae7359e8d9fb4111130fc00c345885b", func := "hoard/hoardlaw23.MoverPlays", spec := "moverPlays", unfollowed := true, recurses := true, apart := false }
def MoverPlaysSaid : Prop := moverPlaysRow.holds Tryz.pinned (OpenSpec.ofChange moverPlaysSpec)

/-- ITS FALSE NEIGHBOUR: 'it returns false'. Refute it at one input. -/
def moverPlaysWrong : ChangeSpec := { name := "moverPlays", fn := fun _ => fun
  | [d1, d2, d3] => { results := [.lit (.bool false)], args := [d1, d2, d3] }
  | _ => none }
def MoverPlaysWrongFalsely : Prop := moverPlaysRow.holds Tryz.pinned (OpenSpec.ofChange moverPlaysWrong)

/-- 'hoardlaw23.MoverEnds': WHATEVER THE INPUT: true; the input reads as it did. -/
def moverEndsSpec : ChangeSpec := { name := "moverEnds", fn := fun _ => fun
  | [d1, d2, d3, d4] => { results := [.lit (.bool true)], args := [d1, d2, d3, d4] }
  | _ => none }
def moverEndsRow : OpenClaim := { program := "ytkgkegclebikhaagreat", sum := "91b7de11be6a832229af632cdfc51de69ae7359e8d9fb4111130fc00c345885b", func := "hoard/hoardlaw23.MoverEnds", spec := "moverEnds", unfollowed := true, recurses := true, apart := false }
def MoverEndsSaid : Prop := moverEndsRow.holds Tryz.pinned (OpenSpec.ofChange moverEndsSpec)

/-- ITS FALSE NEIGHBOUR: 'it returns false'. Refute it at one input. -/
def moverEndsWrong : ChangeSpec := { name := "moverEnds", fn := fun _ => fun
  | [d1, d2, d3, d4] => { results := [.lit (.bool false)], args := [d1, d2, d3, d4] }
  | _ => none }
def MoverEndsWrongFalsely : Prop := moverEndsRow.holds Tryz.pinned (OpenSpec.ofChange moverEndsWrong)

/-- 'hoardlaw23.MoverOfNothing': WHATEVER THE INPUT: true; the input reads as it did. -/
def moverOfNothingSpec : ChangeSpec := { name := "moverOfNothing", fn := fun _ => fun
  | [d1, d2] => { results := [.lit (.bool true)], args := [d1, d2] }
  | _ => none }
def moverOfNothingRow : OpenClaim := { program := "ytkgkegclebikhaagreat", sum := "91b7de11be6a832229af632cdfc51de69ae7359e8d9fb4111130fc00c345885b", func := "hoard/hoardlaw23.MoverOfNothing", spec := "moverOfNothing", unfollowed := true, recurses := true, apart := false }
def MoverOfNothingSaid : Prop := moverOfNothingRow.holds Tryz.pinned (OpenSpec.ofChange moverOfNothingSpec)

/-- ITS FALSE NEIGHBOUR: 'it returns false'. Refute it at one input. -/
def moverOfNothingWrong : ChangeSpec := { name := "moverOfNothing", fn := fun _ => fun
  | [d1, d2] => { results := [.lit (.bool false)], args := [d1, d2] }
  | _ => none }
def MoverOfNothingWrongFalsely : Prop := moverOfNothingRow.holds Tryz.pinned (OpenSpec.ofChange moverOfNothingWrong)

/-- 'hoardlaw23.MoverErrors': WHATEVER THE INPUT: true; the input reads as it did. -/
def moverErrorsSpec : ChangeSpec := { name := "moverErrors", fn := fun _ => fun
  | [d1, d2, d3, d4] => { results := [.lit (.bool true)], args := [d1, d2, d3, d4] }
  | _ => none }
def moverErrorsRow : OpenClaim := { program := "ytkgkegclebikhaagreat", sum := "91b7de11be6a832229af632cdfc51de69ae7359e8d9fb4111130fc00c345885b", func := "hoard/hoardlaw23.MoverErrors", spec := "moverErrors", unfollowed := true, recurses := true, apart := false }
def MoverErrorsSaid : Prop := moverErrorsRow.holds Tryz.pinned (OpenSpec.ofChange moverErrorsSpec)

/-- ITS FALSE NEIGHBOUR: 'it returns false'. Refute it at one input. -/
def moverErrorsWrong : ChangeSpec := { name := "moverErrors", fn := fun _ => fun
  | [d1, d2, d3, d4] => { results := [.lit (.bool false)], args := [d1, d2, d3, d4] }
  | _ => none }
def MoverErrorsWrongFalsely : Prop := moverErrorsRow.holds Tryz.pinned (OpenSpec.ofChange moverErrorsWrong)

/-- 'hoardlaw24.ShardDrained': WHATEVER THE INPUT: true; the input reads as it did. -/
def shardDrainedSpec : ChangeSpec := { name := "shardDrained", fn := fun _ => fun
  | [d1, d2, d3, d4] => { results := [.lit (.bool true)], args := [d1, d2, d3, d4] }
  | _ => none }
def shardDrainedRow : OpenClaim := { program := "ytkgkegclebikhaagreat", sum := "91b7de11be6a832229af632cdfc51de69ae7359e8d9fb4111130fc00c345885b", func := "hoard/hoardlaw24.ShardDrained", spec := "shardDrained", inPlace := ["internal/bytealg.IndexByteString"], unfollowed := true, recurses := true, apart := false }
def ShardDrainedSaid : Prop := shardDrainedRow.holds Tryz.pinned (OpenSpec.ofChange shardDrainedSpec)

/-- ITS FALSE NEIGHBOUR: 'it returns false'. Refute it at one input. -/
def shardDrainedWrong : ChangeSpec := { name := "shardDrained", fn := fun _ => fun
  | [d1, d2, d3, d4] => { results := [.lit (.bool false)], args := [d1, d2, d3, d4] }
  | _ => none }
def ShardDrainedWrongFalsely : Prop := shardDrainedRow.holds Tryz.pinned (OpenSpec.ofChange shardDrainedWrong)

/-- 'hoardlaw24.ShardRoom': WHATEVER THE INPUT: true; the input reads as it did. -/
def shardRoomSpec : ChangeSpec := { name := "shardRoom", fn := fun _ => fun
  | [d1, d2, d3, d4, d5] => { results := [.lit (.bool true)], args := [d1, d2, d3, d4, d5] }
  | _ => none }
def shardRoomRow : OpenClaim := { program := "ytkgkegclebikhaagreat", sum := "91b7de11be6a832229af632cdfc51de69ae7359e8d9fb4111130fc00c345885b", func := "hoard/hoardlaw24.ShardRoom", spec := "shardRoom", inPlace := ["internal/bytealg.IndexByteString"], unfollowed := true, recurses := true, apart := false }
def ShardRoomSaid : Prop := shardRoomRow.holds Tryz.pinned (OpenSpec.ofChange shardRoomSpec)

/-- ITS FALSE NEIGHBOUR: 'it returns false'. Refute it at one input. -/
def shardRoomWrong : ChangeSpec := { name := "shardRoom", fn := fun _ => fun
  | [d1, d2, d3, d4, d5] => { results := [.lit (.bool false)], args := [d1, d2, d3, d4, d5] }
  | _ => none }
def ShardRoomWrongFalsely : Prop := shardRoomRow.holds Tryz.pinned (OpenSpec.ofChange shardRoomWrong)

/-- 'hoardlaw24.ShardErrors': WHATEVER THE INPUT: true; the input reads as it did. -/
def shardErrorsSpec : ChangeSpec := { name := "shardErrors", fn := fun _ => fun
  | [d1, d2, d3, d4, d5, d6] => { results := [.lit (.bool true)], args := [d1, d2, d3, d4, d5, d6] }
  | _ => none }
def shardErrorsRow : OpenClaim := { program := "ytkgkegclebikhaagreat", sum := "91b7de11be6a832229af632cdfc51de69ae7359e8d9fb4111130fc00c345885b", func := "hoard/hoardlaw24.ShardErrors", spec := "shardErrors", inPlace := ["internal/bytealg.IndexByteString"], unfollowed := true, recurses := true, apart := false }
def ShardErrorsSaid : Prop := shardErrorsRow.holds Tryz.pinned (OpenSpec.ofChange shardErrorsSpec)

/-- ITS FALSE NEIGHBOUR: 'it returns false'. Refute it at one input. -/
def shardErrorsWrong : ChangeSpec := { name := "shardErrors", fn := fun _ => fun
  | [d1, d2, d3, d4, d5, d6] => { results := [.lit (.bool false)], args := [d1, d2, d3, d4, d5, d6] }
  | _ => none }
def ShardErrorsWrongFalsely : Prop := shardErrorsRow.holds Tryz.pinned (OpenSpec.ofChange shardErrorsWrong)

/-- 'hoardlaw24.ShardFolds': WHATEVER THE INPUT: true; the input reads as it did. -/
def shardFoldsSpec : ChangeSpec := { name := "shardFolds", fn := fun _ => fun
  | [d1, d2, d3, d4, d5] => { results := [.lit (.bool true)], args := [d1, d2, d3, d4, d5] }
  | _ => none }
def shardFoldsRow : OpenClaim := { program := "ytkgkegclebikhaagreat", sum := "91b7de11be6a832229af632cdfc51de69ae7359e8d9fb4111130fc00c345885b", func := "hoard/hoardlaw24.ShardFolds", spec := "shardFolds", inPlace := ["internal/bytealg.IndexByteString"], unfollowed := true, recurses := true, apart := false }
def ShardFoldsSaid : Prop := shardFoldsRow.holds Tryz.pinned (OpenSpec.ofChange shardFoldsSpec)

/-- ITS FALSE NEIGHBOUR: 'it returns false'. Refute it at one input. -/
def shardFoldsWrong : ChangeSpec := { name := "shardFolds", fn := fun _ => fun
  | [d1, d2, d3, d4, d5] => { results := [.lit (.bool false)], args := [d1, d2, d3, d4, d5] }
  | _ => none }
def ShardFoldsWrongFalsely : Prop := shardFoldsRow.holds Tryz.pinned (OpenSpec.ofChange shardFoldsWrong)

/-- 'hoardlaw24.ShardPlays': WHATEVER THE INPUT: true; the input reads as it did. -/
def shardPlaysSpec : ChangeSpec := { name := "shardPlays", fn := fun _ => fun
  | [d1, d2, d3, d4, d5] => { results := [.lit (.bool true)], args := [d1, d2, d3, d4, d5] }
  | _ => none }
def shardPlaysRow : OpenClaim := { program := "ytkgkegclebikhaagreat", sum := "91b7de11be6a832229af632cdfc51de69ae7359e8d9fb4111130fc00c345885b", func := "hoard/hoardlaw24.ShardPlays", spec := "shardPlays", inPlace := ["internal/bytealg.IndexByteString"], unfollowed := true, recurses := true, apart := false }
def ShardPlaysSaid : Prop := shardPlaysRow.holds Tryz.pinned (OpenSpec.ofChange shardPlaysSpec)

/-- ITS FALSE NEIGHBOUR: 'it returns false'. Refute it at one input. -/
def shardPlaysWrong : ChangeSpec := { name := "shardPlays", fn := fun _ => fun
  | [d1, d2, d3, d4, d5] => { results := [.lit (.bool false)], args := [d1, d2, d3, d4, d5] }
  | _ => none }
def ShardPlaysWrongFalsely : Prop := shardPlaysRow.holds Tryz.pinned (OpenSpec.ofChange shardPlaysWrong)

/-- 'hoardlaw24.ShardOfNothing': WHATEVER THE INPUT: true; the input reads as it did. -/
def shardOfNothingSpec : ChangeSpec := { name := "shardOfNothing", fn := fun _ => fun
  | [d1, d2] => { results := [.lit (.bool true)], args := [d1, d2] }
  | _ => none }
def shardOfNothingRow : OpenClaim := { program := "ytkgkegclebikhaagreat", sum := "91b7de11be6a832229af632cdfc51de69ae7359e8d9fb4111130fc00c345885b", func := "hoard/hoardlaw24.ShardOfNothing", spec := "shardOfNothing", inPlace := ["internal/bytealg.IndexByteString"], unfollowed := true, recurses := true, apart := false }
def ShardOfNothingSaid : Prop := shardOfNothingRow.holds Tryz.pinned (OpenSpec.ofChange shardOfNothingSpec)

/-- ITS FALSE NEIGHBOUR: 'it returns false'. Refute it at one input. -/
def shardOfNothingWrong : ChangeSpec := { name := "shardOfNothing", fn := fun _ => fun
  | [d1, d2] => { results := [.lit (.bool false)], args := [d1, d2] }
  | _ => none }
def ShardOfNothingWrongFalsely : Prop := shardOfNothingRow.holds Tryz.pinned (OpenSpec.ofChange shardOfNothingWrong)

/- THE SECOND FORM. 'bulk': how many values and letters a reading holds, each counted each time it is reached (what is shared counts as often as it is met; a slice's spare places count too). A statement '..UptoSaid' is the law's where the arguments, and the package variables that the reading takes, are together of bulk at most 1048576: NARROWER than '..Said'. Prove '..Said' where nothing that the law and all that it calls make is longer than what came in: it says more and counts as full. Else prove '..UptoSaid'. A law counts once. -/
mutual
def uptoBulk {H : Type} : DataW H → Nat
  | .lit (.string bytes) => bytes.length + 1
  | .lit _ => 1
  | .nil => 1
  | .ptr d => uptoBulk d + 1
  | .slice elems spare => uptoBulkAll elems + uptoBulkAll spare + 1
  | .agg parts => uptoBulkAll parts + 1
  | .iface _ d => uptoBulk d + 1
  | .map entries => uptoBulkEntries entries + 1
  | .held _ => 1
def uptoBulkAll {H : Type} : List (DataW H) → Nat
  | [] => 0
  | d :: r => uptoBulk d + uptoBulkAll r
def uptoBulkEntries {H : Type} : List (Lit × DataW H) → Nat
  | [] => 0
  | x :: r => uptoBulkEntry x + uptoBulkEntries r
def uptoBulkEntry {H : Type} : Lit × DataW H → Nat
  | (.string bytes, d) => bytes.length + uptoBulk d + 1
  | (_, d) => uptoBulk d + 1
 end
def uptoSmall : (H : Type) → List (DataW H) → Bool := fun _ ds => decide (uptoBulkAll ds ≤ 1048576)
def OpenSpec.upto (s : _root_.Go.ChangeSpec) : _root_.Go.OpenSpec := { _root_.Go.OpenSpec.ofChange s with cond := some uptoSmall }

/-- 'hoardlaw23.MoverPlays', WHERE WHAT IT READS IS OF BULK AT MOST 1048576: true; the input reads as it did. -/
def moverPlaysUptoRow : OpenClaim := { program := "ytkgkegclebikhaagreat", sum := "91b7de11be6a832229af632cdfc51de69ae7359e8d9fb4111130fc00c345885b", func := "hoard/hoardlaw23.MoverPlays", spec := "moverPlays", unfollowed := true, recurses := true, apart := false, narrowed := true }
def MoverPlaysUptoSaid : Prop := moverPlaysUptoRow.holds Tryz.pinned (OpenSpec.upto moverPlaysSpec)

/-- 'hoardlaw23.MoverEnds', WHERE WHAT IT READS IS OF BULK AT MOST 1048576: true; the input reads as it did. -/
def moverEndsUptoRow : OpenClaim := { program := "ytkgkegclebikhaagreat", sum := "91b7de11be6a832229af632cdfc51de69ae7359e8d9fb4111130fc00c345885b", func := "hoard/hoardlaw23.MoverEnds", spec := "moverEnds", unfollowed := true, recurses := true, apart := false, narrowed := true }
def MoverEndsUptoSaid : Prop := moverEndsUptoRow.holds Tryz.pinned (OpenSpec.upto moverEndsSpec)

/-- 'hoardlaw23.MoverOfNothing', WHERE WHAT IT READS IS OF BULK AT MOST 1048576: true; the input reads as it did. -/
def moverOfNothingUptoRow : OpenClaim := { program := "ytkgkegclebikhaagreat", sum := "91b7de11be6a832229af632cdfc51de69ae7359e8d9fb4111130fc00c345885b", func := "hoard/hoardlaw23.MoverOfNothing", spec := "moverOfNothing", unfollowed := true, recurses := true, apart := false, narrowed := true }
def MoverOfNothingUptoSaid : Prop := moverOfNothingUptoRow.holds Tryz.pinned (OpenSpec.upto moverOfNothingSpec)

/-- 'hoardlaw23.MoverErrors', WHERE WHAT IT READS IS OF BULK AT MOST 1048576: true; the input reads as it did. -/
def moverErrorsUptoRow : OpenClaim := { program := "ytkgkegclebikhaagreat", sum := "91b7de11be6a832229af632cdfc51de69ae7359e8d9fb4111130fc00c345885b", func := "hoard/hoardlaw23.MoverErrors", spec := "moverErrors", unfollowed := true, recurses := true, apart := false, narrowed := true }
def MoverErrorsUptoSaid : Prop := moverErrorsUptoRow.holds Tryz.pinned (OpenSpec.upto moverErrorsSpec)

/-- 'hoardlaw24.ShardDrained', WHERE WHAT IT READS IS OF BULK AT MOST 1048576: true; the input reads as it did. -/
def shardDrainedUptoRow : OpenClaim := { program := "ytkgkegclebikhaagreat", sum := "91b7de11be6a832229af632cdfc51de69ae7359e8d9fb4111130fc00c345885b", func := "hoard/hoardlaw24.ShardDrained", spec := "shardDrained", inPlace := ["internal/bytealg.IndexByteString"], unfollowed := true, recurses := true, apart := false, narrowed := true }
def ShardDrainedUptoSaid : Prop := shardDrainedUptoRow.holds Tryz.pinned (OpenSpec.upto shardDrainedSpec)

/-- 'hoardlaw24.ShardRoom', WHERE WHAT IT READS IS OF BULK AT MOST 1048576: true; the input reads as it did. -/
def shardRoomUptoRow : OpenClaim := { program := "ytkgkegclebikhaagreat", sum := "91b7de11be6a832229af632cdfc51de69ae7359e8d9fb4111130fc00c345885b", func := "hoard/hoardlaw24.ShardRoom", spec := "shardRoom", inPlace := ["internal/bytealg.IndexByteString"], unfollowed := true, recurses := true, apart := false, narrowed := true }
def ShardRoomUptoSaid : Prop := shardRoomUptoRow.holds Tryz.pinned (OpenSpec.upto shardRoomSpec)

/-- 'hoardlaw24.ShardErrors', WHERE WHAT IT READS IS OF BULK AT MOST 1048576: true; the input reads as it did. -/
def shardErrorsUptoRow : OpenClaim := { program := "ytkgkegclebikhaagreat", sum := "91b7de11be6a832229af632cdfc51de69ae7359e8d9fb4111130fc00c345885b", func := "hoard/hoardlaw24.ShardErrors", spec := "shardErrors", inPlace := ["internal/bytealg.IndexByteString"], unfollowed := true, recurses := true, apart := false, narrowed := true }
def ShardErrorsUptoSaid : Prop := shardErrorsUptoRow.holds Tryz.pinned (OpenSpec.upto shardErrorsSpec)

/-- 'hoardlaw24.ShardFolds', WHERE WHAT IT READS IS OF BULK AT MOST 1048576: true; the input reads as it did. -/
def shardFoldsUptoRow : OpenClaim := { program := "ytkgkegclebikhaagreat", sum := "91b7de11be6a832229af632cdfc51de69ae7359e8d9fb4111130fc00c345885b", func := "hoard/hoardlaw24.ShardFolds", spec := "shardFolds", inPlace := ["internal/bytealg.IndexByteString"], unfollowed := true, recurses := true, apart := false, narrowed := true }
def ShardFoldsUptoSaid : Prop := shardFoldsUptoRow.holds Tryz.pinned (OpenSpec.upto shardFoldsSpec)

/-- 'hoardlaw24.ShardPlays', WHERE WHAT IT READS IS OF BULK AT MOST 1048576: true; the input reads as it did. -/
def shardPlaysUptoRow : OpenClaim := { program := "ytkgkegclebikhaagreat", sum := "91b7de11be6a832229af632cdfc51de69ae7359e8d9fb4111130fc00c345885b", func := "hoard/hoardlaw24.ShardPlays", spec := "shardPlays", inPlace := ["internal/bytealg.IndexByteString"], unfollowed := true, recurses := true, apart := false, narrowed := true }
def ShardPlaysUptoSaid : Prop := shardPlaysUptoRow.holds Tryz.pinned (OpenSpec.upto shardPlaysSpec)

/-- 'hoardlaw24.ShardOfNothing', WHERE WHAT IT READS IS OF BULK AT MOST 1048576: true; the input reads as it did. -/
def shardOfNothingUptoRow : OpenClaim := { program := "ytkgkegclebikhaagreat", sum := "91b7de11be6a832229af632cdfc51de69ae7359e8d9fb4111130fc00c345885b", func := "hoard/hoardlaw24.ShardOfNothing", spec := "shardOfNothing", inPlace := ["internal/bytealg.IndexByteString"], unfollowed := true, recurses := true, apart := false, narrowed := true }
def ShardOfNothingUptoSaid : Prop := shardOfNothingUptoRow.holds Tryz.pinned (OpenSpec.upto shardOfNothingSpec)

end Rows
end Go.Proofs.YtkgkegclebikhaaGreat
