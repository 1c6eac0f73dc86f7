/-
  No cell of these rows narrows 'for every input' (looked for: loops, veiled, ifaces, maps, wideKeys, modest, calm, conditions, laid).
  DERIVED. THE GIVEN ROWS OF THIS SEAT. 6 by the template 'for every input the law returns true; each argument reads behind the call as it read before'; 0 by the template 'total and deterministic' (their statements: YtneeeblghijmgaaGreatTotals.lean).
  GIVEN WITH THE SEED: the statements are not yours to turn. If you find one false, say at which input.
  Laid BY PROGRAM, IN A SANDBOX (cutbox-rows.mjs): the forced cells as the released guide's own fill.sh prints them over the translation d261f38ce27ec437… (all of the seat's roots in one cut). By AI agents, Wed Nov 11 2026. No macro, syntax, notation, axiom, sorry.
-/
import Derived.Test.YtneeeblghijmgaaGreatChecked
import GoSem.Claim
import GoSem.ClaimJoined
import GoSem.ClaimMapViews
import Derived.JoinedTies
import Derived.KernelRfl
namespace Go.Proofs.YtneeeblghijmgaaGreat
/- THE CELL 'sum', in the pinned program and in every row, IS THE sha256 OF THE DUMP (.gsa) THAT YtneeeblghijmgaaGreatProg.lean LOADS. Nothing in Lean hashes anything: it is a label: what it is worth is what the hold of that sum in a sandbox is worth. -/
noncomputable def Tryz.pinned : Pinned := { name := "ytneeeblghijmgaagreat", sum := "d261f38ce27ec43700e7bdd53192d5a88c898bd7d214479274852959c4d413f4", checked := Tryz.checked }
namespace Rows
def none {H : Type} : Left H := { results := [], args := [] }

/-- 'abecedarylaw18.LogMerged': WHATEVER THE INPUT: true; the input reads as it did. -/
def logMergedSpec : ChangeSpec := { name := "logMerged", fn := fun _ => fun
  | [d1, d2] => { results := [.lit (.bool true)], args := [d1, d2] }
  | _ => none }
def logMergedRow : OpenClaim := { program := "ytneeeblghijmgaagreat", sum := "d261f38ce27ec43700e7bdd53192d5a88c898bd7d214479274852959c4d413f4", func := "abecedary/abecedarylaw18.LogMerged", spec := "logMerged", unfollowed := true, recurses := true, apart := false }
def LogMergedSaid : Prop := logMergedRow.holds Tryz.pinned (OpenSpec.ofChange logMergedSpec)

/-- ITS FALSE NEIGHBOUR: 'it returns false'. Refute it at one input. -/
def logMergedWrong : ChangeSpec := { name := "logMerged", fn := fun _ => fun
  | [d1, d2] => { results := [.lit (.bool false)], args := [d1, d2] }
  | _ => none }
def LogMergedWrongFalsely : Prop := logMergedRow.holds Tryz.pinned (OpenSpec.ofChange logMergedWrong)

/-- 'abecedarylaw18.LogParts': WHATEVER THE INPUT: true; the input reads as it did. -/
def logPartsSpec : ChangeSpec := { name := "logParts", fn := fun _ => fun
  | [d1, d2, d3] => { results := [.lit (.bool true)], args := [d1, d2, d3] }
  | _ => none }
def logPartsRow : OpenClaim := { program := "ytneeeblghijmgaagreat", sum := "d261f38ce27ec43700e7bdd53192d5a88c898bd7d214479274852959c4d413f4", func := "abecedary/abecedarylaw18.LogParts", spec := "logParts", unfollowed := true, recurses := true, apart := false }
def LogPartsSaid : Prop := logPartsRow.holds Tryz.pinned (OpenSpec.ofChange logPartsSpec)

/-- ITS FALSE NEIGHBOUR: 'it returns false'. Refute it at one input. -/
def logPartsWrong : ChangeSpec := { name := "logParts", fn := fun _ => fun
  | [d1, d2, d3] => { results := [.lit (.bool false)], args := [d1, d2, d3] }
  | _ => none }
def LogPartsWrongFalsely : Prop := logPartsRow.holds Tryz.pinned (OpenSpec.ofChange logPartsWrong)

/-- 'abecedarylaw18.LogKeeps': WHATEVER THE INPUT: true; the input reads as it did. -/
def logKeepsSpec : ChangeSpec := { name := "logKeeps", fn := fun _ => fun
  | [d] => { results := [.lit (.bool true)], args := [d] }
  | _ => none }
def logKeepsRow : OpenClaim := { program := "ytneeeblghijmgaagreat", sum := "d261f38ce27ec43700e7bdd53192d5a88c898bd7d214479274852959c4d413f4", func := "abecedary/abecedarylaw18.LogKeeps", spec := "logKeeps", unfollowed := true, recurses := true, apart := false }
def LogKeepsSaid : Prop := logKeepsRow.holds Tryz.pinned (OpenSpec.ofChange logKeepsSpec)

/-- ITS FALSE NEIGHBOUR: 'it returns false'. Refute it at one input. -/
def logKeepsWrong : ChangeSpec := { name := "logKeeps", fn := fun _ => fun
  | [d] => { results := [.lit (.bool false)], args := [d] }
  | _ => none }
def LogKeepsWrongFalsely : Prop := logKeepsRow.holds Tryz.pinned (OpenSpec.ofChange logKeepsWrong)

/-- 'abecedarylaw18.LogConfigs': WHATEVER THE INPUT: true; the input reads as it did. -/
def logConfigsSpec : ChangeSpec := { name := "logConfigs", fn := fun _ => fun
  | [d1, d2] => { results := [.lit (.bool true)], args := [d1, d2] }
  | _ => none }
def logConfigsRow : OpenClaim := { program := "ytneeeblghijmgaagreat", sum := "d261f38ce27ec43700e7bdd53192d5a88c898bd7d214479274852959c4d413f4", func := "abecedary/abecedarylaw18.LogConfigs", spec := "logConfigs", unfollowed := true, recurses := true, apart := false }
def LogConfigsSaid : Prop := logConfigsRow.holds Tryz.pinned (OpenSpec.ofChange logConfigsSpec)

/-- ITS FALSE NEIGHBOUR: 'it returns false'. Refute it at one input. -/
def logConfigsWrong : ChangeSpec := { name := "logConfigs", fn := fun _ => fun
  | [d1, d2] => { results := [.lit (.bool false)], args := [d1, d2] }
  | _ => none }
def LogConfigsWrongFalsely : Prop := logConfigsRow.holds Tryz.pinned (OpenSpec.ofChange logConfigsWrong)

/-- 'abecedarylaw18.LogSynced': WHATEVER THE INPUT: true; the input reads as it did. -/
def logSyncedSpec : ChangeSpec := { name := "logSynced", fn := fun _ => fun
  | [d1, d2] => { results := [.lit (.bool true)], args := [d1, d2] }
  | _ => none }
def logSyncedRow : OpenClaim := { program := "ytneeeblghijmgaagreat", sum := "d261f38ce27ec43700e7bdd53192d5a88c898bd7d214479274852959c4d413f4", func := "abecedary/abecedarylaw18.LogSynced", spec := "logSynced", unfollowed := true, recurses := true, apart := false }
def LogSyncedSaid : Prop := logSyncedRow.holds Tryz.pinned (OpenSpec.ofChange logSyncedSpec)

/-- ITS FALSE NEIGHBOUR: 'it returns false'. Refute it at one input. -/
def logSyncedWrong : ChangeSpec := { name := "logSynced", fn := fun _ => fun
  | [d1, d2] => { results := [.lit (.bool false)], args := [d1, d2] }
  | _ => none }
def LogSyncedWrongFalsely : Prop := logSyncedRow.holds Tryz.pinned (OpenSpec.ofChange logSyncedWrong)

/-- 'abecedarylaw18.LogCrash': WHATEVER THE INPUT: true; the input reads as it did. -/
def logCrashSpec : ChangeSpec := { name := "logCrash", fn := fun _ => fun
  | [d1, d2, d3] => { results := [.lit (.bool true)], args := [d1, d2, d3] }
  | _ => none }
def logCrashRow : OpenClaim := { program := "ytneeeblghijmgaagreat", sum := "d261f38ce27ec43700e7bdd53192d5a88c898bd7d214479274852959c4d413f4", func := "abecedary/abecedarylaw18.LogCrash", spec := "logCrash", inPlace := ["maps.clone"], unfollowed := true, recurses := true, apart := false }
def LogCrashSaid : Prop := logCrashRow.holds Tryz.pinned (OpenSpec.ofChange logCrashSpec)

/-- ITS FALSE NEIGHBOUR: 'it returns false'. Refute it at one input. -/
def logCrashWrong : ChangeSpec := { name := "logCrash", fn := fun _ => fun
  | [d1, d2, d3] => { results := [.lit (.bool false)], args := [d1, d2, d3] }
  | _ => none }
def LogCrashWrongFalsely : Prop := logCrashRow.holds Tryz.pinned (OpenSpec.ofChange logCrashWrong)

/- THE SECOND FORM. 'bulk': how many values and letters a reading holds, each counted each time it is reached (what is shared counts as often as it is met; a slice's spare places count too). A statement '..UptoSaid' is the law's where the arguments, and the package variables that the reading takes, are together of bulk at most 1048576: NARROWER than '..Said'. Prove '..Said' where nothing that the law and all that it calls make is longer than what came in: it says more and counts as full. Else prove '..UptoSaid'. A law counts once. -/
mutual
def uptoBulk {H : Type} : DataW H → Nat
  | .lit (.string bytes) => bytes.length + 1
  | .lit _ => 1
  | .nil => 1
  | .ptr d => uptoBulk d + 1
  | .slice elems spare => uptoBulkAll elems + uptoBulkAll spare + 1
  | .agg parts => uptoBulkAll parts + 1
  | .iface _ d => uptoBulk d + 1
  | .map entries => uptoBulkEntries entries + 1
  | .held _ => 1
def uptoBulkAll {H : Type} : List (DataW H) → Nat
  | [] => 0
  | d :: r => uptoBulk d + uptoBulkAll r
def uptoBulkEntries {H : Type} : List (Lit × DataW H) → Nat
  | [] => 0
  | x :: r => uptoBulkEntry x + uptoBulkEntries r
def uptoBulkEntry {H : Type} : Lit × DataW H → Nat
  | (.string bytes, d) => bytes.length + uptoBulk d + 1
  | (_, d) => uptoBulk d + 1
 end
def uptoSmall : (H : Type) → List (DataW H) → Bool := fun _ ds => decide (uptoBulkAll ds ≤ 1048576)
def OpenSpec.upto (s : _root_.Go.ChangeSpec) : _root_.Go.OpenSpec := { _root_.Go.OpenSpec.ofChange s with cond := some uptoSmall }

/-- 'abecedarylaw18.LogMerged', WHERE WHAT IT READS IS OF BULK AT MOST 1048576: true; the input reads as it did. -/
def logMergedUptoRow : OpenClaim := { program := "ytneeeblghijmgaagreat", sum := "d261f38ce27ec43700e7bdd53192d5a88c898bd7d214479274852959c4d413f4", func := "abecedary/abecedarylaw18.LogMerged", spec := "logMerged", unfollowed := true, recurses := true, apart := false, narrowed := true }
def LogMergedUptoSaid : Prop := logMergedUptoRow.holds Tryz.pinned (OpenSpec.upto logMergedSpec)

/-- 'abecedarylaw18.LogParts', WHERE WHAT IT READS IS OF BULK AT MOST 1048576: true; the input reads as it did. -/
def logPartsUptoRow : OpenClaim := { program := "ytneeeblghijmgaagreat", sum := "d261f38ce27ec43700e7bdd53192d5a88c898bd7d214479274852959c4d413f4", func := "abecedary/abecedarylaw18.LogParts", spec := "logParts", unfollowed := true, recurses := true, apart := false, narrowed := true }
def LogPartsUptoSaid : Prop := logPartsUptoRow.holds Tryz.pinned (OpenSpec.upto logPartsSpec)

/-- 'abecedarylaw18.LogKeeps', WHERE WHAT IT READS IS OF BULK AT MOST 1048576: true; the input reads as it did. -/
def logKeepsUptoRow : OpenClaim := { program := "ytneeeblghijmgaagreat", sum := "d261f38ce27ec43700e7bdd53192d5a88c898bd7d214479274852959c4d413f4", func := "abecedary/abecedarylaw18.LogKeeps", spec := "logKeeps", unfollowed := true, recurses := true, apart := false, narrowed := true }
def LogKeepsUptoSaid : Prop := logKeepsUptoRow.holds Tryz.pinned (OpenSpec.upto logKeepsSpec)

/-- 'abecedarylaw18.LogConfigs', WHERE WHAT IT READS IS OF BULK AT MOST 1048576: true; the input reads as it did. -/
def logConfigsUptoRow : OpenClaim := { program := "ytneeeblghijmgaagreat", sum := "d261f38ce27ec43700e7bdd53192d5a88c898bd7d214479274852959c4d413f4", func := "abecedary/abecedarylaw18.LogConfigs", spec := "logConfigs", unfollowed := true, recurses := true, apart := false, narrowed := true }
def LogConfigsUptoSaid : Prop := logConfigsUptoRow.holds Tryz.pinned (OpenSpec.upto logConfigsSpec)

/-- 'abecedarylaw18.LogSynced', WHERE WHAT IT READS IS OF BULK AT MOST 1048576: true; the input reads as it did. -/
def logSyncedUptoRow : OpenClaim := { program := "ytneeeblghijmgaagreat", sum := "d261f38ce27ec43700e7bdd53192d5a88c898bd7d214479274852959c4d413f4", func := "abecedary/abecedarylaw18.LogSynced", spec := "logSynced", unfollowed := true, recurses := true, apart := false, narrowed := true }
def LogSyncedUptoSaid : Prop := logSyncedUptoRow.holds Tryz.pinned (OpenSpec.upto logSyncedSpec)

/-- 'abecedarylaw18.LogCrash', WHERE WHAT IT READS IS OF BULK AT MOST 1048576: true; the input reads as it did. -/
def logCrashUptoRow : OpenClaim := { program := "ytneeeblghijmgaagreat", sum := "d261f38ce27ec43700e7bdd53192d5a88c898bd7d214479274852959c4d413f4", func := "abecedary/abecedarylaw18.LogCrash", spec := "logCrash", inPlace := ["maps.clone"], unfollowed := true, recurses := true, apart := false, narrowed := true }
def LogCrashUptoSaid : Prop := logCrashUptoRow.holds Tryz.pinned (OpenSpec.upto logCrashSpec)

end Rows
end Go.Proofs.YtneeeblghijmgaaGreat
