/-
  No cell of these rows narrows 'for every input' (looked for: loops, veiled, ifaces, maps, wideKeys, modest, calm, conditions, laid).
  DERIVED. THE GIVEN ROWS OF THIS SEAT. 11 by the template 'for every input the law returns true; each argument reads behind the call as it read before'; 0 by the template 'total and deterministic' (their statements: YthpiokdibknpaaaTotals.lean).
  GIVEN WITH THE SEED: the statements are not yours to turn. If you find one false, say at which input.
  Laid BY PROGRAM, IN A SANDBOX (cutbox-rows.mjs): the forced cells as the released guide's own fill.sh prints them over the translation 5545e11cca1df704… (all of the seat's roots in one cut). By AI agents, Wed Nov 11 2026. No macro, syntax, notation, axiom, sorry.
-/
import Derived.Test.YthpiokdibknpaaaChecked
import GoSem.Claim
import GoSem.ClaimJoined
import GoSem.ClaimMapViews
import Derived.JoinedTies
import Derived.KernelRfl
namespace Go.Proofs.Ythpiokdibknpaaa
/- THE CELL 'sum', in the pinned program and in every row, IS THE sha256 OF THE DUMP (.gsa) THAT YthpiokdibknpaaaProg.lean LOADS. Nothing in Lean hashes anything: it is a label: what it is worth is what the hold of that sum in a sandbox is worth. -/
noncomputable def Try.pinned : Pinned := { name := "ythpiokdibknpaaa", sum := "5545e11cca1df704fbf02bec61b36778bca8bfbfe774d97483f909ac71f419df", checked := Try.checked }
namespace Rows
def none {H : Type} : Left H := { results := [], args := [] }

/-- 'abecedarylaw17.MessageCommands': WHATEVER THE INPUT: true; the input reads as it did. -/
def messageCommandsSpec : ChangeSpec := { name := "messageCommands", fn := fun _ => fun
  | [d] => { results := [.lit (.bool true)], args := [d] }
  | _ => none }
def messageCommandsRow : OpenClaim := { program := "ythpiokdibknpaaa", sum := "5545e11cca1df704fbf02bec61b36778bca8bfbfe774d97483f909ac71f419df", func := "abecedary/abecedarylaw17.MessageCommands", spec := "messageCommands", unfollowed := true, recurses := true, apart := false }
def MessageCommandsSaid : Prop := messageCommandsRow.holds Try.pinned (OpenSpec.ofChange messageCommandsSpec)

/-- ITS FALSE NEIGHBOUR: 'it returns false'. Refute it at one input. -/
def messageCommandsWrong : ChangeSpec := { name := "messageCommands", fn := fun _ => fun
  | [d] => { results := [.lit (.bool false)], args := [d] }
  | _ => none }
def MessageCommandsWrongFalsely : Prop := messageCommandsRow.holds Try.pinned (OpenSpec.ofChange messageCommandsWrong)

/-- 'abecedarylaw17.MessageCommandsRead': WHATEVER THE INPUT: true; the input reads as it did. -/
def messageCommandsReadSpec : ChangeSpec := { name := "messageCommandsRead", fn := fun _ => fun
  | [d] => { results := [.lit (.bool true)], args := [d] }
  | _ => none }
def messageCommandsReadRow : OpenClaim := { program := "ythpiokdibknpaaa", sum := "5545e11cca1df704fbf02bec61b36778bca8bfbfe774d97483f909ac71f419df", func := "abecedary/abecedarylaw17.MessageCommandsRead", spec := "messageCommandsRead", unfollowed := true, recurses := true, apart := false }
def MessageCommandsReadSaid : Prop := messageCommandsReadRow.holds Try.pinned (OpenSpec.ofChange messageCommandsReadSpec)

/-- ITS FALSE NEIGHBOUR: 'it returns false'. Refute it at one input. -/
def messageCommandsReadWrong : ChangeSpec := { name := "messageCommandsRead", fn := fun _ => fun
  | [d] => { results := [.lit (.bool false)], args := [d] }
  | _ => none }
def MessageCommandsReadWrongFalsely : Prop := messageCommandsReadRow.holds Try.pinned (OpenSpec.ofChange messageCommandsReadWrong)

/-- 'abecedarylaw17.MessageConfigs': WHATEVER THE INPUT: true; the input reads as it did. -/
def messageConfigsSpec : ChangeSpec := { name := "messageConfigs", fn := fun _ => fun
  | [d] => { results := [.lit (.bool true)], args := [d] }
  | _ => none }
def messageConfigsRow : OpenClaim := { program := "ythpiokdibknpaaa", sum := "5545e11cca1df704fbf02bec61b36778bca8bfbfe774d97483f909ac71f419df", func := "abecedary/abecedarylaw17.MessageConfigs", spec := "messageConfigs", unfollowed := true, recurses := true, apart := false }
def MessageConfigsSaid : Prop := messageConfigsRow.holds Try.pinned (OpenSpec.ofChange messageConfigsSpec)

/-- ITS FALSE NEIGHBOUR: 'it returns false'. Refute it at one input. -/
def messageConfigsWrong : ChangeSpec := { name := "messageConfigs", fn := fun _ => fun
  | [d] => { results := [.lit (.bool false)], args := [d] }
  | _ => none }
def MessageConfigsWrongFalsely : Prop := messageConfigsRow.holds Try.pinned (OpenSpec.ofChange messageConfigsWrong)

/-- 'abecedarylaw17.MessageConfigsRead': WHATEVER THE INPUT: true; the input reads as it did. -/
def messageConfigsReadSpec : ChangeSpec := { name := "messageConfigsRead", fn := fun _ => fun
  | [d] => { results := [.lit (.bool true)], args := [d] }
  | _ => none }
def messageConfigsReadRow : OpenClaim := { program := "ythpiokdibknpaaa", sum := "5545e11cca1df704fbf02bec61b36778bca8bfbfe774d97483f909ac71f419df", func := "abecedary/abecedarylaw17.MessageConfigsRead", spec := "messageConfigsRead", unfollowed := true, recurses := true, apart := false }
def MessageConfigsReadSaid : Prop := messageConfigsReadRow.holds Try.pinned (OpenSpec.ofChange messageConfigsReadSpec)

/-- ITS FALSE NEIGHBOUR: 'it returns false'. Refute it at one input. -/
def messageConfigsReadWrong : ChangeSpec := { name := "messageConfigsRead", fn := fun _ => fun
  | [d] => { results := [.lit (.bool false)], args := [d] }
  | _ => none }
def MessageConfigsReadWrongFalsely : Prop := messageConfigsReadRow.holds Try.pinned (OpenSpec.ofChange messageConfigsReadWrong)

/-- 'abecedarylaw17.MessageEntries': WHATEVER THE INPUT: true; the input reads as it did. -/
def messageEntriesSpec : ChangeSpec := { name := "messageEntries", fn := fun _ => fun
  | [d] => { results := [.lit (.bool true)], args := [d] }
  | _ => none }
def messageEntriesRow : OpenClaim := { program := "ythpiokdibknpaaa", sum := "5545e11cca1df704fbf02bec61b36778bca8bfbfe774d97483f909ac71f419df", func := "abecedary/abecedarylaw17.MessageEntries", spec := "messageEntries", unfollowed := true, recurses := true, apart := false }
def MessageEntriesSaid : Prop := messageEntriesRow.holds Try.pinned (OpenSpec.ofChange messageEntriesSpec)

/-- ITS FALSE NEIGHBOUR: 'it returns false'. Refute it at one input. -/
def messageEntriesWrong : ChangeSpec := { name := "messageEntries", fn := fun _ => fun
  | [d] => { results := [.lit (.bool false)], args := [d] }
  | _ => none }
def MessageEntriesWrongFalsely : Prop := messageEntriesRow.holds Try.pinned (OpenSpec.ofChange messageEntriesWrong)

/-- 'abecedarylaw17.MessageEntriesRead': WHATEVER THE INPUT: true; the input reads as it did. -/
def messageEntriesReadSpec : ChangeSpec := { name := "messageEntriesRead", fn := fun _ => fun
  | [d] => { results := [.lit (.bool true)], args := [d] }
  | _ => none }
def messageEntriesReadRow : OpenClaim := { program := "ythpiokdibknpaaa", sum := "5545e11cca1df704fbf02bec61b36778bca8bfbfe774d97483f909ac71f419df", func := "abecedary/abecedarylaw17.MessageEntriesRead", spec := "messageEntriesRead", unfollowed := true, recurses := true, apart := false }
def MessageEntriesReadSaid : Prop := messageEntriesReadRow.holds Try.pinned (OpenSpec.ofChange messageEntriesReadSpec)

/-- ITS FALSE NEIGHBOUR: 'it returns false'. Refute it at one input. -/
def messageEntriesReadWrong : ChangeSpec := { name := "messageEntriesRead", fn := fun _ => fun
  | [d] => { results := [.lit (.bool false)], args := [d] }
  | _ => none }
def MessageEntriesReadWrongFalsely : Prop := messageEntriesReadRow.holds Try.pinned (OpenSpec.ofChange messageEntriesReadWrong)

/-- 'abecedarylaw17.MessageWrites': WHATEVER THE INPUT: true; the input reads as it did. -/
def messageWritesSpec : ChangeSpec := { name := "messageWrites", fn := fun _ => fun
  | [d] => { results := [.lit (.bool true)], args := [d] }
  | _ => none }
def messageWritesRow : OpenClaim := { program := "ythpiokdibknpaaa", sum := "5545e11cca1df704fbf02bec61b36778bca8bfbfe774d97483f909ac71f419df", func := "abecedary/abecedarylaw17.MessageWrites", spec := "messageWrites", unfollowed := true, recurses := true, apart := false }
def MessageWritesSaid : Prop := messageWritesRow.holds Try.pinned (OpenSpec.ofChange messageWritesSpec)

/-- ITS FALSE NEIGHBOUR: 'it returns false'. Refute it at one input. -/
def messageWritesWrong : ChangeSpec := { name := "messageWrites", fn := fun _ => fun
  | [d] => { results := [.lit (.bool false)], args := [d] }
  | _ => none }
def MessageWritesWrongFalsely : Prop := messageWritesRow.holds Try.pinned (OpenSpec.ofChange messageWritesWrong)

/-- 'abecedarylaw17.MessageReads': WHATEVER THE INPUT: true; the input reads as it did. -/
def messageReadsSpec : ChangeSpec := { name := "messageReads", fn := fun _ => fun
  | [d] => { results := [.lit (.bool true)], args := [d] }
  | _ => none }
def messageReadsRow : OpenClaim := { program := "ythpiokdibknpaaa", sum := "5545e11cca1df704fbf02bec61b36778bca8bfbfe774d97483f909ac71f419df", func := "abecedary/abecedarylaw17.MessageReads", spec := "messageReads", unfollowed := true, recurses := true, apart := false }
def MessageReadsSaid : Prop := messageReadsRow.holds Try.pinned (OpenSpec.ofChange messageReadsSpec)

/-- ITS FALSE NEIGHBOUR: 'it returns false'. Refute it at one input. -/
def messageReadsWrong : ChangeSpec := { name := "messageReads", fn := fun _ => fun
  | [d] => { results := [.lit (.bool false)], args := [d] }
  | _ => none }
def MessageReadsWrongFalsely : Prop := messageReadsRow.holds Try.pinned (OpenSpec.ofChange messageReadsWrong)

/-- 'abecedarylaw17.MessageBack': WHATEVER THE INPUT: true; the input reads as it did. -/
def messageBackSpec : ChangeSpec := { name := "messageBack", fn := fun _ => fun
  | [d] => { results := [.lit (.bool true)], args := [d] }
  | _ => none }
def messageBackRow : OpenClaim := { program := "ythpiokdibknpaaa", sum := "5545e11cca1df704fbf02bec61b36778bca8bfbfe774d97483f909ac71f419df", func := "abecedary/abecedarylaw17.MessageBack", spec := "messageBack", unfollowed := true, recurses := true, apart := false }
def MessageBackSaid : Prop := messageBackRow.holds Try.pinned (OpenSpec.ofChange messageBackSpec)

/-- ITS FALSE NEIGHBOUR: 'it returns false'. Refute it at one input. -/
def messageBackWrong : ChangeSpec := { name := "messageBack", fn := fun _ => fun
  | [d] => { results := [.lit (.bool false)], args := [d] }
  | _ => none }
def MessageBackWrongFalsely : Prop := messageBackRow.holds Try.pinned (OpenSpec.ofChange messageBackWrong)

/-- 'abecedarylaw17.MessageCuts': WHATEVER THE INPUT: true; the input reads as it did. -/
def messageCutsSpec : ChangeSpec := { name := "messageCuts", fn := fun _ => fun
  | [d1, d2, d3] => { results := [.lit (.bool true)], args := [d1, d2, d3] }
  | _ => none }
def messageCutsRow : OpenClaim := { program := "ythpiokdibknpaaa", sum := "5545e11cca1df704fbf02bec61b36778bca8bfbfe774d97483f909ac71f419df", func := "abecedary/abecedarylaw17.MessageCuts", spec := "messageCuts", unfollowed := true, recurses := true, apart := false }
def MessageCutsSaid : Prop := messageCutsRow.holds Try.pinned (OpenSpec.ofChange messageCutsSpec)

/-- ITS FALSE NEIGHBOUR: 'it returns false'. Refute it at one input. -/
def messageCutsWrong : ChangeSpec := { name := "messageCuts", fn := fun _ => fun
  | [d1, d2, d3] => { results := [.lit (.bool false)], args := [d1, d2, d3] }
  | _ => none }
def MessageCutsWrongFalsely : Prop := messageCutsRow.holds Try.pinned (OpenSpec.ofChange messageCutsWrong)

/-- 'abecedarylaw17.MessageBursts': WHATEVER THE INPUT: true; the input reads as it did. -/
def messageBurstsSpec : ChangeSpec := { name := "messageBursts", fn := fun _ => fun
  | [d1, d2, d3] => { results := [.lit (.bool true)], args := [d1, d2, d3] }
  | _ => none }
def messageBurstsRow : OpenClaim := { program := "ythpiokdibknpaaa", sum := "5545e11cca1df704fbf02bec61b36778bca8bfbfe774d97483f909ac71f419df", func := "abecedary/abecedarylaw17.MessageBursts", spec := "messageBursts", unfollowed := true, recurses := true, apart := false }
def MessageBurstsSaid : Prop := messageBurstsRow.holds Try.pinned (OpenSpec.ofChange messageBurstsSpec)

/-- ITS FALSE NEIGHBOUR: 'it returns false'. Refute it at one input. -/
def messageBurstsWrong : ChangeSpec := { name := "messageBursts", fn := fun _ => fun
  | [d1, d2, d3] => { results := [.lit (.bool false)], args := [d1, d2, d3] }
  | _ => none }
def MessageBurstsWrongFalsely : Prop := messageBurstsRow.holds Try.pinned (OpenSpec.ofChange messageBurstsWrong)

/- THE SECOND FORM. 'bulk': how many values and letters a reading holds, each counted each time it is reached (what is shared counts as often as it is met; a slice's spare places count too). A statement '..UptoSaid' is the law's where the arguments, and the package variables that the reading takes, are together of bulk at most 1048576: NARROWER than '..Said'. Prove '..Said' where nothing that the law and all that it calls make is longer than what came in: it says more and counts as full. Else prove '..UptoSaid'. A law counts once. -/
mutual
def uptoBulk {H : Type} : DataW H → Nat
  | .lit (.string bytes) => bytes.length + 1
  | .lit _ => 1
  | .nil => 1
  | .ptr d => uptoBulk d + 1
  | .slice elems spare => uptoBulkAll elems + uptoBulkAll spare + 1
  | .agg parts => uptoBulkAll parts + 1
  | .iface _ d => uptoBulk d + 1
  | .map entries => uptoBulkEntries entries + 1
  | .held _ => 1
def uptoBulkAll {H : Type} : List (DataW H) → Nat
  | [] => 0
  | d :: r => uptoBulk d + uptoBulkAll r
def uptoBulkEntries {H : Type} : List (Lit × DataW H) → Nat
  | [] => 0
  | x :: r => uptoBulkEntry x + uptoBulkEntries r
def uptoBulkEntry {H : Type} : Lit × DataW H → Nat
  | (.string bytes, d) => bytes.length + uptoBulk d + 1
  | (_, d) => uptoBulk d + 1
 end
def uptoSmall : (H : Type) → List (DataW H) → Bool := fun _ ds => decide (uptoBulkAll ds ≤ 1048576)
def OpenSpec.upto (s : _root_.Go.ChangeSpec) : _root_.Go.OpenSpec := { _root_.Go.OpenSpec.ofChange s with cond := some uptoSmall }

/-- 'abecedarylaw17.MessageCommands', WHERE WHAT IT READS IS OF BULK AT MOST 1048576: true; the input reads as it did. -/
def messageCommandsUptoRow : OpenClaim := { program := "ythpiokdibknpaaa", sum := "5545e11cca1df704fbf02bec61b36778bca8bfbfe774d97483f909ac71f419df", func := "abecedary/abecedarylaw17.MessageCommands", spec := "messageCommands", unfollowed := true, recurses := true, apart := false, narrowed := true }
def MessageCommandsUptoSaid : Prop := messageCommandsUptoRow.holds Try.pinned (OpenSpec.upto messageCommandsSpec)

/-- 'abecedarylaw17.MessageCommandsRead', WHERE WHAT IT READS IS OF BULK AT MOST 1048576: true; the input reads as it did. -/
def messageCommandsReadUptoRow : OpenClaim := { program := "ythpiokdibknpaaa", sum := "5545e11cca1df704fbf02bec61b36778bca8bfbfe774d97483f909ac71f419df", func := "abecedary/abecedarylaw17.MessageCommandsRead", spec := "messageCommandsRead", unfollowed := true, recurses := true, apart := false, narrowed := true }
def MessageCommandsReadUptoSaid : Prop := messageCommandsReadUptoRow.holds Try.pinned (OpenSpec.upto messageCommandsReadSpec)

/-- 'abecedarylaw17.MessageConfigs', WHERE WHAT IT READS IS OF BULK AT MOST 1048576: true; the input reads as it did. -/
def messageConfigsUptoRow : OpenClaim := { program := "ythpiokdibknpaaa", sum := "5545e11cca1df704fbf02bec61b36778bca8bfbfe774d97483f909ac71f419df", func := "abecedary/abecedarylaw17.MessageConfigs", spec := "messageConfigs", unfollowed := true, recurses := true, apart := false, narrowed := true }
def MessageConfigsUptoSaid : Prop := messageConfigsUptoRow.holds Try.pinned (OpenSpec.upto messageConfigsSpec)

/-- 'abecedarylaw17.MessageConfigsRead', WHERE WHAT IT READS IS OF BULK AT MOST 1048576: true; the input reads as it did. -/
def messageConfigsReadUptoRow : OpenClaim := { program := "ythpiokdibknpaaa", sum := "5545e11cca1df704fbf02bec61b36778bca8bfbfe774d97483f909ac71f419df", func := "abecedary/abecedarylaw17.MessageConfigsRead", spec := "messageConfigsRead", unfollowed := true, recurses := true, apart := false, narrowed := true }
def MessageConfigsReadUptoSaid : Prop := messageConfigsReadUptoRow.holds Try.pinned (OpenSpec.upto messageConfigsReadSpec)

/-- 'abecedarylaw17.MessageEntries', WHERE WHAT IT READS IS OF BULK AT MOST 1048576: true; the input reads as it did. -/
def messageEntriesUptoRow : OpenClaim := { program := "ythpiokdibknpaaa", sum := "5545e11cca1df704fbf02bec61b36778bca8bfbfe774d97483f909ac71f419df", func := "abecedary/abecedarylaw17.MessageEntries", spec := "messageEntries", unfollowed := true, recurses := true, apart := false, narrowed := true }
def MessageEntriesUptoSaid : Prop := messageEntriesUptoRow.holds Try.pinned (OpenSpec.upto messageEntriesSpec)

/-- 'abecedarylaw17.MessageEntriesRead', WHERE WHAT IT READS IS OF BULK AT MOST 1048576: true; the input reads as it did. -/
def messageEntriesReadUptoRow : OpenClaim := { program := "ythpiokdibknpaaa", sum := "5545e11cca1df704fbf02bec61b36778bca8bfbfe774d97483f909ac71f419df", func := "abecedary/abecedarylaw17.MessageEntriesRead", spec := "messageEntriesRead", unfollowed := true, recurses := true, apart := false, narrowed := true }
def MessageEntriesReadUptoSaid : Prop := messageEntriesReadUptoRow.holds Try.pinned (OpenSpec.upto messageEntriesReadSpec)

/-- 'abecedarylaw17.MessageWrites', WHERE WHAT IT READS IS OF BULK AT MOST 1048576: true; the input reads as it did. -/
def messageWritesUptoRow : OpenClaim := { program := "ythpiokdibknpaaa", sum := "5545e11cca1df704fbf02bec61b36778bca8bfbfe774d97483f909ac71f419df", func := "abecedary/abecedarylaw17.MessageWrites", spec := "messageWrites", unfollowed := true, recurses := true, apart := false, narrowed := true }
def MessageWritesUptoSaid : Prop := messageWritesUptoRow.holds Try.pinned (OpenSpec.upto messageWritesSpec)

/-- 'abecedarylaw17.MessageReads', WHERE WHAT IT READS IS OF BULK AT MOST 1048576: true; the input reads as it did. -/
def messageReadsUptoRow : OpenClaim := { program := "ythpiokdibknpaaa", sum := "5545e11cca1df704fbf02bec61b36778bca8bfbfe774d97483f909ac71f419df", func := "abecedary/abecedarylaw17.MessageReads", spec := "messageReads", unfollowed := true, recurses := true, apart := false, narrowed := true }
def MessageReadsUptoSaid : Prop := messageReadsUptoRow.holds Try.pinned (OpenSpec.upto messageReadsSpec)

/-- 'abecedarylaw17.MessageBack', WHERE WHAT IT READS IS OF BULK AT MOST 1048576: true; the input reads as it did. -/
def messageBackUptoRow : OpenClaim := { program := "ythpiokdibknpaaa", sum := "5545e11cca1df704fbf02bec61b36778bca8bfbfe774d97483f909ac71f419df", func := "abecedary/abecedarylaw17.MessageBack", spec := "messageBack", unfollowed := true, recurses := true, apart := false, narrowed := true }
def MessageBackUptoSaid : Prop := messageBackUptoRow.holds Try.pinned (OpenSpec.upto messageBackSpec)

/-- 'abecedarylaw17.MessageCuts', WHERE WHAT IT READS IS OF BULK AT MOST 1048576: true; the input reads as it did. -/
def messageCutsUptoRow : OpenClaim := { program := "ythpiokdibknpaaa", sum := "5545e11cca1df704fbf02bec61b36778bca8bfbfe774d97483f909ac71f419df", func := "abecedary/abecedarylaw17.MessageCuts", spec := "messageCuts", unfollowed := true, recurses := true, apart := false, narrowed := true }
def MessageCutsUptoSaid : Prop := messageCutsUptoRow.holds Try.pinned (OpenSpec.upto messageCutsSpec)

/-- 'abecedarylaw17.MessageBursts', WHERE WHAT IT READS IS OF BULK AT MOST 1048576: true; the input reads as it did. -/
def messageBurstsUptoRow : OpenClaim := { program := "ythpiokdibknpaaa", sum := "5545e11cca1df704fbf02bec61b36778bca8bfbfe774d97483f909ac71f419df", func := "abecedary/abecedarylaw17.MessageBursts", spec := "messageBursts", unfollowed := true, recurses := true, apart := false, narrowed := true }
def MessageBurstsUptoSaid : Prop := messageBurstsUptoRow.holds Try.pinned (OpenSpec.upto messageBurstsSpec)

end Rows
end Go.Proofs.Ythpiokdibknpaaa
