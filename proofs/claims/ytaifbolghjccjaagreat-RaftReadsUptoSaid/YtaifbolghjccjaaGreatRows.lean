/-
  No cell of these rows narrows 'for every input' (looked for: loops, veiled, ifaces, maps, wideKeys, modest, calm, conditions, laid).
  DERIVED. THE GIVEN ROWS OF THIS SEAT. 6 by the template 'for every input the law returns true; each argument reads behind the call as it read before'; 0 by the template 'total and deterministic' (their statements: YtaifbolghjccjaaGreatTotals.lean).
  GIVEN WITH THE SEED: the statements are not yours to turn. If you find one false, say at which input.
  Laid BY PROGRAM, IN A SANDBOX (cutbox-rows.mjs): the forced cells as the released guide's own fill.sh prints them over the translation 37bdc86985d3d01e… (all of the seat's roots in one cut). By AI agents, Wed Nov 11 2026. No macro, syntax, notation, axiom, sorry.
-/
import Derived.Test.YtaifbolghjccjaaGreatChecked
import GoSem.Claim
import GoSem.ClaimJoined
import GoSem.ClaimMapViews
import Derived.JoinedTies
import Derived.KernelRfl
namespace Go.Proofs.YtaifbolghjccjaaGreat
/- THE CELL 'sum', in the pinned program and in every row, IS THE sha256 OF THE DUMP (.gsa) THAT YtaifbolghjccjaaGreatProg.lean LOADS. Nothing in Lean hashes anything: it is a label: what it is worth is what the hold of that sum in a sandbox is worth. -/
noncomputable def Tryz.pinned : Pinned := { name := "ytaifbolghjccjaagreat", sum := "37bdc86985d3d01eecdbf35030dd48df8b63b95b2c16cdf4b94148e1284ad66c", checked := Tryz.checked }
namespace Rows
def none {H : Type} : Left H := { results := [], args := [] }

/-- 'abecedarylaw20.RaftTells': WHATEVER THE INPUT: true; the input reads as it did. -/
def raftTellsSpec : ChangeSpec := { name := "raftTells", fn := fun _ => fun
  | [d] => { results := [.lit (.bool true)], args := [d] }
  | _ => none }
def raftTellsRow : OpenClaim := { program := "ytaifbolghjccjaagreat", sum := "37bdc86985d3d01eecdbf35030dd48df8b63b95b2c16cdf4b94148e1284ad66c", func := "abecedary/abecedarylaw20.RaftTells", spec := "raftTells", unfollowed := true, recurses := true, apart := false }
def RaftTellsSaid : Prop := raftTellsRow.holds Tryz.pinned (OpenSpec.ofChange raftTellsSpec)

/-- ITS FALSE NEIGHBOUR: 'it returns false'. Refute it at one input. -/
def raftTellsWrong : ChangeSpec := { name := "raftTells", fn := fun _ => fun
  | [d] => { results := [.lit (.bool false)], args := [d] }
  | _ => none }
def RaftTellsWrongFalsely : Prop := raftTellsRow.holds Tryz.pinned (OpenSpec.ofChange raftTellsWrong)

/-- 'abecedarylaw20.RaftStays': WHATEVER THE INPUT: true; the input reads as it did. -/
def raftStaysSpec : ChangeSpec := { name := "raftStays", fn := fun _ => fun
  | [d] => { results := [.lit (.bool true)], args := [d] }
  | _ => none }
def raftStaysRow : OpenClaim := { program := "ytaifbolghjccjaagreat", sum := "37bdc86985d3d01eecdbf35030dd48df8b63b95b2c16cdf4b94148e1284ad66c", func := "abecedary/abecedarylaw20.RaftStays", spec := "raftStays", unfollowed := true, recurses := true, apart := false }
def RaftStaysSaid : Prop := raftStaysRow.holds Tryz.pinned (OpenSpec.ofChange raftStaysSpec)

/-- ITS FALSE NEIGHBOUR: 'it returns false'. Refute it at one input. -/
def raftStaysWrong : ChangeSpec := { name := "raftStays", fn := fun _ => fun
  | [d] => { results := [.lit (.bool false)], args := [d] }
  | _ => none }
def RaftStaysWrongFalsely : Prop := raftStaysRow.holds Tryz.pinned (OpenSpec.ofChange raftStaysWrong)

/-- 'abecedarylaw20.RaftLasts': WHATEVER THE INPUT: true; the input reads as it did. -/
def raftLastsSpec : ChangeSpec := { name := "raftLasts", fn := fun _ => fun
  | [d1, d2] => { results := [.lit (.bool true)], args := [d1, d2] }
  | _ => none }
def raftLastsRow : OpenClaim := { program := "ytaifbolghjccjaagreat", sum := "37bdc86985d3d01eecdbf35030dd48df8b63b95b2c16cdf4b94148e1284ad66c", func := "abecedary/abecedarylaw20.RaftLasts", spec := "raftLasts", unfollowed := true, recurses := true, apart := false }
def RaftLastsSaid : Prop := raftLastsRow.holds Tryz.pinned (OpenSpec.ofChange raftLastsSpec)

/-- ITS FALSE NEIGHBOUR: 'it returns false'. Refute it at one input. -/
def raftLastsWrong : ChangeSpec := { name := "raftLasts", fn := fun _ => fun
  | [d1, d2] => { results := [.lit (.bool false)], args := [d1, d2] }
  | _ => none }
def RaftLastsWrongFalsely : Prop := raftLastsRow.holds Tryz.pinned (OpenSpec.ofChange raftLastsWrong)

/-- 'abecedarylaw20.RaftLeads': WHATEVER THE INPUT: true; the input reads as it did. -/
def raftLeadsSpec : ChangeSpec := { name := "raftLeads", fn := fun _ => fun
  | [d1, d2] => { results := [.lit (.bool true)], args := [d1, d2] }
  | _ => none }
def raftLeadsRow : OpenClaim := { program := "ytaifbolghjccjaagreat", sum := "37bdc86985d3d01eecdbf35030dd48df8b63b95b2c16cdf4b94148e1284ad66c", func := "abecedary/abecedarylaw20.RaftLeads", spec := "raftLeads", unfollowed := true, recurses := true, apart := false }
def RaftLeadsSaid : Prop := raftLeadsRow.holds Tryz.pinned (OpenSpec.ofChange raftLeadsSpec)

/-- ITS FALSE NEIGHBOUR: 'it returns false'. Refute it at one input. -/
def raftLeadsWrong : ChangeSpec := { name := "raftLeads", fn := fun _ => fun
  | [d1, d2] => { results := [.lit (.bool false)], args := [d1, d2] }
  | _ => none }
def RaftLeadsWrongFalsely : Prop := raftLeadsRow.holds Tryz.pinned (OpenSpec.ofChange raftLeadsWrong)

/-- 'abecedarylaw20.RaftVotes': WHATEVER THE INPUT: true; the input reads as it did. -/
def raftVotesSpec : ChangeSpec := { name := "raftVotes", fn := fun _ => fun
  | [d1, d2] => { results := [.lit (.bool true)], args := [d1, d2] }
  | _ => none }
def raftVotesRow : OpenClaim := { program := "ytaifbolghjccjaagreat", sum := "37bdc86985d3d01eecdbf35030dd48df8b63b95b2c16cdf4b94148e1284ad66c", func := "abecedary/abecedarylaw20.RaftVotes", spec := "raftVotes", unfollowed := true, recurses := true, apart := false }
def RaftVotesSaid : Prop := raftVotesRow.holds Tryz.pinned (OpenSpec.ofChange raftVotesSpec)

/-- ITS FALSE NEIGHBOUR: 'it returns false'. Refute it at one input. -/
def raftVotesWrong : ChangeSpec := { name := "raftVotes", fn := fun _ => fun
  | [d1, d2] => { results := [.lit (.bool false)], args := [d1, d2] }
  | _ => none }
def RaftVotesWrongFalsely : Prop := raftVotesRow.holds Tryz.pinned (OpenSpec.ofChange raftVotesWrong)

/-- 'abecedarylaw20.RaftReads': WHATEVER THE INPUT: true; the input reads as it did. -/
def raftReadsSpec : ChangeSpec := { name := "raftReads", fn := fun _ => fun
  | [d1, d2] => { results := [.lit (.bool true)], args := [d1, d2] }
  | _ => none }
def raftReadsRow : OpenClaim := { program := "ytaifbolghjccjaagreat", sum := "37bdc86985d3d01eecdbf35030dd48df8b63b95b2c16cdf4b94148e1284ad66c", func := "abecedary/abecedarylaw20.RaftReads", spec := "raftReads", unfollowed := true, recurses := true, apart := false }
def RaftReadsSaid : Prop := raftReadsRow.holds Tryz.pinned (OpenSpec.ofChange raftReadsSpec)

/-- ITS FALSE NEIGHBOUR: 'it returns false'. Refute it at one input. -/
def raftReadsWrong : ChangeSpec := { name := "raftReads", fn := fun _ => fun
  | [d1, d2] => { results := [.lit (.bool false)], args := [d1, d2] }
  | _ => none }
def RaftReadsWrongFalsely : Prop := raftReadsRow.holds Tryz.pinned (OpenSpec.ofChange raftReadsWrong)

/- THE SECOND FORM. 'bulk': how many values and letters a reading holds, each counted each time it is reached (what is shared counts as often as it is met; a slice's spare places count too). A statement '..UptoSaid' is the law's where the arguments, and the package variables that the reading takes, are together of bulk at most 1048576: NARROWER than '..Said'. Prove '..Said' where nothing that the law and all that it calls make is longer than what came in: it says more and counts as full. Else prove '..UptoSaid'. A law counts once. -/
mutual
def uptoBulk {H : Type} : DataW H → Nat
  | .lit (.string bytes) => bytes.length + 1
  | .lit _ => 1
  | .nil => 1
  | .ptr d => uptoBulk d + 1
  | .slice elems spare => uptoBulkAll elems + uptoBulkAll spare + 1
  | .agg parts => uptoBulkAll parts + 1
  | .iface _ d => uptoBulk d + 1
  | .map entries => uptoBulkEntries entries + 1
  | .held _ => 1
def uptoBulkAll {H : Type} : List (DataW H) → Nat
  | [] => 0
  | d :: r => uptoBulk d + uptoBulkAll r
def uptoBulkEntries {H : Type} : List (Lit × DataW H) → Nat
  | [] => 0
  | x :: r => uptoBulkEntry x + uptoBulkEntries r
def uptoBulkEntry {H : Type} : Lit × DataW H → Nat
  | (.string bytes, d) => bytes.length + uptoBulk d + 1
  | (_, d) => uptoBulk d + 1
 end
def uptoSmall : (H : Type) → List (DataW H) → Bool := fun _ ds => decide (uptoBulkAll ds ≤ 1048576)
def OpenSpec.upto (s : _root_.Go.ChangeSpec) : _root_.Go.OpenSpec := { _root_.Go.OpenSpec.ofChange s with cond := some uptoSmall }

/-- 'abecedarylaw20.RaftTells', WHERE WHAT IT READS IS OF BULK AT MOST 1048576: true; the input reads as it did. -/
def raftTellsUptoRow : OpenClaim := { program := "ytaifbolghjccjaagreat", sum := "37bdc86985d3d01eecdbf35030dd48df8b63b95b2c16cdf4b94148e1284ad66c", func := "abecedary/abecedarylaw20.RaftTells", spec := "raftTells", unfollowed := true, recurses := true, apart := false, narrowed := true }
def RaftTellsUptoSaid : Prop := raftTellsUptoRow.holds Tryz.pinned (OpenSpec.upto raftTellsSpec)

/-- 'abecedarylaw20.RaftStays', WHERE WHAT IT READS IS OF BULK AT MOST 1048576: true; the input reads as it did. -/
def raftStaysUptoRow : OpenClaim := { program := "ytaifbolghjccjaagreat", sum := "37bdc86985d3d01eecdbf35030dd48df8b63b95b2c16cdf4b94148e1284ad66c", func := "abecedary/abecedarylaw20.RaftStays", spec := "raftStays", unfollowed := true, recurses := true, apart := false, narrowed := true }
def RaftStaysUptoSaid : Prop := raftStaysUptoRow.holds Tryz.pinned (OpenSpec.upto raftStaysSpec)

/-- 'abecedarylaw20.RaftLasts', WHERE WHAT IT READS IS OF BULK AT MOST 1048576: true; the input reads as it did. -/
def raftLastsUptoRow : OpenClaim := { program := "ytaifbolghjccjaagreat", sum := "37bdc86985d3d01eecdbf35030dd48df8b63b95b2c16cdf4b94148e1284ad66c", func := "abecedary/abecedarylaw20.RaftLasts", spec := "raftLasts", unfollowed := true, recurses := true, apart := false, narrowed := true }
def RaftLastsUptoSaid : Prop := raftLastsUptoRow.holds Tryz.pinned (OpenSpec.upto raftLastsSpec)

/-- 'abecedarylaw20.RaftLeads', WHERE WHAT IT READS IS OF BULK AT MOST 1048576: true; the input reads as it did. -/
def raftLeadsUptoRow : OpenClaim := { program := "ytaifbolghjccjaagreat", sum := "37bdc86985d3d01eecdbf35030dd48df8b63b95b2c16cdf4b94148e1284ad66c", func := "abecedary/abecedarylaw20.RaftLeads", spec := "raftLeads", unfollowed := true, recurses := true, apart := false, narrowed := true }
def RaftLeadsUptoSaid : Prop := raftLeadsUptoRow.holds Tryz.pinned (OpenSpec.upto raftLeadsSpec)

/-- 'abecedarylaw20.RaftVotes', WHERE WHAT IT READS IS OF BULK AT MOST 1048576: true; the input reads as it did. -/
def raftVotesUptoRow : OpenClaim := { program := "ytaifbolghjccjaagreat", sum := "37bdc86985d3d01eecdbf35030dd48df8b63b95b2c16cdf4b94148e1284ad66c", func := "abecedary/abecedarylaw20.RaftVotes", spec := "raftVotes", unfollowed := true, recurses := true, apart := false, narrowed := true }
def RaftVotesUptoSaid : Prop := raftVotesUptoRow.holds Tryz.pinned (OpenSpec.upto raftVotesSpec)

/-- 'abecedarylaw20.RaftReads', WHERE WHAT IT READS IS OF BULK AT MOST 1048576: true; the input reads as it did. -/
def raftReadsUptoRow : OpenClaim := { program := "ytaifbolghjccjaagreat", sum := "37bdc86985d3d01eecdbf35030dd48df8b63b95b2c16cdf4b94148e1284ad66c", func := "abecedary/abecedarylaw20.RaftReads", spec := "raftReads", unfollowed := true, recurses := true, apart := false, narrowed := true }
def RaftReadsUptoSaid : Prop := raftReadsUptoRow.holds Tryz.pinned (OpenSpec.upto raftReadsSpec)

end Rows
end Go.Proofs.YtaifbolghjccjaaGreat
