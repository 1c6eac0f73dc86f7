/-
  No cell of these rows narrows 'for every input' (looked for: loops, veiled, ifaces, maps, wideKeys, modest, calm, conditions, laid).
  DERIVED. THE GIVEN ROWS OF THIS SEAT. 11 by the template 'for every input the law returns true; each argument reads behind the call as it read before'; 0 by the template 'total and deterministic' (their statements: YthgllplhhanpkaaTotals.lean).
  GIVEN WITH THE SEED: the statements are not yours to turn. If you find one false, say at which input.
  Laid BY PROGRAM, IN A SANDBOX (cutbox-rows.mjs): the forced cells as the released guide's own fill.sh prints them over the translation 9c9d695e28a7aa44… (all of the seat's roots in one cut). By AI agents, Wed Nov 11 2026. No macro, syntax, notation, axiom, sorry.
-/
import Derived.Test.YthgllplhhanpkaaChecked
import GoSem.Claim
import GoSem.ClaimJoined
import GoSem.ClaimMapViews
import Derived.JoinedTies
import Derived.KernelRfl
namespace Go.Proofs.Ythgllplhhanpkaa
/- THE CELL 'sum', in the pinned program and in every row, IS THE sha256 OF THE DUMP (.gsa) THAT YthgllplhhanpkaaProg.lean LOADS. Nothing in Lean hashes anything: it is a label: what it is worth is what the hold of that sum in a sandbox is worth. -/
noncomputable def Try.pinned : Pinned := { name := "ythgllplhhanpkaa", sum := "9c9d695e28a7aa4494c05d93ae7cb34e393375ec4fb401b20ebc14b0c8fadd4f", checked := Try.checked }
namespace Rows
def none {H : Type} : Left H := { results := [], args := [] }

/-- 'abecedarylaw02.CodecUints': WHATEVER THE INPUT: true; the input reads as it did. -/
def codecUintsSpec : ChangeSpec := { name := "codecUints", fn := fun _ => fun
  | [d1, d2] => { results := [.lit (.bool true)], args := [d1, d2] }
  | _ => none }
def codecUintsRow : OpenClaim := { program := "ythgllplhhanpkaa", sum := "9c9d695e28a7aa4494c05d93ae7cb34e393375ec4fb401b20ebc14b0c8fadd4f", func := "abecedary/abecedarylaw02.CodecUints", spec := "codecUints", recurses := true, apart := false }
def CodecUintsSaid : Prop := codecUintsRow.holds Try.pinned (OpenSpec.ofChange codecUintsSpec)

/-- ITS FALSE NEIGHBOUR: 'it returns false'. Refute it at one input. -/
def codecUintsWrong : ChangeSpec := { name := "codecUints", fn := fun _ => fun
  | [d1, d2] => { results := [.lit (.bool false)], args := [d1, d2] }
  | _ => none }
def CodecUintsWrongFalsely : Prop := codecUintsRow.holds Try.pinned (OpenSpec.ofChange codecUintsWrong)

/-- 'abecedarylaw02.CodecBytes': WHATEVER THE INPUT: true; the input reads as it did. -/
def codecBytesSpec : ChangeSpec := { name := "codecBytes", fn := fun _ => fun
  | [d1, d2] => { results := [.lit (.bool true)], args := [d1, d2] }
  | _ => none }
def codecBytesRow : OpenClaim := { program := "ythgllplhhanpkaa", sum := "9c9d695e28a7aa4494c05d93ae7cb34e393375ec4fb401b20ebc14b0c8fadd4f", func := "abecedary/abecedarylaw02.CodecBytes", spec := "codecBytes", recurses := true, apart := false }
def CodecBytesSaid : Prop := codecBytesRow.holds Try.pinned (OpenSpec.ofChange codecBytesSpec)

/-- ITS FALSE NEIGHBOUR: 'it returns false'. Refute it at one input. -/
def codecBytesWrong : ChangeSpec := { name := "codecBytes", fn := fun _ => fun
  | [d1, d2] => { results := [.lit (.bool false)], args := [d1, d2] }
  | _ => none }
def CodecBytesWrongFalsely : Prop := codecBytesRow.holds Try.pinned (OpenSpec.ofChange codecBytesWrong)

/-- 'abecedarylaw02.CodecSums': WHATEVER THE INPUT: true; the input reads as it did. -/
def codecSumsSpec : ChangeSpec := { name := "codecSums", fn := fun _ => fun
  | [d] => { results := [.lit (.bool true)], args := [d] }
  | _ => none }
def codecSumsRow : OpenClaim := { program := "ythgllplhhanpkaa", sum := "9c9d695e28a7aa4494c05d93ae7cb34e393375ec4fb401b20ebc14b0c8fadd4f", func := "abecedary/abecedarylaw02.CodecSums", spec := "codecSums", apart := false }
def CodecSumsSaid : Prop := codecSumsRow.holds Try.pinned (OpenSpec.ofChange codecSumsSpec)

/-- ITS FALSE NEIGHBOUR: 'it returns false'. Refute it at one input. -/
def codecSumsWrong : ChangeSpec := { name := "codecSums", fn := fun _ => fun
  | [d] => { results := [.lit (.bool false)], args := [d] }
  | _ => none }
def CodecSumsWrongFalsely : Prop := codecSumsRow.holds Try.pinned (OpenSpec.ofChange codecSumsWrong)

/-- 'abecedarylaw02.CodecSeals': WHATEVER THE INPUT: true; the input reads as it did. -/
def codecSealsSpec : ChangeSpec := { name := "codecSeals", fn := fun _ => fun
  | [d] => { results := [.lit (.bool true)], args := [d] }
  | _ => none }
def codecSealsRow : OpenClaim := { program := "ythgllplhhanpkaa", sum := "9c9d695e28a7aa4494c05d93ae7cb34e393375ec4fb401b20ebc14b0c8fadd4f", func := "abecedary/abecedarylaw02.CodecSeals", spec := "codecSeals", recurses := true, apart := false }
def CodecSealsSaid : Prop := codecSealsRow.holds Try.pinned (OpenSpec.ofChange codecSealsSpec)

/-- ITS FALSE NEIGHBOUR: 'it returns false'. Refute it at one input. -/
def codecSealsWrong : ChangeSpec := { name := "codecSeals", fn := fun _ => fun
  | [d] => { results := [.lit (.bool false)], args := [d] }
  | _ => none }
def CodecSealsWrongFalsely : Prop := codecSealsRow.holds Try.pinned (OpenSpec.ofChange codecSealsWrong)

/-- 'abecedarylaw02.CodecAgain': WHATEVER THE INPUT: true; the input reads as it did. -/
def codecAgainSpec : ChangeSpec := { name := "codecAgain", fn := fun _ => fun
  | [d] => { results := [.lit (.bool true)], args := [d] }
  | _ => none }
def codecAgainRow : OpenClaim := { program := "ythgllplhhanpkaa", sum := "9c9d695e28a7aa4494c05d93ae7cb34e393375ec4fb401b20ebc14b0c8fadd4f", func := "abecedary/abecedarylaw02.CodecAgain", spec := "codecAgain", apart := false }
def CodecAgainSaid : Prop := codecAgainRow.holds Try.pinned (OpenSpec.ofChange codecAgainSpec)

/-- ITS FALSE NEIGHBOUR: 'it returns false'. Refute it at one input. -/
def codecAgainWrong : ChangeSpec := { name := "codecAgain", fn := fun _ => fun
  | [d] => { results := [.lit (.bool false)], args := [d] }
  | _ => none }
def CodecAgainWrongFalsely : Prop := codecAgainRow.holds Try.pinned (OpenSpec.ofChange codecAgainWrong)

/-- 'abecedarylaw02.CodecBack': WHATEVER THE INPUT: true; the input reads as it did. -/
def codecBackSpec : ChangeSpec := { name := "codecBack", fn := fun _ => fun
  | [d1, d2, d3] => { results := [.lit (.bool true)], args := [d1, d2, d3] }
  | _ => none }
def codecBackRow : OpenClaim := { program := "ythgllplhhanpkaa", sum := "9c9d695e28a7aa4494c05d93ae7cb34e393375ec4fb401b20ebc14b0c8fadd4f", func := "abecedary/abecedarylaw02.CodecBack", spec := "codecBack", apart := false }
def CodecBackSaid : Prop := codecBackRow.holds Try.pinned (OpenSpec.ofChange codecBackSpec)

/-- ITS FALSE NEIGHBOUR: 'it returns false'. Refute it at one input. -/
def codecBackWrong : ChangeSpec := { name := "codecBack", fn := fun _ => fun
  | [d1, d2, d3] => { results := [.lit (.bool false)], args := [d1, d2, d3] }
  | _ => none }
def CodecBackWrongFalsely : Prop := codecBackRow.holds Try.pinned (OpenSpec.ofChange codecBackWrong)

/-- 'abecedarylaw02.CodecUnseals': WHATEVER THE INPUT: true; the input reads as it did. -/
def codecUnsealsSpec : ChangeSpec := { name := "codecUnseals", fn := fun _ => fun
  | [d] => { results := [.lit (.bool true)], args := [d] }
  | _ => none }
def codecUnsealsRow : OpenClaim := { program := "ythgllplhhanpkaa", sum := "9c9d695e28a7aa4494c05d93ae7cb34e393375ec4fb401b20ebc14b0c8fadd4f", func := "abecedary/abecedarylaw02.CodecUnseals", spec := "codecUnseals", apart := false }
def CodecUnsealsSaid : Prop := codecUnsealsRow.holds Try.pinned (OpenSpec.ofChange codecUnsealsSpec)

/-- ITS FALSE NEIGHBOUR: 'it returns false'. Refute it at one input. -/
def codecUnsealsWrong : ChangeSpec := { name := "codecUnseals", fn := fun _ => fun
  | [d] => { results := [.lit (.bool false)], args := [d] }
  | _ => none }
def CodecUnsealsWrongFalsely : Prop := codecUnsealsRow.holds Try.pinned (OpenSpec.ofChange codecUnsealsWrong)

/-- 'abecedarylaw02.CodecOpens': WHATEVER THE INPUT: true; the input reads as it did. -/
def codecOpensSpec : ChangeSpec := { name := "codecOpens", fn := fun _ => fun
  | [d1, d2] => { results := [.lit (.bool true)], args := [d1, d2] }
  | _ => none }
def codecOpensRow : OpenClaim := { program := "ythgllplhhanpkaa", sum := "9c9d695e28a7aa4494c05d93ae7cb34e393375ec4fb401b20ebc14b0c8fadd4f", func := "abecedary/abecedarylaw02.CodecOpens", spec := "codecOpens", apart := false }
def CodecOpensSaid : Prop := codecOpensRow.holds Try.pinned (OpenSpec.ofChange codecOpensSpec)

/-- ITS FALSE NEIGHBOUR: 'it returns false'. Refute it at one input. -/
def codecOpensWrong : ChangeSpec := { name := "codecOpens", fn := fun _ => fun
  | [d1, d2] => { results := [.lit (.bool false)], args := [d1, d2] }
  | _ => none }
def CodecOpensWrongFalsely : Prop := codecOpensRow.holds Try.pinned (OpenSpec.ofChange codecOpensWrong)

/-- 'abecedarylaw02.CodecCuts': WHATEVER THE INPUT: true; the input reads as it did. -/
def codecCutsSpec : ChangeSpec := { name := "codecCuts", fn := fun _ => fun
  | [d1, d2] => { results := [.lit (.bool true)], args := [d1, d2] }
  | _ => none }
def codecCutsRow : OpenClaim := { program := "ythgllplhhanpkaa", sum := "9c9d695e28a7aa4494c05d93ae7cb34e393375ec4fb401b20ebc14b0c8fadd4f", func := "abecedary/abecedarylaw02.CodecCuts", spec := "codecCuts", apart := false }
def CodecCutsSaid : Prop := codecCutsRow.holds Try.pinned (OpenSpec.ofChange codecCutsSpec)

/-- ITS FALSE NEIGHBOUR: 'it returns false'. Refute it at one input. -/
def codecCutsWrong : ChangeSpec := { name := "codecCuts", fn := fun _ => fun
  | [d1, d2] => { results := [.lit (.bool false)], args := [d1, d2] }
  | _ => none }
def CodecCutsWrongFalsely : Prop := codecCutsRow.holds Try.pinned (OpenSpec.ofChange codecCutsWrong)

/-- 'abecedarylaw02.CodecBursts': WHATEVER THE INPUT: true; the input reads as it did. -/
def codecBurstsSpec : ChangeSpec := { name := "codecBursts", fn := fun _ => fun
  | [d1, d2, d3] => { results := [.lit (.bool true)], args := [d1, d2, d3] }
  | _ => none }
def codecBurstsRow : OpenClaim := { program := "ythgllplhhanpkaa", sum := "9c9d695e28a7aa4494c05d93ae7cb34e393375ec4fb401b20ebc14b0c8fadd4f", func := "abecedary/abecedarylaw02.CodecBursts", spec := "codecBursts", apart := false }
def CodecBurstsSaid : Prop := codecBurstsRow.holds Try.pinned (OpenSpec.ofChange codecBurstsSpec)

/-- ITS FALSE NEIGHBOUR: 'it returns false'. Refute it at one input. -/
def codecBurstsWrong : ChangeSpec := { name := "codecBursts", fn := fun _ => fun
  | [d1, d2, d3] => { results := [.lit (.bool false)], args := [d1, d2, d3] }
  | _ => none }
def CodecBurstsWrongFalsely : Prop := codecBurstsRow.holds Try.pinned (OpenSpec.ofChange codecBurstsWrong)

/-- 'abecedarylaw02.CodecReads': WHATEVER THE INPUT: true; the input reads as it did. -/
def codecReadsSpec : ChangeSpec := { name := "codecReads", fn := fun _ => fun
  | [d1, d2] => { results := [.lit (.bool true)], args := [d1, d2] }
  | _ => none }
def codecReadsRow : OpenClaim := { program := "ythgllplhhanpkaa", sum := "9c9d695e28a7aa4494c05d93ae7cb34e393375ec4fb401b20ebc14b0c8fadd4f", func := "abecedary/abecedarylaw02.CodecReads", spec := "codecReads", apart := false }
def CodecReadsSaid : Prop := codecReadsRow.holds Try.pinned (OpenSpec.ofChange codecReadsSpec)

/-- ITS FALSE NEIGHBOUR: 'it returns false'. Refute it at one input. -/
def codecReadsWrong : ChangeSpec := { name := "codecReads", fn := fun _ => fun
  | [d1, d2] => { results := [.lit (.bool false)], args := [d1, d2] }
  | _ => none }
def CodecReadsWrongFalsely : Prop := codecReadsRow.holds Try.pinned (OpenSpec.ofChange codecReadsWrong)

/- THE SECOND FORM. 'bulk': how many values and letters a reading holds, each counted each time it is reached (what is shared counts as often as it is met; a slice's spare places count too). A statement '..UptoSaid' is the law's where the arguments, and the package variables that the reading takes, are together of bulk at most 1048576: NARROWER than '..Said'. Prove '..Said' where nothing that the law and all that it calls make is longer than what came in: it says more and counts as full. Else prove '..UptoSaid'. A law counts once. -/
mutual
def uptoBulk {H : Type} : DataW H → Nat
  | .lit (.string bytes) => bytes.length + 1
  | .lit _ => 1
  | .nil => 1
  | .ptr d => uptoBulk d + 1
  | .slice elems spare => uptoBulkAll elems + uptoBulkAll spare + 1
  | .agg parts => uptoBulkAll parts + 1
  | .iface _ d => uptoBulk d + 1
  | .map entries => uptoBulkEntries entries + 1
  | .held _ => 1
def uptoBulkAll {H : Type} : List (DataW H) → Nat
  | [] => 0
  | d :: r => uptoBulk d + uptoBulkAll r
def uptoBulkEntries {H : Type} : List (Lit × DataW H) → Nat
  | [] => 0
  | x :: r => uptoBulkEntry x + uptoBulkEntries r
def uptoBulkEntry {H : Type} : Lit × DataW H → Nat
  | (.string bytes, d) => bytes.length + uptoBulk d + 1
  | (_, d) => uptoBulk d + 1
 end
def uptoSmall : (H : Type) → List (DataW H) → Bool := fun _ ds => decide (uptoBulkAll ds ≤ 1048576)
def OpenSpec.upto (s : _root_.Go.ChangeSpec) : _root_.Go.OpenSpec := { _root_.Go.OpenSpec.ofChange s with cond := some uptoSmall }

/-- 'abecedarylaw02.CodecUints', WHERE WHAT IT READS IS OF BULK AT MOST 1048576: true; the input reads as it did. -/
def codecUintsUptoRow : OpenClaim := { program := "ythgllplhhanpkaa", sum := "9c9d695e28a7aa4494c05d93ae7cb34e393375ec4fb401b20ebc14b0c8fadd4f", func := "abecedary/abecedarylaw02.CodecUints", spec := "codecUints", recurses := true, apart := false, narrowed := true }
def CodecUintsUptoSaid : Prop := codecUintsUptoRow.holds Try.pinned (OpenSpec.upto codecUintsSpec)

/-- 'abecedarylaw02.CodecBytes', WHERE WHAT IT READS IS OF BULK AT MOST 1048576: true; the input reads as it did. -/
def codecBytesUptoRow : OpenClaim := { program := "ythgllplhhanpkaa", sum := "9c9d695e28a7aa4494c05d93ae7cb34e393375ec4fb401b20ebc14b0c8fadd4f", func := "abecedary/abecedarylaw02.CodecBytes", spec := "codecBytes", recurses := true, apart := false, narrowed := true }
def CodecBytesUptoSaid : Prop := codecBytesUptoRow.holds Try.pinned (OpenSpec.upto codecBytesSpec)

/-- 'abecedarylaw02.CodecSums', WHERE WHAT IT READS IS OF BULK AT MOST 1048576: true; the input reads as it did. -/
def codecSumsUptoRow : OpenClaim := { program := "ythgllplhhanpkaa", sum := "9c9d695e28a7aa4494c05d93ae7cb34e393375ec4fb401b20ebc14b0c8fadd4f", func := "abecedary/abecedarylaw02.CodecSums", spec := "codecSums", apart := false, narrowed := true }
def CodecSumsUptoSaid : Prop := codecSumsUptoRow.holds Try.pinned (OpenSpec.upto codecSumsSpec)

/-- 'abecedarylaw02.CodecSeals', WHERE WHAT IT READS IS OF BULK AT MOST 1048576: true; the input reads as it did. -/
def codecSealsUptoRow : OpenClaim := { program := "ythgllplhhanpkaa", sum := "9c9d695e28a7aa4494c05d93ae7cb34e393375ec4fb401b20ebc14b0c8fadd4f", func := "abecedary/abecedarylaw02.CodecSeals", spec := "codecSeals", recurses := true, apart := false, narrowed := true }
def CodecSealsUptoSaid : Prop := codecSealsUptoRow.holds Try.pinned (OpenSpec.upto codecSealsSpec)

/-- 'abecedarylaw02.CodecAgain', WHERE WHAT IT READS IS OF BULK AT MOST 1048576: true; the input reads as it did. -/
def codecAgainUptoRow : OpenClaim := { program := "ythgllplhhanpkaa", sum := "9c9d695e28a7aa4494c05d93ae7cb34e393375ec4fb401b20ebc14b0c8fadd4f", func := "abecedary/abecedarylaw02.CodecAgain", spec := "codecAgain", apart := false, narrowed := true }
def CodecAgainUptoSaid : Prop := codecAgainUptoRow.holds Try.pinned (OpenSpec.upto codecAgainSpec)

/-- 'abecedarylaw02.CodecBack', WHERE WHAT IT READS IS OF BULK AT MOST 1048576: true; the input reads as it did. -/
def codecBackUptoRow : OpenClaim := { program := "ythgllplhhanpkaa", sum := "9c9d695e28a7aa4494c05d93ae7cb34e393375ec4fb401b20ebc14b0c8fadd4f", func := "abecedary/abecedarylaw02.CodecBack", spec := "codecBack", apart := false, narrowed := true }
def CodecBackUptoSaid : Prop := codecBackUptoRow.holds Try.pinned (OpenSpec.upto codecBackSpec)

/-- 'abecedarylaw02.CodecUnseals', WHERE WHAT IT READS IS OF BULK AT MOST 1048576: true; the input reads as it did. -/
def codecUnsealsUptoRow : OpenClaim := { program := "ythgllplhhanpkaa", sum := "9c9d695e28a7aa4494c05d93ae7cb34e393375ec4fb401b20ebc14b0c8fadd4f", func := "abecedary/abecedarylaw02.CodecUnseals", spec := "codecUnseals", apart := false, narrowed := true }
def CodecUnsealsUptoSaid : Prop := codecUnsealsUptoRow.holds Try.pinned (OpenSpec.upto codecUnsealsSpec)

/-- 'abecedarylaw02.CodecOpens', WHERE WHAT IT READS IS OF BULK AT MOST 1048576: true; the input reads as it did. -/
def codecOpensUptoRow : OpenClaim := { program := "ythgllplhhanpkaa", sum := "9c9d695e28a7aa4494c05d93ae7cb34e393375ec4fb401b20ebc14b0c8fadd4f", func := "abecedary/abecedarylaw02.CodecOpens", spec := "codecOpens", apart := false, narrowed := true }
def CodecOpensUptoSaid : Prop := codecOpensUptoRow.holds Try.pinned (OpenSpec.upto codecOpensSpec)

/-- 'abecedarylaw02.CodecCuts', WHERE WHAT IT READS IS OF BULK AT MOST 1048576: true; the input reads as it did. -/
def codecCutsUptoRow : OpenClaim := { program := "ythgllplhhanpkaa", sum := "9c9d695e28a7aa4494c05d93ae7cb34e393375ec4fb401b20ebc14b0c8fadd4f", func := "abecedary/abecedarylaw02.CodecCuts", spec := "codecCuts", apart := false, narrowed := true }
def CodecCutsUptoSaid : Prop := codecCutsUptoRow.holds Try.pinned (OpenSpec.upto codecCutsSpec)

/-- 'abecedarylaw02.CodecBursts', WHERE WHAT IT READS IS OF BULK AT MOST 1048576: true; the input reads as it did. -/
def codecBurstsUptoRow : OpenClaim := { program := "ythgllplhhanpkaa", sum := "9c9d695e28a7aa4494c05d93ae7cb34e393375ec4fb401b20ebc14b0c8fadd4f", func := "abecedary/abecedarylaw02.CodecBursts", spec := "codecBursts", apart := false, narrowed := true }
def CodecBurstsUptoSaid : Prop := codecBurstsUptoRow.holds Try.pinned (OpenSpec.upto codecBurstsSpec)

/-- 'abecedarylaw02.CodecReads', WHERE WHAT IT READS IS OF BULK AT MOST 1048576: true; the input reads as it did. -/
def codecReadsUptoRow : OpenClaim := { program := "ythgllplhhanpkaa", sum := "9c9d695e28a7aa4494c05d93ae7cb34e393375ec4fb401b20ebc14b0c8fadd4f", func := "abecedary/abecedarylaw02.CodecReads", spec := "codecReads", apart := false, narrowed := true }
def CodecReadsUptoSaid : Prop := codecReadsUptoRow.holds Try.pinned (OpenSpec.upto codecReadsSpec)

end Rows
end Go.Proofs.Ythgllplhhanpkaa
