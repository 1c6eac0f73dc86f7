/-
  Proved: CodecReadsUptoSaid (whatever the arguments, of bulk at most 1048576, the law CodecReads returns true, and the arguments read as they did).
-/
import Derived.Test.YthgllplhhanpkaaZc
import Derived.Test.YthgllplhhanpkaaCi
namespace Go.Proofs.Ythgllplhhanpkaa.codecReads
open Go.En Go.ChangeShapes Go.WideShapes Go.ChangeAt Go.RowKit
set_option linter.unusedVariables false

theorem opsOpen {H : Type} {enc : TypeId × Value → H} {W : World} : Opens enc Try.prog W 48 1 (RSl W 3 ROp) (fun xs => sumM (fun x : Int × Int × Int × Unit => 1 + (1 + (1 + 0)) + 1) xs + 1) := by
  refine Opens.slice Try.underlying48 (by kernel_rfl) ?_
  refine Opens.struct Try.underlying52 (by kernel_rfl) ?_
  exact OpensF.cons (off := 0) (sz1 := 1) (sz2 := 2) rfl (Opens.int Try.underlying3 (by kernel_rfl)) (OpensF.cons (off := 1) (sz1 := 1) (sz2 := 1) rfl (Opens.int Try.underlying3 (by kernel_rfl)) (OpensF.cons (off := 2) (sz1 := 1) (sz2 := 0) rfl (Opens.int Try.underlying23 (by kernel_rfl)) OpensF.nil))
theorem len_le {α : Type} (m : α → Nat) (hm : ∀ x, 0 < m x) : ∀ xs : List α, xs.length ≤ sumM m xs
  | [] => Nat.zero_le _
  | x :: r => by have := len_le m hm r; have := hm x; simp only [sumM, List.length_cons]; omega
theorem contract (H : Type) (enc : TypeId × Value → H) (W : World) (base : Nat) (args : Array Value) (ds gs : List (DataW H)) (before : List MemPlace)
    (hval : ∀ (j : Nat) t v, Try.f13.params[j]? = some t → args[j]? = some v → Value.okWide Try.prog W .any base t v)
    (hW : DataW.Whole enc Try.prog Try.f13.params.toList Rows.codecReadsSpec.vars false W args.toList ds gs before) (hk : Rows.uptoSmall H (ds ++ gs) = true) :
    Calls Try.prog 13 args W fun e W' => ∃ v, e = .returned v ∧ Rows.codecReadsSpec.post enc Try.prog Try.f13 false true false false W args v W' := by
  have hW' := hW
  obtain ⟨p, q, hA0, hV, rfl, hfz, hnd⟩ := hW
  have hA : DataW.TrodAll enc Try.prog W 0 (fun _ => true) true Try.f13.params.toList args.toList ds p := hA0
  rw [Try.params13] at hA hval
  obtain ⟨v0, vs0, d0, ds0, p0, q0, hargs, rfl, rfl, h0, r0⟩ := trodAll_cons hA
  obtain ⟨v1, vs1, d1, ds1, p1, q1, rfl, rfl, rfl, h1, r1⟩ := trodAll_cons r0
  obtain ⟨rfl, rfl, rfl⟩ := trodAll_nil r1
  obtain rfl : args = #[v0, v1] := by cases args; simp_all
  obtain ⟨rfl, rfl⟩ := trodVars_none hV
  obtain ⟨ao0, cap0, b0, rfl, x0, hb0⟩ := open_bytes Try.underlying22 Try.underlying5 (by kernel_rfl) (hval 0 22 v0 rfl rfl) h0
  have o1 := opsOpen (enc := enc) (W := W)
  obtain ⟨a1, len1, cap1, rfl⟩ := okWide_slice Try.underlying48 (hval 1 48 v1 rfl rfl)
  obtain ⟨xs, ⟨ao1, c1, css, hcs, xS, hx⟩, hb1⟩ := o1.arg h1
  simp [Value.cells] at hcs
  obtain ⟨rfl, rfl, rfl⟩ := hcs
  have hlx := len_le (fun x : Int × Int × Int × Unit => 1 + (1 + (1 + 0)) + 1) (fun _ => by omega) xs
  have hk' := bound hk
  simp only [List.append_nil, Rows.uptoBulkAll] at hk'
  refine (calls_of (lawReads (w0 := W) (K := hp W) (hs := []) ao0 cap0 b0 (.inl rfl) x0 (by omega) a1 cap1 css xs xS hx (by omega))).mono fun e W' ⟨he, hg⟩ => ?_
  subst he
  exact ⟨_, rfl, post_true hW' hg laid (by decide +kernel) (by kernel_rfl) Try.underlying4 rfl rfl rfl rfl⟩

set_option maxRecDepth 100000 in
theorem lifted (os : Os) (started : os.Started) (H : Type) (enc : TypeId × Value → H) (F : Stop.Interp) :
    ReturnsInHanded {} Try.checked os 13 .any ((Rows.OpenSpec.upto Rows.codecReadsSpec).pre6 enc Try.prog Try.f13 Rows.codecReadsUptoRow.domain false) (((Rows.OpenSpec.upto Rows.codecReadsSpec).at F).post enc Try.prog Try.f13 false true false false) := by
  refine returnsInHanded_of_cond (C := Try.checked) (s := Rows.OpenSpec.upto Rows.codecReadsSpec) (k := Rows.uptoSmall) rfl own started (by kernel_rfl) Try.func13
    (OpenSpec.witness (enc := enc) (C := Try.checked) (s := Rows.OpenSpec.upto Rows.codecReadsSpec) (k := Rows.uptoSmall) rfl false ⟨#[], #[.slice none 0 0, .slice none 0 0], []⟩ 8 (by kernel_rfl) (by kernel_rfl) (by kernel_rfl)
      (x := ([.nil, .nil], [], [])) (by kernel_rfl) rfl (by kernel_rfl)) ?_
  intro W base args ds gs before hval hW _ hk _
  exact contract H enc W base args ds gs before hval hW hk

theorem proved : Rows.CodecReadsUptoSaid :=
  OpenClaim.holds_of_cond 13 Try.f13 rfl rfl rfl rfl rfl rfl rfl ⟨rfl, rfl, rfl, rfl, rfl⟩ rfl rfl rfl rfl rfl (by kernel_rfl) Try.func13 (by kernel_rfl)
    (of_decide_eq_true (by kernel_rfl)) (by unfold Func.isWrapper; first | (rw [if_pos (by decide +kernel)]; kernel_rfl) | (rw [if_neg (by decide +kernel)]; exact ⟨rfl, rfl⟩))
    (fun os started H enc _ F => lifted os started H enc F)
#print axioms proved
end Go.Proofs.Ythgllplhhanpkaa.codecReads
