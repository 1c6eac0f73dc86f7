/-
  Proved: AbecedaryNearUptoCardSaid (whatever the arguments, of bulk at most 1048576, the law AbecedaryNear returns true, and the arguments read as they did; the table letters.least is tied to the program's text).
-/
import Derived.Test.YtlnhbilpkcfdlaaDoorZc
import Derived.Test.YtlnhbilpkcfdlaaDoorHd
import Derived.Test.YtlnhbilpkcfdlaaDoorCards
import Derived.Test.YtlnhbilpkcfdlaaDoorTie
import Derived.Deep.DeepHandedRow
import Derived.Lib.LaidTab
namespace Go.Proofs.YtlnhbilpkcfdlaaDoor.abecedaryNear
open Go.En Go.ChangeShapes Go.WideShapes Go.ChangeAt Go.RowKit
open Go.ChangeMaps (open_string shut_string)
set_option linter.unusedVariables false

theorem gTab : Tryd.prog.globalNamed "abecedary/letters.least" = some 0 := by kernel_rfl
theorem gTabType : (Tryd.prog.globals[0]?).map (·.type) = some 107 := by kernel_rfl
theorem cellsT : Tryd.prog.cellsOf 107 = 5 := by kernel_rfl
theorem cellsE : Tryd.prog.cellsOf 21 = 1 := by kernel_rfl
theorem table {W : World} (h : laidMetH Tryd.prog Rows.abecedaryNearUptoRow.laid W) : Lib.TabIs Tryd.prog W "abecedary/letters.least" .i32 [0, 0, 128, 2048, 65536] :=
  Lib.tabIs_of_head (rest := []) gTab gTabType Tryd.underlying107 Tryd.underlying21 cellsE cellsT h
theorem cell_hp {W : World} {a : Addr} {v : Value} (h1 : W.cell? a = some v) (hs : a.spot = none) : Cell (hp W) a v := by
  refine ⟨hs, ?_⟩
  unfold World.cell? at h1
  split at h1
  · rename_i cells t fr hb
    rw [hs] at h1
    exact ⟨cells, t, fr, hb, by simpa using h1⟩
  · simp at h1
theorem least_hp {W : World} (h : laidMetH Tryd.prog Rows.abecedaryNearUptoRow.laid W) : LeastK (hp W) := by
  intro j hj
  have h2 := (table h).cell gTab j (by simpa using hj)
  rw [add_mk]
  have h3 : ([0, 0, 128, 2048, 65536] : List Int).getD j 0 = ((leastR j : Nat) : Int) := by
    match j, hj with
    | 0, _ => rfl
    | 1, _ => rfl
    | 2, _ => rfl
    | 3, _ => rfl
    | 4, _ => rfl
  rw [h3] at h2
  have := cell_hp h2 rfl
  simpa using this
theorem calls_le {P : Program} {W : World} {f : FuncId} {args : List Value} (c : Ct P W f args (hp W) [] (fun v K' _ => Le (hp W) K' ∧ v = .bool true)) :
    Calls P f args.toArray W fun e W' => e = .returned (.bool true) ∧ Below W.heap.size W W' := by
  refine (c.2 W (sat0 W)).mono ?_
  rintro e w' ⟨v, K', hs', rfl, ⟨le, rfl⟩, s⟩
  exact ⟨rfl, below_of (s.weak le)⟩
set_option maxRecDepth 100000 in
theorem contract (H : Type) (enc : TypeId × Value → H) (W : World) (base : Nat) (args : Array Value) (ds gs : List (DataW H)) (before : List MemPlace)
    (hval : ∀ (j : Nat) t v, Tryd.f3.params[j]? = some t → args[j]? = some v → Value.okWide Tryd.prog W .any base t v)
    (hW : DataW.Whole enc Tryd.prog Tryd.f3.params.toList Rows.abecedaryNearSpec.vars false W args.toList ds gs before) (hL : laidMetH Tryd.prog Rows.abecedaryNearUptoRow.laid W) :
    Calls Tryd.prog 3 args W fun e W' => ∃ v, e = .returned v ∧ Rows.abecedaryNearSpec.post enc Tryd.prog Tryd.f3 false true false false W args v W' := by
  have hW' := hW
  obtain ⟨p, q, hA0, hV, rfl, hfz, hnd⟩ := hW
  have hA : DataW.TrodAll enc Tryd.prog W 0 (fun _ => true) true Tryd.f3.params.toList args.toList ds p := hA0
  rw [Tryd.params3] at hA hval
  obtain ⟨v0, vs0, d0, ds0, p0, q0, hargs, rfl, rfl, h0, r0⟩ := trodAll_cons hA
  obtain ⟨v1, vs1, d1, ds1, p1, q1, hargs1, rfl, rfl, h1, r1⟩ := trodAll_cons r0
  obtain ⟨v2, vs2, d2, ds2, p2, q2, hargs2, rfl, rfl, h2, r2⟩ := trodAll_cons r1
  obtain ⟨rfl, rfl, rfl⟩ := trodAll_nil r2
  obtain rfl : args = #[v0, v1, v2] := by cases args; simp_all
  obtain ⟨rfl, rfl⟩ := trodVars_none hV
  obtain ⟨s0, rfl, rfl, rfl, hs0⟩ := open_string Tryd.underlying9 (hval 0 9 v0 rfl rfl) h0
  obtain ⟨s1, rfl, rfl, rfl, hs1⟩ := open_string Tryd.underlying9 (hval 1 9 v1 rfl rfl) h1
  obtain ⟨n2, rfl, rfl, _, hn2⟩ := open_int Tryd.underlying3 (hval 2 3 v2 rfl rfl) h2
  have hn2' : -9223372036854775808 ≤ n2 ∧ n2 ≤ 9223372036854775807 := by simpa [Lit.wf, IntKind.min, IntKind.max, IntKind.signed, IntKind.bits] using hn2
  have e0 : (Value.string s0) = str s0.data.toList := by unfold str; simp
  have e1 : (Value.string s1) = str s1.data.toList := by unfold str; simp
  have c := calls_le (lawNear (w0 := W) (K := hp W) (hs := []) s0.data.toList s1.data.toList n2 hn2' (least_hp hL))
  rw [← e0, ← e1] at c
  refine c.mono fun e W' ⟨he, hg⟩ => ?_
  subst he
  exact ⟨_, rfl, post_true hW' hg laid (by decide +kernel) (by kernel_rfl) Tryd.underlying4 rfl rfl rfl rfl⟩

/-- a world for the witness -/
noncomputable def laidWorld (os : Os) : World :=
  { World.holding Tryd.prog os ⟨#[], #[], []⟩ with heap := (World.holding Tryd.prog os ⟨#[], #[], []⟩).heap.modify 0 fun
      | .cells _ t frozen => .cells #[.int .i32 0, .int .i32 0, .int .i32 128, .int .i32 2048, .int .i32 65536] t frozen
      | o => o }
def arg0 : Array Value := #[.string ⟨#[]⟩, .string ⟨#[]⟩, .int .i64 0]
theorem laid_met (os : Os) : laidMet Tryd.prog Rows.abecedaryNearUptoRow.laid ((laidWorld os).forCall (fun _ _ => 0) ⟨#[], arg0, []⟩).memory :=
  laidMet_of_run' 8 (by kernel_rfl) (by kernel_rfl)
theorem reads (os : Os) {H : Type} (enc : TypeId × Value → H) : ∃ places, DataW.whole enc Tryd.prog ((laidWorld os).forCall (fun _ _ => 0) ⟨#[], arg0, []⟩).memory Tryd.f3.params.toList Rows.abecedaryNearSpec.vars false arg0.toList 8 = some ([.lit (.string []), .lit (.string []), .lit (.int .i64 0)], [], places) :=
  ⟨[], by kernel_rfl⟩
set_option maxRecDepth 100000 in
theorem lifted (os : Os) (started : os.Started) (H : Type) (enc : TypeId × Value → H) (F : Stop.Interp) :
    ReturnsInHanded {} Tryd.checked os 3 .any ((Rows.OpenSpec.upto Rows.abecedaryNearSpec).preRow enc Tryd.prog Tryd.f3 Rows.abecedaryNearUptoRow.domain false Rows.abecedaryNearUptoRow.laid) (((Rows.OpenSpec.upto Rows.abecedaryNearSpec).at F).post enc Tryd.prog Tryd.f3 false true false false) := by
  obtain ⟨places, hx⟩ := reads os enc
  refine returnsInHanded_of_row (C := Tryd.checked) (s := Rows.OpenSpec.upto Rows.abecedaryNearSpec) own started (by kernel_rfl) Tryd.func3
    (witness_row_at (enc := enc) (C := Tryd.checked) false (laidWorld os) arg0 rfl (by kernel_rfl) (by kernel_rfl) (by kernel_rfl)
      (OpenSpec.preRow_of_cond 8 hx (by kernel_rfl) (fun k hk => by cases hk; kernel_rfl) (by kernel_rfl) (laid_met os))) ?_
  intro W base args ds gs before hval hW _ _ _ hL _ _
  exact contract H enc W base args ds gs before hval hW hL
theorem saidUpto : Rows.AbecedaryNearUptoSaid :=
  OpenClaim.holds_of_cond 3 Tryd.f3 rfl rfl rfl rfl rfl rfl rfl ⟨rfl, rfl, rfl, rfl, rfl⟩ rfl rfl rfl rfl rfl (by kernel_rfl) Tryd.func3 (by kernel_rfl)
    (of_decide_eq_true (by kernel_rfl)) (by unfold Func.isWrapper; first | (rw [if_pos (by decide +kernel)]; kernel_rfl) | (rw [if_neg (by decide +kernel)]; exact ⟨rfl, rfl⟩))
    (fun os started H enc _ F => by rw [OpenClaim.pre_eq_preRow]; exact lifted os started H enc F)
theorem plain (f : FuncId) (fn : Func) (hf : Tryd.pinned.checked.prog.funcNamed "abecedary/abecedarytop.AbecedaryNear" = some f) (hfn : Tryd.pinned.checked.prog.funcs[f]? = some fn) :
    false = Tryd.pinned.checked.prog.looks [] ∧ ∀ (j : Nat) t, fn.params[j]? = some t → Tryd.pinned.checked.prog.wantsStandIn t = false := by
  obtain rfl : f = 3 := Option.some.inj ((show Tryd.prog.funcNamed "abecedary/abecedarytop.AbecedaryNear" = some 3 by kernel_rfl).symm.trans hf) |>.symm
  obtain rfl : fn = Tryd.f3 := (Option.some.inj (Tryd.func3.symm.trans hfn)).symm
  refine ⟨by kernel_rfl, fun j t ht => ?_⟩
  rw [Tryd.params3] at ht
  have hm : t ∈ [9, 9, 3] := by simpa using Array.mem_of_getElem? ht
  have hall : ([9, 9, 3].all fun u => !Tryd.prog.wantsStandIn u) = true := by kernel_rfl
  exact (show Tryd.prog.wantsStandIn t = false by simpa using List.all_eq_true.1 hall t hm)
theorem proved : Rows.AbecedaryNearUptoCardSaid :=
  Claim7.holds_tied_plain_at .later [] _ _ _ _ saidUpto (fun _ h => by cases h) (by kernel_rfl) (fun _ h => by cases h) abecedaryNearUpto_row_tie rfl ⟨rfl, rfl⟩ (by kernel_rfl) rfl plain (by kernel_rfl)
#print axioms proved
end Go.Proofs.YtlnhbilpkcfdlaaDoor.abecedaryNear
