/-
  Proved: AbecedaryKeepsUptoCardSaid (whatever the arguments, of bulk at most 1048576, the law AbecedaryKeeps returns true, and the arguments read as they did; the table letters.least is tied to the program's text).
-/
import Derived.Test.YtgaefgbgfmpobaaGreatDoorCards
import Derived.Test.YtgaefgbgfmpobaaGreatDoorTie
import Derived.Deep.DeepHandedRow
import Derived.Lib.LaidTab
import Derived.Test.YtgaefgbgfmpobaaGreatDoorSz6
namespace Go.Proofs.YtgaefgbgfmpobaaGreatDoor.abecedaryKeeps
open Go.En Go.ChangeShapes Go.WideShapes Go.ChangeAt Go.RowKit
open Go.ChangeMaps (open_string shut_string)
set_option linter.unusedVariables false
theorem gTab : Tryz.prog.globalNamed "abecedary/letters.least" = some 0 := by kernel_rfl
theorem gTabType:(Tryz.prog.globals[0]?).map (·.type) = some 316:=by kernel_rfl
theorem cellsT:Tryz.prog.cellsOf 316 = 5:=by kernel_rfl
theorem cellsE:Tryz.prog.cellsOf 21 = 1:=by kernel_rfl
theorem table {W : World} (h : laidMetH Tryz.prog Rows.abecedaryKeepsUptoRow.laid W) : Lib.TabIs Tryz.prog W "abecedary/letters.least" .i32 [0, 0, 128, 2048, 65536] :=
  Lib.tabIs_of_head (rest:=[]) gTab gTabType Tryz.underlying316 Tryz.underlying21 cellsE cellsT h
theorem cell_hp {W:World} {a:Addr} {v:Value} (h1:W.cell? a = some v) (hs:a.spot = none):bR (hp W) a v:=by
  refine ⟨hs,?_⟩
  unfold World.cell? at h1
  split at h1
  · rename_i cells t fr hb
    rw [hs] at h1
    exact ⟨cells,t,fr,hb,by simpa using h1⟩
  · simp at h1
theorem least_hp {W:World} (h:laidMetH Tryz.prog Rows.abecedaryKeepsUptoRow.laid W):d8 (hp W):=by
  intro j hj
  have h2:=(table h).cell gTab j (by simpa using hj)
  rw [bz]
  have h3:([0,0,128,2048,65536]:List Int).getD j 0 = ((iR j:Nat):Int):=by
    match j,hj with
    | 0,_ => rfl
    | 1,_ => rfl
    | 2,_ => rfl
    | 3,_ => rfl
    | 4,_ => rfl
  rw [h3] at h2
  have:=cell_hp h2 rfl
  simpa using this
theorem calls_le {P:Program} {W:World} {f:FuncId} {args:List Value} (c:Ct P W f args (hp W) [] (fun v K' _ => Le (hp W) K'∧v = .bool true)) :
    Calls P f args.toArray W fun e W' => e = .returned (.bool true)∧Below W.heap.size W W':=by
  refine (c.2 W (Q7 W)).mono ?_
  rintro e w' ⟨v,K',hs',rfl,⟨le,rfl⟩,s⟩
  exact ⟨rfl,Mq (s.weak le)⟩
set_option maxRecDepth 100000 in
theorem contract (H:Type) (enc:TypeId × Value → H) (W:World) (base:Nat) (args:Array Value) (ds gs:List (DataW H)) (before:List MemPlace)
    (hval:∀ (j:Nat) t v,Tryz.f3.params[j]? = some t → args[j]? = some v → Value.okWide Tryz.prog W .any base t v)
    (hW:DataW.Whole enc Tryz.prog Tryz.f3.params.toList Rows.abecedaryKeepsSpec.vars false W args.toList ds gs before) (hk:Rows.uptoSmall H (ds ++ gs) = true) (hL:laidMetH Tryz.prog Rows.abecedaryKeepsUptoRow.laid W) :
    Calls Tryz.prog 3 args W fun e W' => ∃ v,e = .returned v∧Rows.abecedaryKeepsSpec.post enc Tryz.prog Tryz.f3 false true false false W args v W':=by
  have hW':=hW
  obtain ⟨p,q,hA0,hV,rfl,hfz,hnd⟩:=hW
  have hA:DataW.TrodAll enc Tryz.prog W 0 (fun _ => true) true Tryz.f3.params.toList args.toList ds p:=hA0
  rw [Tryz.params3] at hA hval
  obtain ⟨v0,vs0,d0,ds0,p0,q0,hargs,rfl,rfl,h0,r0⟩:=trodAll_cons hA
  obtain ⟨v1,vs1,d1,ds1,p1,q1,hargs1,rfl,rfl,h1,r1⟩:=trodAll_cons r0
  obtain ⟨v2,vs2,d2,ds2,p2,q2,hargs2,rfl,rfl,h2,r2⟩:=trodAll_cons r1
  obtain ⟨rfl,rfl,rfl⟩:=trodAll_nil r2
  obtain rfl:args = #[v0,v1,v2]:=by cases args; simp_all
  obtain ⟨rfl,rfl⟩:=trodVars_none hV
  have hk':=QX hk
  simp only [List.append_nil,Rows.uptoBulkAll] at hk'
  obtain ⟨ao0,cap0,cs0,rfl,x0,hb0,hn0⟩:=J8 (hval 0 22 v0 rfl rfl) h0 (by omega)
  obtain ⟨n1,rfl,rfl,_,hn1⟩:=open_int Tryz.underlying3 (hval 1 3 v1 rfl rfl) h1
  have hn1':-9223372036854775808 ≤ n1∧n1 ≤ 9223372036854775807:=by simpa [Lit.wf,IntKind.min,IntKind.max,IntKind.signed,IntKind.bits] using hn1
  obtain ⟨ao2,cap2,is2,rfl,x2,hb2,hn2⟩:=Nz (hval 2 23 v2 rfl rfl) h2 (by omega)
  have c:=calls_le (LW (w0:=W) (K:=hp W) (hs:=[]) ao0 cap0 cs0 n1 ao2 cap2 is2 x0 hb0 hn1' x2 hb2 hn2 hn0 (least_hp hL))
  refine c.mono fun e W' ⟨he,hg⟩ => ?_
  subst he
  exact ⟨_,rfl,J3 hW' hg laid (by decide +kernel) (by kernel_rfl) Tryz.underlying4 rfl rfl rfl rfl⟩
noncomputable def laidWorld (os:Os):World :=
  { World.holding Tryz.prog os ⟨#[],#[],[]⟩ with heap:=(World.holding Tryz.prog os ⟨#[],#[],[]⟩).heap.modify 0 fun
      | .cells _ t frozen => .cells #[.int .i32 0,.int .i32 0,.int .i32 128,.int .i32 2048,.int .i32 65536] t frozen
      | o => o }
def arg0:Array Value:=#[.slice none 0 0,.int .i64 0,.slice none 0 0]
theorem laid_met (os:Os):laidMet Tryz.prog Rows.abecedaryKeepsUptoRow.laid ((laidWorld os).forCall (fun _ _ => 0) ⟨#[],arg0,[]⟩).memory :=
  laidMet_of_run' 8 (by kernel_rfl) (by kernel_rfl)
theorem reads (os:Os) {H:Type} (enc:TypeId × Value → H):∃ places,DataW.whole enc Tryz.prog ((laidWorld os).forCall (fun _ _ => 0) ⟨#[],arg0,[]⟩).memory Tryz.f3.params.toList Rows.abecedaryKeepsSpec.vars false arg0.toList 8 = some ([.nil,.lit (.int .i64 0),.nil],[],places) :=
  ⟨[],by kernel_rfl⟩
set_option maxRecDepth 100000 in
theorem lifted (os:Os) (started:os.Started) (H:Type) (enc:TypeId × Value → H) (F:Stop.Interp) :
    ReturnsInHanded {} Tryz.checked os 3 .any ((Rows.OpenSpec.upto Rows.abecedaryKeepsSpec).preRow enc Tryz.prog Tryz.f3 Rows.abecedaryKeepsUptoRow.domain false Rows.abecedaryKeepsUptoRow.laid) (((Rows.OpenSpec.upto Rows.abecedaryKeepsSpec).at F).post enc Tryz.prog Tryz.f3 false true false false):=by
  obtain ⟨places,hx⟩:=reads os enc
  refine returnsInHanded_of_row (C:=Tryz.checked) (s:=Rows.OpenSpec.upto Rows.abecedaryKeepsSpec) own started (by kernel_rfl) Tryz.func3
    (witness_row_at (enc:=enc) (C:=Tryz.checked) false (laidWorld os) arg0 rfl (by kernel_rfl) (by kernel_rfl) (by kernel_rfl)
      (OpenSpec.preRow_of_cond 8 hx (by kernel_rfl) (fun k hk => by cases hk; kernel_rfl) (by kernel_rfl) (laid_met os))) ?_
  intro W base args ds gs before hval hW _ hk _ hL _ _
  exact contract H enc W base args ds gs before hval hW (hk _ rfl) hL
theorem saidUpto:Rows.AbecedaryKeepsUptoSaid :=
  OpenClaim.holds_of_cond 3 Tryz.f3 rfl rfl rfl rfl rfl rfl rfl ⟨rfl,rfl,rfl,rfl,rfl⟩ rfl rfl rfl rfl rfl (by kernel_rfl) Tryz.func3 (by kernel_rfl)
    (of_decide_eq_true (by kernel_rfl)) (by unfold Func.isWrapper; first | (rw [if_pos (by decide +kernel)]; kernel_rfl) | (rw [if_neg (by decide +kernel)]; exact ⟨rfl,rfl⟩))
    (fun os started H enc _ F => by rw [OpenClaim.pre_eq_preRow]; exact lifted os started H enc F)
theorem plain (f : FuncId) (fn : Func) (hf : Tryz.pinned.checked.prog.funcNamed "abecedary/abecedarytop.AbecedaryKeeps" = some f) (hfn : Tryz.pinned.checked.prog.funcs[f]? = some fn) :
    false = Tryz.pinned.checked.prog.looks []∧∀ (j:Nat) t,fn.params[j]? = some t → Tryz.pinned.checked.prog.wantsStandIn t = false:=by
  obtain rfl : f = 3 := Option.some.inj ((show Tryz.prog.funcNamed "abecedary/abecedarytop.AbecedaryKeeps" = some 3 by kernel_rfl).symm.trans hf) |>.symm
  obtain rfl:fn = Tryz.f3:=(Option.some.inj (Tryz.func3.symm.trans hfn)).symm
  refine ⟨by kernel_rfl,fun j t ht => ?_⟩
  rw [Tryz.params3] at ht
  have hm:t ∈ [22,3,23]:=by simpa using Array.mem_of_getElem? ht
  have hall:([22,3,23].all fun u => !Tryz.prog.wantsStandIn u) = true:=by kernel_rfl
  exact (show Tryz.prog.wantsStandIn t = false by simpa using List.all_eq_true.1 hall t hm)
theorem proved:Rows.AbecedaryKeepsUptoCardSaid :=
  Claim7.holds_tied_plain_at .later [] _ _ _ _ saidUpto (fun _ h => by cases h) (by kernel_rfl) (fun _ h => by cases h) abecedaryKeepsUpto_row_tie rfl ⟨rfl,rfl⟩ (by kernel_rfl) rfl plain (by kernel_rfl)
#print axioms proved
end Go.Proofs.YtgaefgbgfmpobaaGreatDoor.abecedaryKeeps
