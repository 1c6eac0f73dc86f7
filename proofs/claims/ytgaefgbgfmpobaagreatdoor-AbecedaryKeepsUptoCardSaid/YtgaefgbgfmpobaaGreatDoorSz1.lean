/-
  Part 1.
-/
import Derived.WalkKit
import Derived.ProofKit
import Derived.Deep.LoopGhost
import Derived.OrdersHeld
import Derived.StillTail
import Derived.Laws.BytesArg
import Derived.Lib.ConvBytes
import Derived.Laws.StructEq
import Derived.Test.YtgaefgbgfmpobaaGreatDoorRows
import Derived.OpenShut
import Derived.JoinedCond
import Derived.Carry
import Derived.Deep.Slices
import Derived.Deep.Strs
import Derived.RangeFuncRecord
import Derived.Sort.LoopGhostIn
import Derived.OrdersIn
import Derived.ChangeKeysEq
import Derived.Laws.Externs
import Derived.Lib.Overlaps
import Derived.Scope
set_option linter.defProp false
set_option linter.unusedSectionVars false
set_option linter.unusedSimpArgs false
set_option linter.unusedVariables false
namespace Go.En
open Go.Proofs Go.Proofs.YtgaefgbgfmpobaaGreatDoor
open List renaming length -> ba
def I {α : Sort _} {a : α} : a = a := rfl
def qk {p : Prop} (h : p := by kernel_rfl) : p := h
def qo {p : Prop} (h : p := by omega) : p := h
def ST {p : Prop} (h : p := by simp) : p := h
def SU {p : Prop} (h : p := by decide) : p := h
abbrev SX (b : Nat) : Value := .pointer (some ⟨b,0,none⟩)
abbrev aaa := @if_neg
abbrev aab := @if_pos
abbrev aac := @Nat.le_refl
abbrev aad := @Option.some.injEq
abbrev aae := @List.getElem?_eq_getElem
abbrev aaf := @List.length_append
abbrev aag := @Nat.zero_le
abbrev aah := @Nat.mul_one
abbrev aai := @Prod.mk.injEq
abbrev aaj := @List.length_cons
abbrev aak := @List.mem_map
abbrev aal := @List.mem_append
abbrev aam := @List.length_take
abbrev aan := @List.length_drop
abbrev aao := @List.map_cons
abbrev aap := @List.mem_of_getElem?
abbrev aaq := @List.Perm.swap
abbrev aar := @List.take_of_length_le
abbrev aas := @List.getElem?_eq_some_iff
abbrev aat := @Nat.le_trans
abbrev aau := @List.mem_cons
abbrev aav := @List.take_length
abbrev aaw := @List.append_nil
abbrev aax := @List.append_assoc
abbrev aay := @List.length_set
abbrev aaz := @List.cons_append
abbrev aaA := @List.take_add_one
abbrev aaB := @List.getD_eq_getElem?_getD
abbrev aaC := @List.take_append_drop
abbrev aaD := @Nat.zero_add
abbrev aaE := @List.pairwise_cons
abbrev aaF := @List.drop_eq_getElem_cons
abbrev aaG := @List.length_nil
abbrev aaH := @Nat.mod_eq_of_lt
abbrev aaI := @List.perm_middle
abbrev aaJ := @Bool.and_eq_true
abbrev aaK := @List.mem_singleton
abbrev aaL := @List.nil_append
abbrev aaM := @Nat.eq_of_beq_eq_true
abbrev aaN := @Nat.le_succ
abbrev aaO := @List.drop_drop
abbrev aaP := @List.length_map
abbrev aaQ := @List.mem_cons_of_mem
abbrev aaR := @List.mem_of_mem_take
abbrev aaS := @List.drop_length
abbrev aaT := @List.mem_cons_self
abbrev aaU := @Nat.lt_or_ge
abbrev aaV := @BitVec.ofInt_natCast
abbrev aaW := @BitVec.toNat_ofNat
abbrev aaX := @List.eq_nil_of_length_eq_zero
abbrev aaY := @Nat.mul_le_mul_right
abbrev aaZ := @Option.getD_some
abbrev aa0 := @List.filter_append
abbrev aa1 := @List.mem_iff_getElem?
abbrev aa2 := @Option.map_some
abbrev aa3 := @List.getElem?_append_left
abbrev aa4 := @List.getElem?_map
abbrev aa5 := @List.map_map
abbrev aa6 := @List.all_eq_true
abbrev aa7 := @Nat.add_zero
abbrev aa8 := @Option.some.inj
abbrev aa9 := @List.getElem?_append_right
abbrev aba := @List.map_append
abbrev abb := @List.mem_filter
abbrev abc := @List.length_pos_iff
abbrev abd := @List.pairwise_iff_getElem
abbrev abe := @List.mem_of_mem_drop
abbrev abf := @List.take_succ_cons
abbrev abg := @Nat.pow_le_pow_right
abbrev abh := @List.drop_of_length_le
abbrev abi := @List.ext_getElem?
abbrev abj := @List.take_zero
abbrev abk := @List.nodup_cons
abbrev abl := @List.drop_zero
abbrev abm := @Option.getD_none
abbrev abn := @List.getElem?_take_of_lt
abbrev abo := @Int.le_refl
abbrev abp := @List.pairwise_map
abbrev abq := @Nat.eq_zero_or_pos
abbrev abr := @Nat.zero_mul
abbrev abs := @Nat.le_of_not_lt
abbrev abt := @List.getElem?_cons_zero
abbrev abu := @List.getElem?_drop
abbrev abv := @List.perm_append_singleton
abbrev abw := @Array.toList_modify
abbrev abx := @Nat.add_sub_cancel_left
abbrev aby := @List.pairwise_append
abbrev abz := @Nat.mod_lt
abbrev abA := @List.drop_take
abbrev abB := @Nat.lt_irrefl
abbrev abC := @List.map_congr_left
abbrev abD := @List.flatten_cons
abbrev abE := @Int.eq_ofNat_of_zero_le
abbrev abF := @List.getLastD_eq_getLast?
abbrev abG := @Array.getElem?_setIfInBounds
abbrev abH := @Nat.sub_zero
abbrev abI := @List.suffix_refl
abbrev abJ := @List.nodup_iff_pairwise_ne
abbrev abK := @List.perm_append_comm_assoc
abbrev abL := @List.size_toArray
abbrev abM := @Array.getElem?_toList
abbrev abN := @BitVec.toNat_or
abbrev abO := @List.take_append
abbrev abP := @Int.ofNat_inj
abbrev abQ := @Nat.lt_trichotomy
abbrev abR := @List.nodup_append
abbrev abS := @List.take_append_of_le_length
abbrev abT := @Bool.eq_iff_iff
abbrev abU := @List.getElem?_of_mem
abbrev abV := @List.getElem?_set_ne
abbrev abW := @Array.length_toList
abbrev abX := @Bool.not_eq_true'
abbrev abY := @Option.map_eq_some_iff
abbrev abZ := @UInt8.toNat_ofNat_of_lt'
abbrev ab0 := @Nat.pow_mul
abbrev ab1 := @Nat.mul_comm
abbrev ab2 := @Nat.mul_le_mul
abbrev ab3 := @List.map_nil
abbrev ab4 := @Nat.succ_mul
abbrev ab5 := @List.take_take
abbrev ab6 := @Nat.pow_succ
abbrev ab7 := @List.exists_mem_of_ne_nil
abbrev ab8 := @Nat.sub_self
abbrev ab9 := @List.mem_append_right
abbrev aca := @List.drop_append_of_le_length
abbrev acb := @Option.map_none
abbrev acd := @Nat.le_of_ble_eq_true
abbrev ace := @Nat.ne_of_beq_eq_false
abbrev acf := @Array.getElem?_eq_some_iff
abbrev acg := @List.getElem?_set_self
abbrev ach := @Option.bind_eq_some_iff
abbrev aci := @Nat.two_pow_add_eq_or_of_lt
abbrev acj := @Nat.lt_of_lt_of_le
abbrev ack := @Int.ofNat_tdiv
abbrev acl := @Nat.div_le_self
abbrev acm := @Nat.min_eq_left
abbrev acn := @List.getElem_mem
abbrev aco := @List.foldl_append
abbrev acp := @List.foldl_cons
abbrev acq := @List.mem_flatMap
abbrev acr := @List.set_append_right
abbrev acs := @List.mem_of_find?_eq_some
abbrev act := @List.length_filter_le
abbrev acu := @List.getLast?_eq_some_getLast
abbrev acv := @Nat.le_of_lt
abbrev acw := @Array.size_append
abbrev acx := @Array.getElem?_eq_none
abbrev acy := @Array.toList_push
abbrev acz := @List.length_singleton
abbrev acA := @Int.toNat_natCast
abbrev acB := @Nat.add_sub_cancel'
abbrev acC := @List.filter_eq_nil_iff
abbrev acD := @BitVec.toNat_and
abbrev acE := @Nat.and_two_pow_sub_one_eq_mod
abbrev acF := @List.length_eq_zero_iff
abbrev acG := @UInt8.toNat_ofNat'
abbrev acH := @List.mem_reverse
abbrev acI := @List.Pairwise.imp_of_mem
abbrev acJ := @UInt8.lt_iff_toNat_lt
abbrev acK := @Array.ext_getElem?
abbrev acL := @List.flatMap_append
abbrev acM := @List.find?_append
abbrev acN := @List.length_eq_countP_add_countP
abbrev acO := @List.filter_eq_self
abbrev acP := @List.mem_take_iff_getElem
abbrev acQ := @Nat.lt_succ_self
abbrev acR := @Int.toNat_of_nonneg
abbrev acS := @List.filter_cons_of_neg
abbrev acT := @List.filter_cons_of_pos
abbrev acU := @List.getElem?_cons_succ
abbrev acV := @List.drop_append
abbrev acW := @Array.all_toList
abbrev acX := @Nat.le_add_right
abbrev acY := @List.drop_suffix
abbrev acZ := @List.Nodup.length_le_of_subset
abbrev ac0 := @Nat.shiftLeft_add_eq_or_of_lt
abbrev ac1 := @List.findIdx?_eq_some_iff_getElem
abbrev ac2 := @Array.toList_eraseIdxIfInBounds
def ax {p : Prop} (h : p := by dsimp only; omega) : p := h
def bC {α : Sort _} (a : α) : ∃ x, x = a := ⟨_, rfl⟩
def sb {p : Prop} (h : p := by (repeat' first | exact trivial | refine ⟨rfl, ?_⟩)) : p := h
section
abbrev Sl:=List (Nat×Value)
def look:Sl->Nat->Option Value
 | [],_=>none
 | (k,v)::r,t=>cond (Nat.beq k t) (some v) (look r t)
structure Ag (n:Nat) (l:Sl) (a:Act):Prop where
 size:a.tmps.size=n
 defers:a.defers=[]
 slot:∀ t v,look l t=some v->a.tmps[t]?=some v
theorem Ag.put{n:Nat}{l:Sl}{a:Act}{d:Nat}{v:Value}(h:Ag n l a)(hd:Nat.blt d n=true):
  Ag n ((d,v)::l) (a.put (some d) v):=by
 have hd':d<n:=acd hd;refine ⟨by simp[Act.put,h.size],h.defers,fun t u hu=>?_⟩;simp only[look] at hu;cases e:Nat.beq d t with
 | true=>
  have:d=t:=aaM e;subst this;rw[e] at hu;simp only[cond_true,aad] at hu;subst hu;simp[Act.put,h.size,hd']
 | false=>
  rw[e] at hu;simp only[cond_false] at hu;have hne:d≠t:=ace e;rw[<-h.slot t u hu];simp[Act.put,hne]
def ev(l:Sl):Operand->Option Value
 | .tmp t=>look l t
 | .const v=>some v
 | .global g=>some (.pointer (some ⟨g,0,none⟩))
 | .func f=>some (.func (.func f) #[] #[])
theorem Ag.ev{n:Nat}{l:Sl}{a:Act}(h:Ag n l a){x:Operand}{v:Value}(hx:ev l x=some v):a.eval x=v:=by
 cases x with
 | tmp t=>simp[Act.eval,h.slot t v hx]
 | const u=>simpa[En.ev,Act.eval] using hx
 | global g=>simpa[En.ev,Act.eval] using hx
 | func f=>simpa[En.ev,Act.eval] using hx
def lh(l:Sl):Sl->Prop
 | []=>True
 | (k,v)::r=>look l k=some v/\lh l r
theorem lh.look{l:Sl}:∀ {l2:Sl},lh l l2->∀ t v,look l2 t=some v->look l t=some v
 | [],_,t,v,h=>by simp[En.look] at h
 | (k,u)::r,hs,t,v,h=>by
  simp only[En.look] at h;cases e:Nat.beq k t with
  | true=>
   have:k=t:=aaM e;subst this;rw[e] at h;simp only[cond_true,aad] at h;subst h;exact hs.1
  | false=>
   rw[e] at h;exact lh.look hs.2 t v h
def Ag.sub{n:Nat}{l l2:Sl}{a:Act}(h:Ag n l a)(hs:lh l l2):Ag n l2 a:=
 ⟨h.size,h.defers,fun t v ht=>h.slot t v (hs.look t v ht)⟩
abbrev PH:=Nat->Option Obj
structure aY (w0 w:World) (K:PH) (hs:List PH):Prop where
 os:w.os=w0.os
 tape:w.tape=w0.tape
 output:w.output=w0.output
 size:w0.heap.size<=w.heap.size
 imm:∀ b o,K b=some o->w.heap[b]?=some o
 own:∀ (i:Nat) h,hs[i]?=some h->∀ b o,h b=some o->w.heap[b]?=some o
 apart:∀ (i:Nat) h,hs[i]?=some h->∀ b o,h b=some o->K b=none
 sep:∀ (i j:Nat) h h',hs[i]?=some h->hs[j]?=some h'->i≠j->∀ b o,h b=some o->h' b=none
theorem aY.drew{w0 w:World}{K:PH}{hs:List PH}(h:aY w0 w K hs):aY w0 w.drew K hs:=
 ⟨h.os,h.tape,h.output,h.size,h.imm,h.own,h.apart,h.sep⟩
def aY.dropHead{w0 w:World}{K:PH}{h:PH}{hs:List PH}(s:aY w0 w K (h::hs)):aY w0 w K hs:=
 ⟨s.os,s.tape,s.output,s.size,s.imm,fun i x hx=>s.own (i+1) x (by simpa using hx),fun i x hx=>s.apart (i+1) x (by simpa using hx),
  fun i j x y hx hy hij=>s.sep (i+1) (j+1) x y (by simpa using hx) (by simpa using hy) qo⟩
def WL(P:Program)(w0:World)(ops:Array Oper)(Q:Exit->Act->World->Prop)(rest:List Oper)(n:Nat)(l:Sl)(K:PH)(hs:List PH):Prop:=
 ∀ a w,Ag n l a->aY w0 w K hs->wpList P ops Q rest a w
def WC(P:Program)(w0:World)(c:Code)(Q:Exit->Act->World->Prop)(n:Nat)(l:Sl)(K:PH)(hs:List PH):Prop:=
 ∀ a w,Ag n l a->aY w0 w K hs->c.wp P Q a w
def WQ(w0:World)(Q:Exit->Act->World->Prop)(e:Exit)(n:Nat)(l:Sl)(K:PH)(hs:List PH):Prop:=
 ∀ a w,Ag n l a->aY w0 w K hs->Q e a w
section code
variable {P:Program} {w0:World} {Q:Exit->Act->World->Prop} {n:Nat} {l:Sl} {K:PH} {hs:List PH}
def sq{x y:Code}(h:WC P w0 x (Exit.then (y.wp P Q) Q) n l K hs):WC P w0 (.seq x y) Q n l K hs:=
 fun a w ha hw=>wp_seq (h a w ha hw)
def rg{id:Nat}{o:List Oper}(h:WL P w0 o.toArray Q o n l K hs):WC P w0 (.region id o.toArray false) Q n l K hs:=
 fun a w ha hw=>wp_region_lit (h a w ha hw)
def bk{id:Nat}{c:Code}(h:WC P w0 c (Exit.inBlock id Q) n l K hs):WC P w0 (.block id c) Q n l K hs:=
 fun a w ha hw=>wp_block (h a w ha hw)
def ex{id:Nat}(h:WQ w0 Q (.exit id) n l K hs):WC P w0 (.exit id) Q n l K hs:=
 fun a w ha hw=>wp_exit (h a w ha hw)
def rt(h:WQ w0 Q .ret n l K hs):WC P w0 .ret Q n l K hs:=
 fun a w ha hw=>wp_ret (h a w ha hw)
def sk(h:WQ w0 Q .normal n l K hs):WC P w0 .skip Q n l K hs:=
 fun a w ha hw=>wp_skip (h a w ha hw)
def dY{c:Operand}{x y:Code}(hc:ev l c=some (.bool true))(h:WC P w0 x Q n l K hs):WC P w0 (.cond c x y) Q n l K hs:=
 fun a w ha hw=>wp_cond_true (ha.ev hc) (h a w ha hw)
def dt{c:Operand}{x y:Code}(hc:ev l c=some (.bool false))(h:WC P w0 y Q n l K hs):WC P w0 (.cond c x y) Q n l K hs:=
 fun a w ha hw=>wp_cond_false (ha.ev hc) (h a w ha hw)
def nt{c:Operand}{x y:Code}{b:Bool}(hc:ev l c=some (.bool b))(h:b=true->WC P w0 x Q n l K hs)(h':b=false->WC P w0 y Q n l K hs):
  WC P w0 (.cond c x y) Q n l K hs:=
 fun a w ha hw=>wp_cond_split (ha.ev hc) (fun e=>h e a w ha hw) (fun e=>h' e a w ha hw)
def nl{ops:Array Oper}(h:WQ w0 Q .normal n l K hs):WL P w0 ops Q [] n l K hs:=fun a w ha hw=>wpList_nil (h a w ha hw)
def th{y:Code}{Q':Exit->Act->World->Prop}(h:WC P w0 y Q n l K hs):WQ w0 (Exit.then (y.wp P Q) Q') .normal n l K hs:=h
def bl{id:Nat}(h:WQ w0 Q .normal n l K hs):WQ w0 (Exit.inBlock id Q) .normal n l K hs:=h
def xt{id:Nat}{N:Act->World->Prop}(h:WQ w0 Q (.exit id) n l K hs):WQ w0 (Exit.then N Q) (.exit id) n l K hs:=h
def xb{id:Nat}(h:WQ w0 Q .normal n l K hs):WQ w0 (Exit.inBlock id Q) (.exit id) n l K hs:=fun a w ha hw=>by
 simpa[Exit.inBlock] using h a w ha hw
def xn{id id':Nat}(hne:Nat.beq id' id=false)(h:WQ w0 Q (.exit id') n l K hs):WQ w0 (Exit.inBlock id Q) (.exit id') n l K hs:=fun a w ha hw=>by
 have:id'≠id:=ace hne;simpa[Exit.inBlock,this] using h a w ha hw
def rT{N:Act->World->Prop}(h:WQ w0 Q .ret n l K hs):WQ w0 (Exit.then N Q) .ret n l K hs:=h
def rB{id:Nat}(h:WQ w0 Q .ret n l K hs):WQ w0 (Exit.inBlock id Q) .ret n l K hs:=h
theorem loop{σ:Type}{body:Code}(F:σ->Sl)(HK:σ->PH)(H:σ->List PH)(J:σ->Prop)(μ:σ->Nat)(x0:σ)(h0:J x0)(hF:lh l (F x0))(hK:K=HK x0)(hH:hs=H x0)
  (round:∀ x,J x->WC P w0 body (Exit.then (fun a w=>∃ x',J x'/\μ x'<μ x/\Ag n (F x') a/\aY w0 w (HK x') (H x')) Q) n (F x) (HK x) (H x)):
  WC P w0 (.loop body) Q n l K hs:=fun a w ha hw=>by
 subst hK;subst hH;refine wp_loop_ghost (fun m a w=>∃ x,J x/\μ x=m/\Ag n (F x) a/\aY w0 w (HK x) (H x)) (μ x0) ⟨x0,h0,I,ha.sub hF,hw⟩ ?_;rintro m a w ⟨x,hJ,rfl,hA,hS⟩;refine wp_mono (round x hJ a w hA hS) ?_
 grind
def bc{σ:Type}{F:σ->Sl}{HK:σ->PH}{H:σ->List PH}{J:σ->Prop}{μ:σ->Nat}{x:σ}{Q':Exit->Act->World->Prop}(x':σ)(hF:lh l (F x'))(hK:K=HK x')(hH:hs=H x')
  (h1:J x') (h2:μ x'<μ x):WQ w0 (Exit.then (fun a w=>∃ x',J x'/\μ x'<μ x/\Ag n (F x') a/\aY w0 w (HK x') (H x')) Q') .normal n l K hs:=fun a w ha hw=>by
 subst hK;subst hH;exact ⟨x',h1,h2,ha.sub hF,hw⟩
end code
def jN(P:Program)(f:FuncId):Bool:=match P.funcs[f]? with
 | some fn => fn.body.isSome && !(fn.name == "runtime.NumGoroutine")
 | none=>false
def fK(w0:World)(R:Value->PH->List PH->Prop):Ending->World->Prop:=fun e w'=>∃ v K' hs',e=.returned v/\R v K' hs'/\aY w0 w' K' hs'
def Ct(P:Program)(w0:World)(f:FuncId)(args:List Value)(K:PH)(hs:List PH)(R:Value->PH->List PH->Prop):Prop:=
 jN P f=true/\∀ w,aY w0 w K hs->Calls P f args.toArray w (fK w0 R)
abbrev aj (w0 : World) (f : FuncId) (args : List Value) (K : PH) (hs : List PH) (R : Value -> PH -> List PH -> Prop) : Prop := Ct Tryz.prog w0 f args K hs R
theorem Ct.mono{P:Program}{w0:World}{f:FuncId}{args:List Value}{K:PH}{hs:List PH}{R R':Value->PH->List PH->Prop}(h:Ct P w0 f args K hs R)(hr:∀ v K' hs',R v K' hs'->R' v K' hs'):
  Ct P w0 f args K hs R':=
 ⟨h.1,fun w hw=>(h.2 w hw).mono fun _ _ ⟨v,K',hs',h1,h2,h3⟩=>⟨v,K',hs',h1,hr _ _ _ h2,h3⟩⟩
def params:Nat->List Value->Sl
 | _,[]=>[]
 | i,v::r=>(i,v)::params (i+1) r
theorem wm:∀ (args:List Value) (i t:Nat) (v:Value),look (params i args) t=some v->i<=t/\args[t-i]?=some v
 | [],i,t,v,h=>by simp[params,look] at h
 | u::r,i,t,v,h=>by
  simp only[params,look] at h;cases e:Nat.beq i t with
  | true=>
   simp_all
  | false=>
   rw[e] at h;obtain ⟨h1,h2⟩:=wm r (i+1) t v h
   grind
def enter{P:Program}{w0:World}{f:FuncId}{fn:Func}{c:Code}{n:Nat}{args:List Value}{K:PH}{hs:List PH}{R:Value->PH->List PH->Prop}
  (hf:P.funcs[f]?=some fn) (hcal:jN P f=true) (hb:fn.body=some c) (hn:fn.ntmps=n) (hl:Nat.ble (ba args) n=true)
  (h:WC P w0 c (bodyPost P fn (fK w0 R)) n (params 0 args) K hs):Ct P w0 f args K hs R:=by
 refine ⟨hcal,fun w hw=>calls_of_wp hf hb (h _ w ⟨?_,I,?_⟩ hw)⟩
 ·simp_all
 intro t v ht;obtain ⟨h1,h2⟩:=wm args 0 t v ht
 grind
section ret
variable {P:Program} {w0:World} {fn:Func} {R:Value->PH->List PH->Prop} {n:Nat} {l:Sl} {K:PH} {hs:List PH}
def pO(hr:fn.results=#[])(h:R (.tuple #[]) K hs):WQ w0 (bodyPost P fn (fK w0 R)) .ret n l K hs:=
 fun _ _ ha hw=>bodyPost_ret (results_none hr _ _ _) ha.defers ⟨_,_,_,rfl,h,hw⟩
def gW(hr:fn.results=#[])(h:R (.tuple #[]) K hs):WQ w0 (bodyPost P fn (fK w0 R)) .normal n l K hs:=
 fun _ _ ha hw=>bodyPost_end (results_none hr _ _ _) ha.defers ⟨_,_,_,rfl,h,hw⟩
def ay{t:Nat}{v:Value}(hr:fn.results=#[.tmp t])(hv:look l t=some v)(h:R v K hs):WQ w0 (bodyPost P fn (fK w0 R)) .ret n l K hs:=
 fun _ _ ha hw=>bodyPost_ret (results_tmp hr _ _ _) ha.defers ⟨_,_,_,rfl,by simpa[ha.slot t v hv] using h,hw⟩
def bL{t u:Nat}{v x:Value}(hr:fn.results=#[.tmp t,.tmp u])(hv:look l t=some v)(hx:look l u=some x)(h:R (.tuple #[v,x]) K hs):WQ w0 (bodyPost P fn (fK w0 R)) .ret n l K hs:=
 fun _ _ ha hw=>bodyPost_ret (results_tmp2 hr _ _ _) ha.defers ⟨_,_,_,rfl,by simpa[ha.slot t v hv,ha.slot u x hx] using h,hw⟩
def jq{t u s:Nat}{v x y:Value}(hr:fn.results=#[.tmp t,.tmp u,.tmp s])(hv:look l t=some v)(hx:look l u=some x)(hy:look l s=some y)(h:R (.tuple #[v,x,y]) K hs):
  WQ w0 (bodyPost P fn (fK w0 R)) .ret n l K hs:=
 fun _ _ ha hw=>bodyPost_ret (v:=.tuple #[v,x,y]) (by simp[results,hr,ha.slot t v hv,ha.slot u x hx,ha.slot s y hy,go_sem]) ha.defers ⟨_,_,_,rfl,h,hw⟩
end ret
def ib(ops:Array Oper)(l:Sl):Option (Nat×Bool)->Option Bool
 | none=>some true
 | some (j,want)=>match ops[j]? with
  | some o=>match o.dst with
   | some d=>match look l d with
    | some (.bool b)=>some (b == want)
    | some (.tuple _)=>some false
    | _=>none
   | none=>none
  | none=>none
def jl{ops:Array Oper}{n:Nat}{l:Sl}{a:Act}{o:Oper}{b:Bool}(ha:Ag n l a)(h:ib ops l o.guard=some b):Region.wanted o (yielded ops a.tmps)=b:=by
 unfold ib at h;unfold Region.wanted
 split at h
 ·rename_i e;simp[e] at *;exact h
 rename_i j want e;rw[e];simp only;cases hj:ops[j]? with
 | none=>simp[hj] at h
 | some oj=>
  simp only[hj] at h;cases hd:oj.dst with
  | none=>simp[hd] at h
  | some d=>
   simp only[hd] at h;cases hl:look l d with
   | none=>simp[hl] at h
   | some v=>
    simp only[hl] at h;have h4:=ha.slot d _ hl;cases v <;> simp at h
    all_goals simp_all [yielded]
inductive UK where
 | int (k:IntKind)|bool|str|slice|ptr|map|fn|other
def UK.fits:UK->TypeDesc->Bool
 | .int k,.int k'=>k == k'
 | .bool,.bool=>true
 | .str,.string=>true
 | .slice,.slice _=>true
 | .ptr,.pointer _=>true
 | .map,.map _ _=>true
 | .fn,.func _ _ _=>true
 | .other,_=>true
 | _,_=>false
def asc{α:Type}:List (Nat×α)->Nat->Option α
 | [],_=>none
 | (k,v)::r,t=>cond (Nat.beq k t) (some v) (asc r t)
theorem sF{α:Type}:∀ (l:List (Nat×α)) (t:Nat) (v:α),asc l t=some v->(t,v)∈l
 | [],_,_,h=>by simp[asc] at h
 | (k,u)::r,t,v,h=>by
  simp only[asc] at h;cases e:Nat.beq k t with
  | true=>
   have:k=t:=aaM e;subst this;rw[e] at h;simp only[cond_true,aad] at h;simp[h]
  | false=>
   rw[e] at h;exact aaQ _ (sF r t v h)
structure eU where
 elem:Nat
 size:Nat
 bytes:Nat
 zero:Value
structure br where
 kinds:List (Nat×UK)
 flds:List (Nat×Nat)
 sls:List (Nat×eU)
def UK.one:UK->Bool
 | .other=>false
 | _=>true
def br.kindOK(P:Program)(x:Nat×UK):Bool:=match P.underlying x.1 with
 | some d=>x.2.fits d && (!x.2.one || (match P.info? x.1 with|some i=>i.size == 1|none=>false))
 | none=>false
def yx(P:Program)(t:Nat):Option eU:=match P.underlying t with
 | some (.slice e)=>match P.info? e with
  | some i=>match i.zero with
   | some z=>some ⟨e,i.size,i.bytes,z⟩
   | none=>none
  | none=>none
 | _=>none
def br.fldOK(P:Program)(x:Nat×Nat):Bool:=match P.underlying (x.1 / 64) with
 | some (.struct fs)=>match fs[x.1 % 64]? with
  | some fd=>fd.offset == x.2 && (match P.info? fd.type with|some i=>i.size != 0|none=>false)
  | none=>false
 | _=>false
class TabOK (P:Program) (T:outParam br):Prop where
 kinds:T.kinds.all (br.kindOK P)=true
 flds:T.flds.all (br.fldOK P)=true
 sls:T.sls.map (fun x=>yx P x.1)=T.sls.map (fun x=>some x.2)
def TabOK.sl{P:Program}{T:br}(h:TabOK P T){t:Nat}{s:eU}(hs:asc T.sls t=some s):
  P.underlying t=some (.slice s.elem)/\∃ i,P.info? s.elem=some i/\i.zero=some s.zero/\i.size=s.size/\i.bytes=s.bytes:=by
 have h1:yx P t=some s:=by
  have:=sF _ _ _ hs;obtain ⟨k,hk⟩:=abU this;have h2:=congrArg (fun l=>l[k]?) h.sls;simpa[hk] using h2
 unfold yx at h1
 grind
theorem TabOK.one{P:Program}{T:br}(h:TabOK P T){t:Nat}{k:UK}(hk:asc T.kinds t=some k)(h1:k.one=true):∃ d i,P.underlying t=some d/\P.info? t=some i/\i.size=1/\k.fits d=true:=by
 have:=aa6.1 h.kinds _ (sF _ _ _ hk);unfold br.kindOK at this
 grind
def TabOK.kind{P:Program}{T:br}(h:TabOK P T){t:Nat}{k:UK}(hk:asc T.kinds t=some k):∃ d,P.underlying t=some d/\k.fits d=true:=by
 have:=aa6.1 h.kinds _ (sF _ _ _ hk);unfold br.kindOK at this
 grind
theorem TabOK.int{P:Program}{T:br}(h:TabOK P T){t:Nat}{k:IntKind}(hk:asc T.kinds t=some (.int k)):P.underlying t=some (.int k):=by
 obtain ⟨d,h1,h2⟩:=h.kind hk;cases d <;> simp[UK.fits] at h2;subst h2;exact h1
def TabOK.fld{P:Program}{T:br}(h:TabOK P T){s f off:Nat}(hf:Nat.blt f 64=true)(hk:asc T.flds (s*64+f)=some off)(a:Addr)(w:World):
  (Instr.fieldAt s (.pointer (some a)) f).run P w=.ok (.pointer (some (a.add off))) w:=by
 have:=aa6.1 h.flds _ (sF _ _ _ hk);have hf':f<64:=acd hf;unfold br.fldOK at this;rw[show (s*64+f,off).1 / 64=s from by simp;omega,show (s*64+f,off).1 % 64=f from by simp;omega] at this;cases e:P.underlying s with
 | none=>simp[e] at this
 | some d=>
  cases d <;> simp[e] at this;rename_i fs;cases e2:fs[f]? with
  | none=>simp[e2] at this
  | some fd=>
   simp only[e2,aaJ,beq_iff_eq] at this;obtain ⟨h1,h2⟩:=this;cases e3:P.info? fd.type with
   | none=>simp[e3] at h2
   | some i=>
    simp_all [run_underlying,Instr.fieldAt,Instr.sureAddr,fieldPlace,sizeOf,typeInfo]
def n8(op:BinOp)(u v:Value):Option Value:=
 match u,v with
 | .int k a,.int k' b=>match op with
  | .shl=>cond (decide (0<=b)) (some (.int k (k.wrap (a*2 ^ (min b.toNat k.bits))))) none
  | .shr=>cond (decide (0<=b)) (some (.int k (a.fdiv (2 ^ (min b.toNat k.bits))))) none
  | op=>cond (decide (k=k')) (match op with
   | .add=>some (.int k (k.wrap (a+b)))
   | .sub=>some (.int k (k.wrap (a-b)))
   | .mul=>some (.int k (k.wrap (a*b)))
   | .quo=>cond (decide (b=0)) none (some (.int k (k.wrap (a.tdiv b))))
   | .rem=>cond (decide (b=0)) none (some (.int k (a.tmod b)))
   | .and=>some (.int k (k.wrap (BitVec.ofInt k.bits a &&& BitVec.ofInt k.bits b).toNat))
   | .or=>some (.int k (k.wrap (BitVec.ofInt k.bits a ||| BitVec.ofInt k.bits b).toNat))
   | .xor=>some (.int k (k.wrap (BitVec.ofInt k.bits a ^^^ BitVec.ofInt k.bits b).toNat))
   | .andNot=>some (.int k (k.wrap (BitVec.ofInt k.bits a &&& ~~~BitVec.ofInt k.bits b).toNat))
   | .eql=>some (.bool (a == b))
   | .neq=>some (.bool (a != b))
   | .lss=>some (.bool (decide (a<b)))
   | .leq=>some (.bool (decide (a<=b)))
   | .gtr=>some (.bool (decide (a>b)))
   | .geq=>some (.bool (decide (a>=b)))
   | _=>none) none
 | .string a,.string b=>match op with
  | .eql=>some (.bool (a.toList == b.toList))
  | .neq=>some (.bool !(a.toList == b.toList))
  | _=>none
 | _,_=>none
def yU(T:br)(t:Nat)(op:BinOp)(u v:Value):Option Value:=
 match op,asc T.kinds t,u,v with
 | .eql,some .ptr,.pointer a,.pointer none=>some (.bool a.isNone)
 | .neq,some .ptr,.pointer a,.pointer none=>some (.bool !a.isNone)
 | .eql,some .slice,.slice a _ _,.slice none _ _=>some (.bool a.isNone)
 | .neq,some .slice,.slice a _ _,.slice none _ _=>some (.bool !a.isNone)
 | .eql,some .map,.map a,.map none=>some (.bool a.isNone)
 | .neq,some .map,.map a,.map none=>some (.bool !a.isNone)
 | .eql,some .bool,.bool a,.bool b=>some (.bool (a == b))
 | .neq,some .bool,.bool a,.bool b=>some (.bool !(a == b))
 | _,_,_,_=>none
def yB(op:UnOp)(u:Value):Option Value:=
 match op,u with
 | .not,.bool b=>some (.bool !b)
 | .neg,.int k n=>some (.int k (k.wrap (0-n)))
 | .xor,.int k n=>some (.int k (k.wrap (BitVec.ofInt k.bits (if k.signed then -1 else k.max) ^^^ BitVec.ofInt k.bits n).toNat))
 | _,_=>none
def xY(T:br)(t:Nat)(u:Value):Option Value:=
 match u with
 | .slice _ n _=>match asc T.kinds t with|some .slice=>some (.int .i64 n)|_=>none
 | .string s=>match asc T.kinds t with|some .str=>some (.int .i64 s.size)|_=>none
 | _=>none
def jP(T:br)(l:Sl):Op->Option Value
 | .move x|.assign x=>ev l x
 | .pick c a b=>match ev l c with
  | some (.bool c')=>cond c' (ev l a) (ev l b)
  | _=>none
 | .nilCheck x=>match ev l x with
  | some (.pointer (some a))=>some (.pointer (some a))
  | some (.func (.func f) first captured)=>some (.func (.func f) first captured)
  | _=>none
 | .binOp op t x y _=>match ev l x,ev l y with
  | some u,some v=>match n8 op u v with
   | some r=>some r
   | none=>yU T t op u v
  | _,_=>none
 | .unOp op _ x=>match ev l x with
  | some u=>yB op u
  | none=>none
 | .extract t i=>match ev l t with
  | some (.tuple vs)=>vs[i]?
  | _=>none
 | .convert s d x=>match asc T.kinds s,ev l x,asc T.kinds d with
  | some _,some (.int _ n),some (.int k)=>some (.int k (k.wrap n))
  | _,_,_=>none
 | .fieldAddr s x f=>match ev l x with
  | some (.pointer (some a))=>match Nat.blt f 64,asc T.flds (s*64+f) with
   | true,some off=>some (.pointer (some (a.add off)))
   | _,_=>none
  | _=>none
 | .call { callee:=.builtin .len,args,argTypes }=>match args.toList,argTypes.toList with
  | [x],[t]=>match ev l x with
   | some u=>xY T t u
   | none=>none
  | _,_=>none
 | .call { callee:=.builtin .max,args,.. }=>match args.toList with
  | [x,y]=>match ev l x,ev l y with
   | some (.int k a),some (.int _ b)=>some (.int k (if b>a then b else a))
   | _,_=>none
  | _=>none
 | .call { callee:=.builtin .min,args,.. }=>match args.toList with
  | [x,y]=>match ev l x,ev l y with
   | some (.int k a),some (.int _ b)=>some (.int k (if b<a then b else a))
   | _,_=>none
  | [x,y,z]=>match ev l x,ev l y,ev l z with
   | some (.int k a),some (.int _ b),some (.int _ c)=>some (.int k (if c<(if b<a then b else a) then c else (if b<a then b else a)))
   | _,_,_=>none
  | [x,y,z,u]=>match ev l x,ev l y,ev l z,ev l u with
   | some (.int k a),some (.int _ b),some (.int _ c),some (.int _ d)=>some (.int k (if d<(if c<(if b<a then b else a) then c else (if b<a then b else a)) then d else (if c<(if b<a then b else a) then c else (if b<a then b else a))))
   | _,_,_,_=>none
  | _=>none
 | .makeFunc fn first captured=>match first.toList,captured.toList.mapM (ev l) with
  | [],some vs=>some (.func fn #[] vs.toArray)
  | _,_=>none
 | _=>none
def ID{P:Program}{op:BinOp}{u v r:Value}(h:n8 op u v=some r)(t:TypeId)(w:World):(binOp op t u v).run P w=.ok r w:=by
 unfold n8 at h
 split at h
 ·rename_i k a k' b
  split at h
  ·cases e:decide (0<=b) with
   | false=>simp[e] at h
   | true=>
    rw[e] at h;simp only[cond_true,aad] at h;subst h;have hb:¬b<0:=by have:=of_decide_eq_true e;omega
    simp[binOp,Op.shift,hb,go_sem]
  ·cases e:decide (0<=b) with
   | false=>simp[e] at h
   | true=>
    rw[e] at h;simp only[cond_true,aad] at h;subst h;have hb:¬b<0:=by have:=of_decide_eq_true e;omega
    simp[binOp,Op.shift,hb,go_sem]
  by_cases hk:k=k'
  ·subst hk;simp only[decide_true,cond_true] at h
   split at h <;> first
    | (simp only[aad] at h;subst h;simp[binOp,Op.intArith,Op.intBits,Op.intCmp,go_sem];done)
    | (
      by_cases hb:b=0
      all_goals simp_all [binOp,Op.intDiv])
    | (simp at h;done)
  simp[hk] at h
 ·split at h <;> first
   | simp_all [binOp,Op.stringOp]
   | (simp at h;done)
 simp at h
def Jr{P:Program}{op:UnOp}{u r:Value}(h:yB op u=some r)(w:World):(Op.unary op u).run P w=.ok r w:=by
 unfold yB at h
 split at h <;> first
  | simp_all [Op.unary,Op.intArith,Op.intBits]
  | (simp at h;done)
def IC{P:Program}{T:br}[hT:TabOK P T]{t:Nat}{u r:Value}(h:xY T t u=some r)(ty:TypeId)(w:World):(Builtin.len_ #[t] ty #[u]).run P w=.ok r w:=by
 unfold xY at h
 split at h
 ·split at h
  ·rename_i e;obtain ⟨d,h1,h2⟩:=hT.kind e;cases d <;> simp[UK.fits] at h2
   simp_all [run_underlying,Builtin.len_,goInt]
  simp at h
 ·split at h
  ·rename_i e;obtain ⟨d,h1,h2⟩:=hT.kind e;cases d <;> simp[UK.fits] at h2
   simp_all [run_underlying,Builtin.len_,goInt]
  simp at h
 simp at h
def Iq{P:Program}{op:BinOp}{u v r:Value}(h:n8 op u v=some r)(t:TypeId)(x y:Operand)(w:World):(eqGuard op t x y u v).run P w=.ok () w:=by
 unfold n8 at h;unfold eqGuard
 split at h
 all_goals simp_all
def n0{P:Program}{t:Nat}{u v:Value}{b:Bool}{w:World}(h:∀ d,(Op.equalIn (d+1) t u v).run P w=.ok b w):(Op.equal t u v).run P w=.ok b w:=h 9999
def Id{P:Program}{T:br}[hT:TabOK P T]{t:Nat}{op:BinOp}{u v r:Value}(h:yU T t op u v=some r)(x y:Operand)(w:World):
  (eqGuard op t x y u v).run P w=.ok () w/\(binOp op t u v).run P w=.ok r w:=by
 unfold yU at h
 split at h
 ·rename_i e;obtain ⟨d,h1,h2⟩:=hT.kind e;cases d <;> simp[UK.fits] at h2;simp only[aad] at h;subst h;rename_i a _;cases a <;> exact ⟨by rfl,by simp only[binOp];rw[Sem.run_bind,n0 (fun d=>by simp[Op.equalIn,run_underlying h1];try rfl)];rfl⟩
 ·rename_i e;obtain ⟨d,h1,h2⟩:=hT.kind e;cases d <;> simp[UK.fits] at h2;simp only[aad] at h;subst h;rename_i a _;cases a <;> exact ⟨by rfl,by simp only[binOp];rw[Sem.run_bind,n0 (fun d=>by simp[Op.equalIn,run_underlying h1];try rfl)];rfl⟩
 ·rename_i a _ _ _ _ e;obtain ⟨d,h1,h2⟩:=hT.kind e;cases d <;> simp[UK.fits] at h2;simp only[aad] at h;subst h;cases a <;> exact ⟨by rfl,by simp only[binOp];rw[Sem.run_bind,n0 (fun d=>by simp[Op.equalIn,run_underlying h1];try rfl)];rfl⟩
 ·rename_i a _ _ _ _ e;obtain ⟨d,h1,h2⟩:=hT.kind e;cases d <;> simp[UK.fits] at h2;simp only[aad] at h;subst h;cases a <;> exact ⟨by rfl,by simp only[binOp];rw[Sem.run_bind,n0 (fun d=>by simp[Op.equalIn,run_underlying h1];try rfl)];rfl⟩
 ·rename_i e;obtain ⟨d,h1,h2⟩:=hT.kind e;cases d <;> simp[UK.fits] at h2;simp only[aad] at h;subst h;rename_i a _ _;cases a <;> exact ⟨by rfl,by simp only[binOp];rw[Sem.run_bind,n0 (fun d=>by simp[Op.equalIn,run_underlying h1];try rfl)];rfl⟩
 ·rename_i e;obtain ⟨d,h1,h2⟩:=hT.kind e;cases d <;> simp[UK.fits] at h2;simp only[aad] at h;subst h;rename_i a _ _;cases a <;> exact ⟨by rfl,by simp only[binOp];rw[Sem.run_bind,n0 (fun d=>by simp[Op.equalIn,run_underlying h1];try rfl)];rfl⟩
 ·rename_i e;obtain ⟨d,h1,h2⟩:=hT.kind e;cases d <;> simp[UK.fits] at h2;simp only[aad] at h;subst h;exact ⟨by rfl,by simp only[binOp];rw[Sem.run_bind,n0 (fun d=>by simp[Op.equalIn,run_underlying h1];try rfl)];rfl⟩
 ·rename_i e;obtain ⟨d,h1,h2⟩:=hT.kind e;cases d <;> simp[UK.fits] at h2;simp only[aad] at h;subst h;exact ⟨by rfl,by simp only[binOp];rw[Sem.run_bind,n0 (fun d=>by simp[Op.equalIn,run_underlying h1];try rfl)];rfl⟩
 simp at h
theorem Fc{l:Sl}{ρ:Operand->Value}(hρ:∀ x v,ev l x=some v->ρ x=v):∀ (ps:List Operand) (vs:List Value),ps.mapM (ev l)=some vs->ps.map ρ=vs
 | [],vs,h=>by simp at h;subst h;rfl
 | p::ps,vs,h=>by
  simp only[List.mapM_cons] at h;cases h1:ev l p with
  | none=>simp[h1] at h
  | some v=>
   cases h2:ps.mapM (ev l) with
   | none=>simp[h1,h2] at h
   | some r=>
    simp[h1,h2] at h;subst h;simp[hρ _ _ h1,Fc hρ ps r h2]
theorem wC{P:Program}{T:br}[hT:TabOK P T]{n:Nat}{l:Sl}{a:Act}{o:Oper}{v:Value}(h:jP T l o.op=some v)(ha:Ag n l a)(w:World):
  (execOp a.eval o).run P w=.ok (.value v) w:=by
 obtain ⟨dst,op,type,pos,after,guard⟩:=o;simp only at h;have hρ:∀ x v,ev l x=some v->a.eval x=v:=fun _ _ hx=>ha.ev hx;clear ha;generalize a.eval=ρ at *;unfold jP at h;unfold execOp
 split at h
 ·simp[hρ _ _ h,go_sem]
 ·simp[hρ _ _ h,go_sem]
 ·rename_i c x y;cases hc:ev l c with
  | none=>simp[hc] at h
  | some vc=>
   rw[hc] at h;cases vc <;> simp only[reduceCtorEq] at h;rename_i b;cases b with
   | true=>simp_all [asBool]
   | false=>simp_all [asBool]
 ·rename_i x
  split at h
  ·rename_i e;simp only[aad] at h;subst h;simp[hρ _ _ e,go_sem]
  ·rename_i e;simp only[aad] at h;subst h;simp[hρ _ _ e,go_sem]
  simp at h
 ·rename_i op ty x y ty'
  split at h
  ·rename_i u1 u2 e1 e2
   split at h
   ·simp_all [ID,Iq]
   obtain ⟨h2,h1⟩:=Id (hT:=hT) h x y w
   simp_all
  simp at h
 ·split at h
  all_goals simp_all [Jr]
 ·split at h
  all_goals simp_all [Instr.extract]
 ·rename_i s d x
  split at h
  ·rename_i k1 kk n k e1 e2 e3;simp only[aad] at h;subst h;obtain ⟨d1,g1,_⟩:=hT.kind e1;simp[hρ _ _ e2,convert,run_underlying g1,run_underlying (hT.int e3),Conv.intToInt,go_sem]
  simp at h
 ·rename_i s x f
  split at h
  ·rename_i e
   split at h
   ·rename_i e1 e2;simp only[aad] at h;subst h;have h3:=hT.fld e1 e2 (by assumption) w;simp[hρ _ _ e,h3]
   simp at h
  simp at h
 ·rename_i args argTypes
  split at h
  ·rename_i x t e1 e2
   split at h
   ·rename_i u e3;have a1:args=#[x]:=by cases args;simp_all
    have a2:argTypes=#[t]:=by cases argTypes;simp_all
    simp_all [IC,resolve,invoke,builtin]
   simp at h
  simp at h
 ·rename_i args argTypes
  split at h
  ·rename_i x y e1
   split at h
   all_goals simp_all [resolve,invoke,builtin,Builtin.max_,Builtin.max2]
  simp at h
 ·rename_i args argTypes
  split at h
  ·rename_i x y e1
   split at h
   all_goals simp_all [resolve,invoke,builtin,Builtin.min_,Builtin.min2]
  ·rename_i x y z e1
   split at h
   all_goals simp_all [resolve,invoke,builtin,Builtin.min_,Builtin.min2]
  ·rename_i x y z u e1
   split at h
   all_goals simp_all [resolve,invoke,builtin,Builtin.min_,Builtin.min2]
  simp at h
 ·rename_i fn first captured
  split at h
  ·rename_i vs e1 e2;have a1:first=#[]:=by cases first;simp_all
   subst a1;have h6:=Fc hρ _ _ e2
   have h7:captured.map ρ=vs.toArray:=by
    apply Array.ext'
    simpa using h6
   simp_all [Instr.makeFunc]
  simp at h
 simp at h
abbrev sg(b:Nat)(o:Obj):PH:=fun x=>if x=b then some o else none
abbrev pt(b:Nat)(c:Array Value)(ty:Nat)(fr:Nat×Nat:=(0,0)):PH:=sg b (.cells c ty fr)
def em:PH:=fun _=>none
def bR(h:PH)(a:Addr)(v:Value):Prop:=a.spot=none/\∃ c ty fr,h a.block=some (.cells c ty fr)/\c[a.off]?=some v
def In(K:PH)(hs:List PH)(h:PH):Prop:=h=K\/∃ i:Nat,hs[i]?=some h
section mem
variable {w0 w w':World} {K:PH} {hs:List PH}
def aY.block(s:aY w0 w K hs){h:PH}(hi:In K hs h){b:Nat}{o:Obj}(hb:h b=some o):w.heap[b]?=some o:=by
 rcases hi with rfl|⟨i,hi⟩
 ·exact s.imm b o hb
 exact s.own i h hi b o hb
theorem aY.cell(s:aY w0 w K hs){h:PH}(hi:In K hs h){a:Addr}{v:Value}(hc:bR h a v):w.cell? a=some v:=by
 obtain ⟨hsp,c,ty,fr,hb,hv⟩:=hc;have:=s.block hi hb;simp[World.cell?,this,hsp,hv]
def mF{w:World}{b:Nat}{o:Obj}(h:w.heap[b]?=some o):b<w.heap.size:=(acf.1 h).1
theorem aY.alloc(s:aY w0 w K hs)(o:Obj):aY w0 (w.alloc o) K (sg w.heap.size o::hs):=by
 have old:∀ b,b<w.heap.size->(w.alloc o).heap[b]?=w.heap[b]?:=fun b hb=>RowKit.Below.heap_alloc w o b hb;refine ⟨s.os,s.tape,s.output,?_,?_,?_,?_,?_⟩
 ·have:=s.size;simp;omega
 ·intro b o' h;have:=s.imm b o' h;rw[old b (mF this)];exact this
 ·intro i h hi b o' hb;cases i with
  | zero=>
   simp only[abt,aad] at hi;subst hi;simp only[sg] at hb
   grind [heap_alloc_new]
  | succ i=>
   have:=s.own i h (by simpa using hi) b o' hb;rw[old b (mF this)];exact this
 ·intro i h hi b o' hb;cases i with
  | zero=>
   simp only[abt,aad] at hi;subst hi;simp only[sg] at hb
   split at hb
   ·rename_i e;subst e;cases hk:K w.heap.size with
    | none=>rfl
    | some x=>have:=mF (s.imm _ _ hk);omega
   cases hb
  | succ i=>exact s.apart i h (by simpa using hi) b o' hb
 intro i j h h' hi hj hij b o' hb;cases i with
 | zero=>
  simp only[abt,aad] at hi;subst hi;simp only[sg] at hb
  split at hb
  ·rename_i e;subst e;cases j with
   | zero=>omega
   | succ j=>
    cases hk:h' w.heap.size with
    | none=>rfl
    | some x=>have:=mF (s.own j h' (by simpa using hj) _ _ hk);omega
  cases hb
 | succ i=>
  cases j with
  | zero=>
   simp only[abt,aad] at hj;subst hj;have:=mF (s.own i h (by simpa using hi) b o' hb)
   grind
  | succ j=>exact s.sep i j h h' (by simpa using hi) (by simpa using hj) qo b o' hb
def aY.upd(s:aY w0 w K hs){i:Nat}{h h':PH}(hi:hs[i]?=some h)(hos:w'.os=w.os)(htp:w'.tape=w.tape)(hout:w'.output=w.output)(hsz:w.heap.size<=w'.heap.size)
  (hin:∀ b o,h' b=some o->w'.heap[b]?=some o) (hout':∀ b,b<w.heap.size->h b=none->w'.heap[b]?=w.heap[b]?) (hdom:∀ b o,h' b=some o->h b=none->w.heap.size<=b):
  aY w0 w' K (hs.set i h'):=by
 have hil:i<ba hs:=(aas.1 hi).1;refine ⟨hos.trans s.os,htp.trans s.tape,hout.trans s.output,aat s.size hsz,?_,?_,?_,?_⟩
 ·intro b o hb;have h1:=s.imm b o hb;rw[hout' b (mF h1) ?_]
  ·exact h1
  cases hh:h b with
  | none=>rfl
  | some x=>have:=s.apart i h hi b x hh;rw[this] at hb;cases hb
 ·intro j g hj b o hb
  by_cases hij:i=j
  ·simp_all
  rw[abV hij] at hj;have h1:=s.own j g hj b o hb;rw[hout' b (mF h1) (s.sep j i g h hj hi (Ne.symm hij) b o hb)];exact h1
 ·intro j g hj b o hb
  by_cases hij:i=j
  ·subst hij;rw[acg hil] at hj;cases hj;cases hh:h b with
   | some x=>exact s.apart i h hi b x hh
   | none=>
    have:=hdom b o hb hh;cases hk:K b with
    | none=>rfl
    | some x=>have:=mF (s.imm b x hk);omega
  rw[abV hij] at hj;exact s.apart j g hj b o hb
 intro j k g g' hj hk hjk b o hb
 by_cases hij:i=j
 ·subst hij;rw[acg hil] at hj;cases hj;rw[abV hjk] at hk;cases hh:h b with
  | some x=>exact s.sep i k h g' hi hk hjk b x hh
  | none=>
   have:=hdom b o hb hh;cases hg:g' b with
   | none=>rfl
   | some x=>have:=mF (s.own k g' hk b x hg);omega
 rw[abV hij] at hj
 by_cases hik:i=k
 ·subst hik;rw[acg hil] at hk;cases hk;cases hg:h' b with
  | none=>rfl
  | some x=>
   have h1:=mF (s.own j g hj b o hb);have h2:=s.sep j i g h hj hi (Ne.symm hij) b o hb;have:=hdom b x hg h2;omega
 rw[abV hik] at hk;exact s.sep j k g g' hj hk hjk b o hb
theorem aY.setRow(s:aY w0 w K hs){i b:Nat}{c:Array Value}{ty:Nat}{fr:Nat×Nat}(hi:hs[i]?=some (pt b c ty fr))(c':Array Value):
  aY w0 (w.setRow b c') K (hs.set i (pt b c' ty fr)):=by
 have hb:w.heap[b]?=some (.cells c ty fr):=s.own i _ hi b _ ST;refine s.upd hi I I I ST ?_ ?_ ?_
 ·intro x o hx;simp only[pt,sg] at hx
  grind [setRow_heap]
 ·intro x hx hn;simp only[pt,sg] at hn
  grind [setRow_other]
 simp
theorem aY.setCell(s:aY w0 w K hs){i b off:Nat}{c:Array Value}{ty:Nat}{fr:Nat×Nat}(hi:hs[i]?=some (pt b c ty fr))(v:Value):
  aY w0 (w.setCell ⟨b,off,none⟩ v) K (hs.set i (pt b (c.setIfInBounds off v) ty fr)):=by
 have hb:w.heap[b]?=some (.cells c ty fr):=s.own i _ hi b _ ST;rw[setCell_eq_setRow w b off c ty fr v hb];exact s.setRow hi _
def aY.addEm(s:aY w0 w K hs):aY w0 w K (em::hs):=by
 refine ⟨s.os,s.tape,s.output,s.size,s.imm,?_,?_,?_⟩
 ·intro i h hi b o hb;cases i with
  | zero=>simp only[abt,aad] at hi;subst hi;simp[em] at hb
  | succ i=>exact s.own i h (by simpa using hi) b o hb
 ·intro i h hi b o hb;cases i with
  | zero=>simp only[abt,aad] at hi;subst hi;simp[em] at hb
  | succ i=>exact s.apart i h (by simpa using hi) b o hb
 intro i j h h' hi hj hij b o hb;cases i with
 | zero=>simp only[abt,aad] at hi;subst hi;simp[em] at hb
 | succ i=>
  cases j with
  | zero=>simp only[abt,aad] at hj;subst hj;rfl
  | succ j=>exact s.sep i j h h' (by simpa using hi) (by simpa using hj) qo b o hb
theorem bR.pt{b off:Nat}{c:Array Value}{ty:Nat}{fr:Nat×Nat}{v:Value}(h:c[off]?=some v):bR (pt b c ty fr) ⟨b,off,none⟩ v:=
 ⟨rfl,c,ty,fr,ST,h⟩
end mem
def jT(T:br)(ops:Array Oper)(n:Nat):Nat->List Oper->Sl->Option (List Oper×Sl)
 | 0,r,l=>some (r,l)
 | _+1,[],_=>none
 | k+1,o::r,l=>match o.dst with
  | none=>none
  | some d=>match Nat.blt d n,ib ops l o.guard with
   | true,some true=>match jP T l o.op with
    | some v=>jT T ops n k r ((d,v)::l)
    | none=>none
   | true,some false=>jT T ops n k r ((d,undef)::l)
   | _,_=>none
section rules
variable {P:Program} {T:br} {w0:World} {ops:Array Oper} {Q:Exit->Act->World->Prop} {rest rest':List Oper} {n:Nat} {l l':Sl} {K:PH} {hs:List PH}
def WL.val{o:Oper}{d:Nat}{R:Value->PH->List PH->Prop}(hd:o.dst=some d)(hb:Nat.blt d n=true)(hg:ib ops l o.guard=some true)
  (h:∀ a w,Ag n l a->aY w0 w K hs->∃ v w' K' hs',(execOp a.eval o).run P w=.ok (.value v) w'/\aY w0 w' K' hs'/\R v K' hs')
  (hk:∀ v K' hs',R v K' hs'->WL P w0 ops Q rest n ((d,v)::l) K' hs'):WL P w0 ops Q (o::rest) n l K hs:=by
 intro a w ha hw;obtain ⟨v,w',K',hs',hrun,hw',hR⟩:=h a w ha hw;have h1:=jl ha hg;unfold wpList;rw[aab h1];refine .inl ?_;unfold Oper.wp;rw[hrun];simp only[Oper.upon,hd];exact hk v K' hs' hR _ _ (ha.put hb) hw'
def WL.skp{o:Oper}{K':PH}{hs':List PH}(hd:o.dst=none)(hg:ib ops l o.guard=some true)
  (h:∀ a w,Ag n l a->aY w0 w K hs->∃ w',(execOp a.eval o).run P w=.ok .skip w'/\aY w0 w' K' hs')
  (hk:WL P w0 ops Q rest n l K' hs'):WL P w0 ops Q (o::rest) n l K hs:=by
 intro a w ha hw;obtain ⟨w',hrun,hw'⟩:=h a w ha hw;have h1:=jl ha hg;unfold wpList;rw[aab h1];refine .inl ?_;unfold Oper.wp;rw[hrun];simp only[Oper.upon,hd,Act.put];exact hk _ _ ha hw'
def WL.unwanted{o:Oper}{d:Nat}(hd:o.dst=some d)(hb:Nat.blt d n=true)(hg:ib ops l o.guard=some false)
  (hk:WL P w0 ops Q rest n ((d,undef)::l) K hs):WL P w0 ops Q (o::rest) n l K hs:=by
 intro a w ha hw;have h1:=jl ha hg;unfold wpList;rw[aaa (by simp[h1]),hd];exact hk _ _ (ha.put hb) hw
theorem WL.pure1[hT:TabOK P T]{o:Oper}{d:Nat}{v:Value}(hd:o.dst=some d)(hb:Nat.blt d n=true)(hg:ib ops l o.guard=some true)(hv:jP T l o.op=some v)
  (hk:WL P w0 ops Q rest n ((d,v)::l) K hs):WL P w0 ops Q (o::rest) n l K hs:=
 WL.val (R:=fun u K' hs'=>u=v/\K'=K/\hs'=hs) hd hb hg (fun a w ha hw=>⟨v,w,K,hs,wC hv ha w,hw,rfl,rfl,rfl⟩)
  (fun u K' hs' ⟨h1,h2,h3⟩=>by subst h1;subst h2;subst h3;exact hk)
theorem WL.pures[hT:TabOK P T]:∀ (k:Nat) {rest:List Oper} {l:Sl},jT T ops n k rest l=some (rest',l')->WL P w0 ops Q rest' n l' K hs->WL P w0 ops Q rest n l K hs
 | 0,rest,l,h,hk=>by simp only[jT,aad,aai] at h;obtain ⟨rfl,rfl⟩:=h;exact hk
 | k+1,[],l,h,hk=>by simp[jT] at h
 | k+1,o::r,l,h,hk=>by
  simp only[jT] at h;cases hd:o.dst with
  | none=>simp[hd] at h
  | some d=>
   simp only[hd] at h;cases hb:Nat.blt d n with
   | false=>simp[hb] at h
   | true=>
    cases hg:ib ops l o.guard with
    | none=>simp[hb,hg] at h
    | some g=>
     cases g with
     | true=>
      simp only[hb,hg] at h;cases hv:jP T l o.op with
      | none=>simp[hv] at h
      | some v=>
       simp only[hv] at h;exact WL.pure1 hd hb hg hv (WL.pures k h hk)
     | false=>
      simp only[hb,hg] at h;exact WL.unwanted hd hb hg (WL.pures k h hk)
def fc(T:br)(ops:Array Oper)(n k:Nat)(rest:List Oper)(l:Sl):Option (Oper×List Oper×Sl):=
 match jT T ops n k rest l with
 | some (o::r,l')=>match ib ops l' o.guard with
  | some true=>some (o,r,l')
  | _=>none
 | _=>none
theorem WL.at'[hT:TabOK P T]{k:Nat}{o:Oper}(h:fc T ops n k rest l=some (o,rest',l'))(hk:ib ops l' o.guard=some true->WL P w0 ops Q (o::rest') n l' K hs):WL P w0 ops Q rest n l K hs:=by
 unfold fc at h
 split at h
 ·rename_i o' r' l2 hp
  split at h
  ·rename_i hg;simp only[aad,aai] at h;obtain ⟨rfl,rfl,rfl⟩:=h;exact WL.pures k hp (hk hg)
  simp at h
 simp at h
def pG(T:br)(ops:Array Oper)(n k:Nat)(rest:List Oper)(l:Sl):Option (Nat×Value×List Oper×Sl):=
 match fc T ops n k rest l with
 | some (o,r,l')=>match o.dst with
  | some d=>match Nat.blt d n,jP T l' o.op with
   | true,some v=>some (d,v,r,l')
   | _,_=>none
  | none=>none
 | none=>none
def IT{k d:Nat}{v:Value}(h:pG T ops n k rest l=some (d,v,rest',l')):∃ o,fc T ops n k rest l=some (o,rest',l')/\o.dst=some d/\Nat.blt d n=true/\jP T l' o.op=some v:=by
 unfold pG at h
 grind
theorem ar[hT:TabOK P T](k:Nat){d:Nat}{v v':Value}(h:pG T ops n k rest l=some (d,v,rest',l'))(he:v=v')(hk:WL P w0 ops Q rest' n ((d,v')::l') K hs):
  WL P w0 ops Q rest n l K hs:=by
 obtain ⟨o,ho,hd,hb,hv⟩:=IT h;subst he;exact WL.at' ho fun hg=>WL.pure1 hd hb hg hv hk
def Hy:BinOp->Int->Int->Option Prop
 | .lss,a,b=>some (a<b)
 | .leq,a,b=>some (a<=b)
 | .gtr,a,b=>some (b<a)
 | .geq,a,b=>some (b<=a)
 | .eql,a,b=>some (a=b)
 | .neq,a,b=>some (¬a=b)
 | _,_,_=>none
def yY(T:br)(ops:Array Oper)(n k:Nat)(rest:List Oper)(l:Sl):Option (Nat×Prop×List Oper×Sl):=
 match fc T ops n k rest l with
 | some (o,r,l')=>match o.dst,o.op with
  | some d,.binOp op _ x y _=>match Nat.blt d n,ev l' x,ev l' y with
   | true,some (.int k a),some (.int k' b)=>match decide (k=k'),Hy op a b with
    | true,some p=>some (d,p,r,l')
    | _,_=>none
   | _,_,_=>none
  | _,_=>none
 | none=>none
def aX[hT:TabOK P T](k:Nat){d:Nat}{p:Prop}(h:yY T ops n k rest l=some (d,p,rest',l'))
  (hy:p->WL P w0 ops Q rest' n ((d,.bool true)::l') K hs) (hn:¬p->WL P w0 ops Q rest' n ((d,.bool false)::l') K hs):WL P w0 ops Q rest n l K hs:=by
 unfold yY at h
 split at h
 ·rename_i o r l2 ho
  split at h
  ·rename_i d' op ty x y ty' hd hop
   split at h
   ·rename_i k1 a k2 b hb hx hy'
    split at h
    ·rename_i p' hk hp;simp only[aad,aai] at h;obtain ⟨rfl,rfl,rfl,rfl⟩:=h;have hk':k1=k2:=of_decide_eq_true hk;subst hk'
     have key:∀ b',n8 op (.int k1 a) (.int k1 b)=some (.bool b')->(p'↔b'=true)->WL P w0 ops Q rest n l K hs:=fun b' hb' hiff=>by
      refine WL.at' ho fun hg=>WL.pure1 hd hb hg (v:=.bool b') (by rw[hop];simp only[jP,hx,hy',hb']) ?_;cases b' with
      | true=>exact hy (hiff.2 rfl)
      | false=>exact hn (fun hp'=>by have:=hiff.1 hp';cases this)
     cases op <;> simp only[Hy,aad,reduceCtorEq] at hp <;> subst hp
     all_goals grind [n8]
    simp at h
   simp at h
  simp at h
 simp at h
def cb[hT:TabOK P T](k:Nat){d:Nat}{b:Bool}(h:pG T ops n k rest l=some (d,.bool b,rest',l'))
  (hy:b=true->WL P w0 ops Q rest' n ((d,.bool true)::l') K hs) (hn:b=false->WL P w0 ops Q rest' n ((d,.bool false)::l') K hs):WL P w0 ops Q rest n l K hs:=by
 cases b with
 | true=>exact ar k h rfl (hy rfl)
 | false=>exact ar k h rfl (hn rfl)
def fin[hT:TabOK P T](k:Nat)(h:jT T ops n k rest l=some ([],l'))(hk:WQ w0 Q .normal n l' K hs):WL P w0 ops Q rest n l K hs:=
 WL.pures k h (nl hk)
end rules
def aH(h:PH)(ao:Option Addr)(n cap size:Nat)(xs:List Value):Prop:=
 ba xs=n*size/\n<=cap/\∀ (j:Nat) u,xs[j]?=some u->∃ a,ao=some a/\bR h (a.add j) u
def aZ(h:PH)(ao:Option Addr)(n cap e size:Nat)(xs:List Value):Prop:=
 ba xs=n*size/\n<=cap/\cap<=maxLen/\((ao=none/\cap=0/\h=em) \/
  ∃ g off cur,ao=some ⟨g,off,none⟩/\h=pt g cur e/\cur.size=off+cap*size/\(cur.toList.drop off).take (n*size)=xs)
def bz(g off k:Nat):(⟨g,off,none⟩:Addr).add k=⟨g,off+k,none⟩:=by simp[Addr.add]
def aZ.isS{h:PH}{ao:Option Addr}{n cap e size:Nat}{xs:List Value}(o:aZ h ao n cap e size xs):aH h ao n cap size xs:=by
 obtain ⟨h1,h2,_,h3⟩:=o;refine ⟨h1,h2,?_⟩;rcases h3 with ⟨rfl,rfl,rfl⟩|⟨g,off,cur,rfl,rfl,hs,ht⟩
 ·simp_all
 intro j u hu;refine ⟨_,I,?_⟩;rw[bz];refine bR.pt ?_
 grind
def aZ.nil(e size:Nat):aZ em none 0 0 e size []:=⟨ST,aac _,aag _,.inl ⟨rfl,rfl,rfl⟩⟩
def aH.nil(h:PH)(ao:Option Addr)(cap size:Nat):aH h ao 0 cap size []:=⟨ST,aag _,ST⟩
def aZ.ofPt{b:Nat}{c:Array Value}{e n size:Nat}(h1:c.size=n*size)(h2:n<=maxLen):aZ (pt b c e) (some ⟨b,0,none⟩) n n e size c.toList:=
 ⟨qo,aac _,h2,.inr ⟨b,0,c,rfl,rfl,qo,by rw[abl,<-h1,<-abW];exact aav⟩⟩
def aH.addr{h:PH}{ao:Option Addr}{n cap size:Nat}{xs:List Value}(x:aH h ao n cap size xs){j:Nat}(hj:j<n)(hs:0<size):∃ a,ao=some a:=by
 obtain ⟨h1,_,h3⟩:=x;have:0<ba xs:=by rw[h1];exact Nat.mul_pos qo hs
 obtain ⟨a,ha,_⟩:=h3 0 xs[0] ST;exact ⟨a,ha⟩
section rules
variable {P:Program} {T:br} {w0:World} {ops:Array Oper} {Q:Exit->Act->World->Prop} {rest rest':List Oper} {n:Nat} {l l':Sl} {K:PH} {hs:List PH}
def rR{w:World}[hT:TabOK P T]{t:Nat}{k:UK}(hk:asc T.kinds t=some k)(h1:k.one=true){a:Addr}{v:Value}(hc:w.cell? a=some v):
  (Instr.loadAt t (.pointer (some a))).run P w=.ok v w:=by
 obtain ⟨d,i,hd,hi,hs,hf⟩:=hT.one hk h1
 have hagg:(isAgg t).run P w=.ok false w:=by
  cases d <;> cases k <;> simp[UK.fits,UK.one] at hf h1 <;> simp[isAgg,run_underlying hd]
 simp_all [Instr.loadAt,Instr.sureAddr,loadVar]
def I5{w:World}[hT:TabOK P T]{t:Nat}{k:UK}(hk:asc T.kinds t=some k)(h1:k.one=true){a:Addr}{v u:Value}(hc:w.cell? a=some u)(hf:w.frozen? a=false)(hv:v.oneCell'=true):
  (Instr.storeAt t (.pointer (some a)) v).run P w=.ok () (w.setCell a v):=by
 obtain ⟨d,i,hd,hi,hs,_⟩:=hT.one hk h1;have hcells:v.cells=#[v]:=by cases v <;> simp[Value.oneCell',Value.cells] at hv ⊢
 simp_all [run_store,Addr.add,Instr.storeAt,Instr.sureAddr,storeVar,sizeOf,typeInfo,storeCells]
def vz(T:br)(ops:Array Oper)(n k:Nat)(rest:List Oper)(l:Sl):Option (Nat×Addr×List Oper×Sl):=
 match fc T ops n k rest l with
 | some (o,r,l')=>match o.dst,o.op with
  | some d,.load t x=>match Nat.blt d n,asc T.kinds t,ev l' x with
   | true,some kd,some (.pointer (some a))=>cond kd.one (some (d,a,r,l')) none
   | _,_,_=>none
  | _,_=>none
 | none=>none
def ld[hT:TabOK P T](k:Nat){d:Nat}{a:Addr}{v:Value}{h:PH}(h0:vz T ops n k rest l=some (d,a,rest',l'))(hm:In K hs h)(hc:bR h a v)
  (hk:WL P w0 ops Q rest' n ((d,v)::l') K hs):WL P w0 ops Q rest n l K hs:=by
 unfold vz at h0
 split at h0
 ·rename_i o r l2 ho
  split at h0
  ·rename_i d' t x hd hop
   split at h0
   ·rename_i kd a' hb hkd hx;cases h1:kd.one with
    | false=>simp[h1] at h0
    | true=>
     simp only[h1,cond_true,aad,aai] at h0;obtain ⟨rfl,rfl,rfl,rfl⟩:=h0;refine WL.at' ho fun hg=>WL.val (R:=fun u K' hs'=>u=v/\K'=K/\hs'=hs) hd hb hg (fun A w ha hw=>⟨v,w,K,hs,?_,hw,I,I,I⟩) ?_
     ·have h2:=rR (P:=P) hkd h1 (hw.cell hm hc);simp only[execOp,hop,ha.ev hx];simp[h2]
     rintro u K' hs' ⟨rfl,rfl,rfl⟩;exact hk
   simp at h0
  simp at h0
 simp at h0
def bE[hT:TabOK P T](k i:Nat){d b off ty:Nat}{v:Value}{c:Array Value}{fr:Nat×Nat}(h0:vz T ops n k rest l=some (d,⟨b,off,none⟩,rest',l'))(hi:hs[i]?=some (pt b c ty fr))(hv:c[off]?=some v)
  (hk:WL P w0 ops Q rest' n ((d,v)::l') K hs):WL P w0 ops Q rest n l K hs:=
 ld k h0 (.inr ⟨i,hi⟩) (bR.pt hv) hk
def zh(T:br)(ops:Array Oper)(n k:Nat)(rest:List Oper)(l:Sl):Option (Addr×Value×List Oper×Sl):=
 match fc T ops n k rest l with
 | some (o,r,l')=>match o.dst,o.op with
  | none,.store t x y=>match asc T.kinds t,ev l' x,ev l' y with
   | some kd,some (.pointer (some a)),some v=>cond kd.one (some (a,v,r,l')) none
   | _,_,_=>none
  | _,_=>none
 | none=>none
def stp[hT:TabOK P T](k i:Nat){b off ty:Nat}{v u:Value}{c:Array Value}(h0:zh T ops n k rest l=some (⟨b,off,none⟩,v,rest',l'))(hi:hs[i]?=some (pt b c ty))(hu:c[off]?=some u)(hv:v.oneCell'=true)
  (hk:WL P w0 ops Q rest' n l' K (hs.set i (pt b (c.setIfInBounds off v) ty))):WL P w0 ops Q rest n l K hs:=by
 unfold zh at h0
 split at h0
 ·rename_i o r l2 ho
  split at h0
  ·rename_i t x y hd hop
   split at h0
   ·rename_i kd a' v' hkd hx hy;cases h1:kd.one with
    | false=>simp[h1] at h0
    | true=>
     simp only[h1,cond_true,aad,aai] at h0;obtain ⟨rfl,rfl,rfl,rfl⟩:=h0;refine WL.at' ho fun hg=>WL.skp hd hg (fun A w ha hw=>⟨_,?_,hw.setCell hi (off:=off) v'⟩) hk;have hb:w.heap[b]?=some (.cells c ty (0,0)):=hw.own i _ hi b _ ST;have hc:w.cell? ⟨b,off,none⟩=some u:=hw.cell (.inr ⟨i,hi⟩) (bR.pt hu);have hf:w.frozen? ⟨b,off,none⟩=false:=by simp[World.frozen?,hb]
     have h2:=I5 (P:=P) hkd h1 hc hf hv;simp only[execOp,hop,ha.ev hx,ha.ev hy];simp[h2]
   simp at h0
  simp at h0
 simp at h0
def HB(T:br)(ops:Array Oper)(n k:Nat)(rest:List Oper)(l:Sl):Option (Nat×Nat×Value×List Oper×Sl):=
 match fc T ops n k rest l with
 | some (o,r,l')=>match o.dst,o.op with
  | some d,.box e x=>match Nat.blt d n,ev l' x with
   | true,some v=>some (d,e,v,r,l')
   | _,_=>none
  | _,_=>none
 | none=>none
def bx[hT:TabOK P T](k:Nat){d e:Nat}{v:Value}(h0:HB T ops n k rest l=some (d,e,v,rest',l'))
  (hk:∀ b,WL P w0 ops Q rest' n ((d,SX b)::l') K (pt b v.cells e::hs)):WL P w0 ops Q rest n l K hs:=by
 unfold HB at h0
 split at h0
 ·rename_i o r l2 ho
  split at h0
  ·rename_i d' e' x hd hop
   split at h0
   ·rename_i v' hb hx;simp only[aad,aai] at h0;obtain ⟨rfl,rfl,rfl,rfl,rfl⟩:=h0
    refine WL.at' ho fun hg=>WL.val (R:=fun u K' hs'=>∃ b,u=SX b/\K'=K/\hs'=pt b v'.cells e'::hs) hd hb hg
     (fun A w ha hw=>⟨.pointer (some ⟨w.heap.size,0,none⟩),_,K,_,?_,hw.alloc _,w.heap.size,rfl,rfl,rfl⟩) ?_
    ·simp only[execOp,hop,ha.ev hx]
     rfl
    rintro u K' hs' ⟨b,rfl,rfl,rfl⟩;exact hk b
   simp at h0
  simp at h0
 simp at h0
def HH(T:br)(ops:Array Oper)(n k:Nat)(rest:List Oper)(l:Sl):Option (Nat×Nat×List Oper×Sl):=
 match fc T ops n k rest l with
 | some (o,r,l')=>match o.dst,o.op with
  | some d,.alloc e=>match Nat.blt d n with
   | true=>some (d,e,r,l')
   | _=>none
  | _,_=>none
 | none=>none
def al[hT:TabOK P T](k:Nat){d e:Nat}(z:Value)(h0:HH T ops n k rest l=some (d,e,rest',l'))(hz:(P.info? e).bind (·.zero)=some z)
  (hk:∀ b,WL P w0 ops Q rest' n ((d,SX b)::l') K (pt b z.cells e::hs)):WL P w0 ops Q rest n l K hs:=by
 unfold HH at h0
 split at h0
 ·rename_i o r l2 ho
  split at h0
  ·rename_i d' e' hd hop
   split at h0
   ·rename_i hb;simp only[aad,aai] at h0;obtain ⟨rfl,rfl,rfl,rfl⟩:=h0
    refine WL.at' ho fun hg=>WL.val (R:=fun u K' hs'=>∃ b,u=SX b/\K'=K/\hs'=pt b z.cells e'::hs) hd hb hg
     (fun A w ha hw=>⟨.pointer (some ⟨w.heap.size,0,none⟩),_,K,_,?_,hw.alloc _,w.heap.size,rfl,rfl,rfl⟩) ?_
    ·obtain ⟨i,hi,hz'⟩:=ach.1 hz
     simp_all [execOp,Instr.alloc,newVar,newRow,zeroValue,typeInfo]
    rintro u K' hs' ⟨b,rfl,rfl,rfl⟩;exact hk b
   simp at h0
  simp at h0
 simp at h0
def HC(T:br)(ops:Array Oper)(n k:Nat)(rest:List Oper)(l:Sl):Option (Nat×eU×Nat×List (Nat×Value)×List Oper×Sl):=
 match fc T ops n k rest l with
 | some (o,r,l')=>match o.dst,o.op with
  | some d,.buildSlice t len parts=>match Nat.blt d n,asc T.sls t,parts.toList.mapM (fun x=>(ev l' x.2).map (fun v=>(x.1,v))) with
   | true,some si,some vs=>some (d,si,len,vs,r,l')
   | _,_,_=>none
  | _,_=>none
 | none=>none
theorem uu{a:Act}{nn:Nat}{l:Sl}(ha:Ag nn l a):∀ (ps:List (Nat×Operand)) (vs:List (Nat×Value)),ps.mapM (fun x=>(ev l x.2).map (fun v=>(x.1,v)))=some vs->ps.map (fun x=>(x.1,a.eval x.2))=vs
 | [],vs,h=>by simp at h;subst h;rfl
 | p::ps,vs,h=>by
  simp only[List.mapM_cons] at h;cases h1:ev l p.2 with
  | none=>simp[h1] at h
  | some v=>
   cases h2:ps.mapM (fun x=>(ev l x.2).map (fun v=>(x.1,v))) with
   | none=>simp[h1,h2] at h
   | some r=>
    simp[h1,h2] at h;subst h;simp[ha.ev h1,uu ha ps r h2]
def lit[hT:TabOK P T](k:Nat){d len:Nat}{si:eU}{vs:List (Nat×Value)}(cells:Array Value)(h0:HC T ops n k rest l=some (d,si,len,vs,rest',l'))(hlen:len*si.size<=16777216)
  (hf:Instr.fill (fun i=>some (i*si.size,si.size)) ((Array.range (len*si.size)).map (fun i=>(if len*si.size=0 then (#[]:Array Value) else si.zero.cells)[i % (if len*si.size=0 then (#[]:Array Value) else si.zero.cells).size]!)) vs=some cells)
  (hk:∀ b,WL P w0 ops Q rest' n ((d,.slice (some ⟨b,0,none⟩) len len)::l') K (pt b cells si.elem::hs)):WL P w0 ops Q rest n l K hs:=by
 unfold HC at h0
 split at h0
 ·rename_i o r l2 ho
  split at h0
  ·rename_i d' t len' parts hd hop
   split at h0
   ·rename_i si' vs' hb hsi hvs;simp only[aad,aai] at h0;obtain ⟨rfl,rfl,rfl,rfl,rfl,rfl⟩:=h0
    refine WL.at' ho fun hg=>WL.val (R:=fun u K' hs'=>∃ b,u=.slice (some ⟨b,0,none⟩) len' len'/\K'=K/\hs'=pt b cells si'.elem::hs) hd hb hg
     (fun A w ha hw=>⟨.slice (some ⟨w.heap.size,0,none⟩) len' len',_,K,_,?_,hw.alloc _,w.heap.size,rfl,rfl,rfl⟩) ?_
    ·obtain ⟨h1,i,h2,h3,h4,h5⟩:=hT.sl hsi;have h6:=uu ha _ _ hvs;have h7:(parts.map fun (i,x)=>(i,A.eval x)).toList=vs':=by simpa using h6
     simp only[execOp,hop];have h8:¬(16777216<len'*si'.size):=qo
     by_cases hz:len'*si'.size=0
     ·rw[aab hz] at hf;simp[Instr.buildSlice,run_underlying h1,sizeOf,typeInfo,h2,h4,hz,newRow,zeroValue,h3]
      simp_all
     simp only[aaa hz] at hf;simp[Instr.buildSlice,run_underlying h1,sizeOf,typeInfo,h2,h4,h8,hz,newRow,zeroValue,h3];rw[h6];simp[hf]
    rintro u K' hs' ⟨b,rfl,rfl,rfl⟩;exact hk b
   simp at h0
  simp at h0
 simp at h0
end rules
def vX{P:Program}{w0 w:World}{K:PH}{hs:List PH}(s:aY w0 w K hs){h:PH}(hm:In K hs h){ao:Option Addr}{n cap size:Nat}{xs:List Value}(x:aH h ao n cap size xs):
  (Builtin.firstCells size n (.slice ao n cap)).run P w=.ok xs.toArray w:=by
 obtain ⟨h1,h2,h3⟩:=x;cases ao with
 | none=>
  have:xs=[]:=by
   cases xs with
   | nil=>rfl
   | cons u r=>obtain ⟨a,ha,_⟩:=h3 0 u ST;cases ha
  subst this
  rfl
 | some a=>
  refine run_firstCells_some (P:=P) w size n a n cap xs h1 fun j u hu=>?_;obtain ⟨a',ha,hc⟩:=h3 j u hu;cases ha;exact s.cell hm hc
def Ih{P:Program}{w0 w:World}{K:PH}{hs:List PH}(t ty e:TypeId)(i:TypeInfo)(z:Value)(ht:P.underlying t=some (.slice e))(hi:P.info? e=some i)(hz:i.zero=some z)
  (hzs:z.cells.size=i.size) (s:aY w0 w K hs) {j:Nat} {h h2:PH} (hj:hs[j]?=some h) {ao ao2:Option Addr} {n cap m c2:Nat} {xs news:List Value} (o:aZ h ao n cap e i.size xs)
  (hm:In K hs h2) (x:aH h2 ao2 m c2 i.size news) (hsz:0<i.size) (h1:∀ u∈news,u.oneCell'=true) (hb:(n+m)*i.bytes<=140737488355328) (h63:n+m<=maxLen):
  ∃ ao' cap' h' w',(Builtin.append_ #[t,t] ty #[.slice ao n cap,.slice ao2 m c2]).run P w=.ok (.slice ao' (n+m) cap') w'/\aZ h' ao' (n+m) cap' e i.size (xs++news)/\aY w0 w' K (hs.set j h'):=by
 have hf:=vX (P:=P) s hm x;have hlen:ba (xs++news)=(n+m)*i.size:=by rw[aaf,o.1,x.1,Nat.add_mul]
 have hos:=o.isS;obtain ⟨o1,o2,o3,o4⟩:=o
 by_cases hroom:n+m<=cap
 ·rcases o4 with ⟨rfl,rfl,rfl⟩|⟨g,off,cur,rfl,rfl,hcs,htk⟩
  ·obtain rfl:n=0:=qo
   obtain rfl:m=0:=qo
   obtain rfl:xs=[]:=aaX qo;obtain rfl:news=[]:=aaX (by simpa using x.1);refine ⟨none,0,em,w,?_,aZ.nil e i.size,?_⟩
   ·simp[Builtin.append_,run_underlying ht,sizeOf,typeInfo,hi,Builtin.lenOf,hf]
   grind [List.set_getElem_self]
  have hg:w.heap[g]?=some (.cells cur e (0,0)):=s.own j _ hj g _ ST
  have hfit:off+n*i.size+ba news<=cur.size:=by
   rw[x.1,hcs,Nat.add_assoc,<-Nat.add_mul]
   simp_all [aaY]
  have hst:=run_storeCells_at P g (off+n*i.size) e news 0 cur w hg qo h1;simp only[aa7] at hst;refine ⟨some ⟨g,off,none⟩,cap,_,_,?_,⟨hlen,hroom,o3,.inr ⟨g,off,(cur.toList.take (off+n*i.size)++news++cur.toList.drop (off+n*i.size+ba news)).toArray,I,I,?_,?_⟩⟩,s.setRow hj _⟩
  ·simp[Builtin.append_,run_underlying ht,sizeOf,typeInfo,hi,Builtin.lenOf,hroom,hf,bz,hst]
  all_goals grind
 have hm0:0<m:=qo
 obtain ⟨a2,rfl⟩:=x.addr hm0 hsz
 have hnews:∀ (j:Nat) v,news[j]?=some v->w.cell? (a2.add j)=some v:=fun j v hv=>by
  obtain ⟨a',ha,hc⟩:=x.2.2 j v hv;cases ha;exact s.cell hm hc
 have grown:∀ old,old<n+m->aZ (pt w.heap.size (xs.toArray++news.toArray++Builtin.zeroCells z.cells (grownCap w (n+m) old e-(n+m))) e) (some ⟨w.heap.size,0,none⟩) (n+m) (grownCap w (n+m) old e) e i.size (xs++news) /\
   aY w0 (w.drew.alloc (.cells (xs.toArray++news.toArray++Builtin.zeroCells z.cells (grownCap w (n+m) old e-(n+m))) e)) K (hs.set j (pt w.heap.size (xs.toArray++news.toArray++Builtin.zeroCells z.cells (grownCap w (n+m) old e-(n+m))) e)):=by
  intro old ho;have hge:=grownCap_ge w (n+m) old e;have hcm:grownCap w (n+m) old e<=maxLen:=grownCap_le_maxLen w (n+m) old e h63;refine ⟨⟨hlen,hge,hcm,.inr ⟨_,0,_,I,I,?_,?_⟩⟩,?_⟩
  ·simp only[acw,abL,size_zeroCells,hzs,o1,x.1,<-Nat.add_mul,aaD]
   congr 1
   omega
  ·grind
  refine s.upd hj I I I ST ?_ ?_ ?_
  ·intro b ob hb';simp only[pt,sg] at hb'
   split at hb'
   ·rename_i e1;subst e1;cases hb';exact heap_alloc_new w.drew _
   cases hb'
  ·intro b hb' _;exact RowKit.Below.heap_alloc w.drew _ b hb'
  simp
 rcases o4 with ⟨rfl,rfl,rfl⟩|⟨g,off,cur,rfl,rfl,hcs,htk⟩
 ·obtain rfl:n=0:=qo
  obtain rfl:xs=[]:=aaX qo;have hr:=run_append_nil (P:=P) w t ty e i z ht hi hz a2 m c2 news x.1 hnews hm0 (by simp only[maxLen] at h63;omega) (by simp only[aaD] at hb;omega)
  grind
 have holds:∀ (k:Nat) u,xs[k]?=some u->w.cell? ((⟨g,off,none⟩:Addr).add k)=some u:=fun k u hu=>by
  obtain ⟨a',ha,hc⟩:=hos.2.2 k u hu;cases ha;exact s.cell (.inr ⟨j,hj⟩) hc
 grind [run_append_grow,growslice_fits,maxLen]
section rules
variable {P:Program} {T:br} {w0:World} {ops:Array Oper} {Q:Exit->Act->World->Prop} {rest rest':List Oper} {n:Nat} {l l':Sl} {K:PH} {hs:List PH}
def mq(T:br)(ops:Array Oper)(n k:Nat)(rest:List Oper)(l:Sl):Option (Nat×eU×(Option Addr×Nat×Nat)×(Option Addr×Nat×Nat)×List Oper×Sl):=
 match fc T ops n k rest l with
 | some (o,r,l')=>match o.dst,o.op with
  | some d,.call { callee:=.builtin .append,args,argTypes }=>match args.toList,argTypes.toList with
   | [x,y],[t,t']=>match Nat.blt d n,Nat.beq t t',asc T.sls t,ev l' x,ev l' y with
    | true,true,some si,some (.slice a1 n1 c1),some (.slice a2 n2 c2)=>some (d,si,(a1,n1,c1),(a2,n2,c2),r,l')
    | _,_,_,_,_=>none
   | _,_=>none
  | _,_=>none
 | none=>none
def app[hT:TabOK P T](k i:Nat){d:Nat}{si:eU}{ao ao2:Option Addr}{n1 c1 n2 c2:Nat}{h h2:PH}{xs news:List Value}(h0:mq T ops n k rest l=some (d,si,(ao,n1,c1),(ao2,n2,c2),rest',l'))
  (hi:hs[i]?=some h) (o:aZ h ao n1 c1 si.elem si.size xs) (hm:In K hs h2) (x:aH h2 ao2 n2 c2 si.size news) (hz:si.zero.cells.size=si.size) (hsz:0<si.size) (h1:∀ u∈news,u.oneCell'=true)
  (hb:(n1+n2)*si.bytes<=140737488355328) (h63:n1+n2<=maxLen)
  (hk:∀ ao' cap' h',aZ h' ao' (n1+n2) cap' si.elem si.size (xs++news)->WL P w0 ops Q rest' n ((d,.slice ao' (n1+n2) cap')::l') K (hs.set i h')):WL P w0 ops Q rest n l K hs:=by
 unfold mq at h0
 split at h0
 ·rename_i oo r l2 ho
  split at h0
  ·rename_i d' args argTypes hd hop
   split at h0
   ·rename_i x' y' t t' e1 e2
    split at h0
    ·rename_i si' a1 m1 k1 a2 m2 k2 hb' htt hsi hx hy;simp only[aad,aai] at h0;obtain ⟨rfl,rfl,⟨rfl,rfl,rfl⟩,⟨rfl,rfl,rfl⟩,rfl,rfl⟩:=h0;have htt':t=t':=aaM htt;subst htt';have a1':args=#[x',y']:=by cases args;simp_all
     have a2':argTypes=#[t,t]:=by cases argTypes;simp_all
     subst a1';subst a2';obtain ⟨g1,ii,g2,g3,g4,g5⟩:=hT.sl hsi
     refine WL.at' ho fun hg=>WL.val (R:=fun u K' hs'=>∃ ao' cap' h',u=.slice ao' (m1+m2) cap'/\aZ h' ao' (m1+m2) cap' si'.elem si'.size (xs++news)/\K'=K/\hs'=hs.set i h') hd hb' hg
      (fun A w ha hw=>?_) ?_
     ·rw[<-g4] at o x hz hsz;rw[<-g5] at hb;obtain ⟨ao',cap',h',w',hr,ho',hs'⟩:=Ih (P:=P) t oo.type si'.elem ii si'.zero g1 g2 g3 hz hw hi o hm x hsz h1 hb h63;refine ⟨_,w',K,_,?_,hs',ao',cap',h',I,by rw[<-g4];exact ho',I,I⟩;simp only[execOp,hop];simp[resolve,invoke,builtin,ha.ev hx,ha.ev hy,hr]
     rintro u K' hs' ⟨ao',cap',h',rfl,ho',rfl,rfl⟩;exact hk ao' cap' h' ho'
    simp at h0
   simp at h0
  simp at h0
 simp at h0
def zm(T:br)(ops:Array Oper)(n k:Nat)(rest:List Oper)(l:Sl):Option (Nat×eU×(Option Addr×Nat×Nat)×Int×List Oper×Sl):=
 match fc T ops n k rest l with
 | some (o,r,l')=>match o.dst,o.op with
  | some d,.indexAddr t x i=>match Nat.blt d n,asc T.sls t,ev l' x,ev l' i with
   | true,some si,some (.slice a1 n1 c1),some (.int _ j)=>some (d,si,(a1,n1,c1),j,r,l')
   | _,_,_,_=>none
  | _,_=>none
 | _=>none
def dz[hT:TabOK P T](k:Nat){d:Nat}{si:eU}{ao:Option Addr}{n1 c1:Nat}{i:Int}{h:PH}{xs:List Value}(j:Nat)
  (h0:zm T ops n k rest l=some (d,si,(ao,n1,c1),i,rest',l')) (hj:i=(j:Int)) (x:aH h ao n1 c1 si.size xs) (hjn:j<n1) (hsz:0<si.size)
  (hk:∀ a,ao=some a->WL P w0 ops Q rest' n ((d,.pointer (some (a.add (j*si.size))))::l') K hs):WL P w0 ops Q rest n l K hs:=by
 unfold zm at h0
 split at h0
 ·rename_i o r l2 ho
  split at h0
  ·rename_i d' t x' i' hd hop
   split at h0
   ·rename_i si' a1 m1 k1 kk jj hb hsi hx hi;simp only[aad,aai] at h0;obtain ⟨rfl,rfl,⟨rfl,rfl,rfl⟩,rfl,rfl,rfl⟩:=h0;subst hj;obtain ⟨g1,ii,g2,g3,g4,g5⟩:=hT.sl hsi;obtain ⟨a,rfl⟩:=x.addr hjn hsz;refine WL.at' ho fun hg=>WL.val (R:=fun u K' hs'=>u=.pointer (some (a.add (j*si'.size)))/\K'=K/\hs'=hs) hd hb hg (fun A w ha hw=>⟨_,w,K,hs,?_,hw,I,I,I⟩) ?_
    ·have h1:(j:Int)<(m1:Int):=qo
     simp only[execOp,hop,ha.ev hx,ha.ev hi];simp[Instr.indexAt,asIntOf,run_underlying g1,sizeOf,typeInfo,g2,g4,hjn]
    rintro u K' hs' ⟨rfl,rfl,rfl⟩;exact hk a I
   simp at h0
  simp at h0
 simp at h0
def fe[hT:TabOK P T](k:Nat){d:Nat}{si:eU}{ao:Option Addr}{n1 c1:Nat}{i:Int}{h:PH}{xs:List Value}{u:Value}(j:Nat)
  (h0:zm T ops n k rest l=some (d,si,(ao,n1,c1),i,rest',l')) (hj:i=(j:Int)) (hsz:si.size=1) (x:aH h ao n1 c1 1 xs) (hu:xs[j]?=some u)
  (hk:∀ a,bR h a u->WL P w0 ops Q rest' n ((d,.pointer (some a))::l') K hs):WL P w0 ops Q rest n l K hs:=by
 have hjn:j<n1:=by
  have h1:=(aas.1 hu).1;have h2:=x.1;omega
 refine dz k j h0 hj (h:=h) (xs:=xs) (by rw[hsz];exact x) hjn qo fun a ha=>?_;obtain ⟨a',ha',hc⟩:=x.2.2 j u hu;rw[ha] at ha';cases ha';rw[hsz,aah];exact hk _ hc
def qS(T:br)(ops:Array Oper)(n k:Nat)(rest:List Oper)(l:Sl):Option (Nat×eU×(Option Addr×Nat×Nat)×Option Int×Option Int×List Oper×Sl):=
 match fc T ops n k rest l with
 | some (o,r,l')=>match o.dst,o.op with
  | some d,.slice t x none none none=>match Nat.blt d n,asc T.sls t,ev l' x with
   | true,some si,some (.slice a1 n1 c1)=>some (d,si,(a1,n1,c1),none,none,r,l')
   | _,_,_=>none
  | some d,.slice t x (some lo) none none=>match Nat.blt d n,asc T.sls t,ev l' x,ev l' lo with
   | true,some si,some (.slice a1 n1 c1),some (.int _ i)=>some (d,si,(a1,n1,c1),some i,none,r,l')
   | _,_,_,_=>none
  | some d,.slice t x none (some hi) none=>match Nat.blt d n,asc T.sls t,ev l' x,ev l' hi with
   | true,some si,some (.slice a1 n1 c1),some (.int _ i)=>some (d,si,(a1,n1,c1),none,some i,r,l')
   | _,_,_,_=>none
  | some d,.slice t x (some lo) (some hi) none=>match Nat.blt d n,asc T.sls t,ev l' x,ev l' lo,ev l' hi with
   | true,some si,some (.slice a1 n1 c1),some (.int _ i),some (.int _ j)=>some (d,si,(a1,n1,c1),some i,some j,r,l')
   | _,_,_,_,_=>none
  | _,_=>none
 | _=>none
def ez(ao:Option Addr)(cap lo size:Nat):Option Addr:=if cap=lo then ao else ao.map (·.add (lo*size))
def ub{k d:Nat}{si:eU}{ao:Option Addr}{n1 c1:Nat}{lo hi:Option Int}[hT:TabOK P T](L H:Nat)
  (h0:qS T ops n k rest l=some (d,si,(ao,n1,c1),lo,hi,rest',l')) (hL:lo.getD 0=(L:Int)) (hH:hi.getD n1=(H:Int)) (h1:L<=H) (h2:H<=c1):
  ∃ o,fc T ops n k rest l=some (o,rest',l')/\o.dst=some d/\Nat.blt d n=true /\
   ∀ a w,Ag n l' a->(execOp a.eval o).run P w=.ok (.value (.slice (ez ao c1 L si.size) (H-L) (c1-L))) w:=by
 unfold qS at h0
 split at h0
 ·rename_i o r l2 ho;have hLH:(L:Int)<=(H:Int):=qo
  have hHc:(H:Int)<=(c1:Int):=qo
  split at h0
  ·rename_i d' t x hd hop
   split at h0
   ·rename_i si' a1 m1 k1 hb hsi hx;simp only[aad,aai] at h0;obtain ⟨rfl,rfl,⟨rfl,rfl,rfl⟩,rfl,rfl,rfl,rfl⟩:=h0;refine ⟨o,ho,hd,hb,fun a w ha=>?_⟩;obtain ⟨g1,ii,g2,g3,g4,g5⟩:=hT.sl hsi;simp only[abm] at hL hH;obtain rfl:L=0:=qo
    obtain rfl:m1=H:=qo
    simp only[execOp,hop,ha.ev hx];simp[Instr.sliceAt,Instr.slice,run_underlying g1,Instr.sliceBounds,sizeOf,typeInfo,g2,ez]
   simp at h0
  ·rename_i d' t x lo' hd hop
   split at h0
   ·rename_i si' a1 m1 k1 kk i hb hsi hx hi;simp only[aad,aai] at h0;obtain ⟨rfl,rfl,⟨rfl,rfl,rfl⟩,rfl,rfl,rfl,rfl⟩:=h0;refine ⟨o,ho,hd,hb,fun a w ha=>?_⟩;obtain ⟨g1,ii,g2,g3,g4,g5⟩:=hT.sl hsi;simp only[abm,aaZ] at hL hH;subst hL;obtain rfl:m1=H:=qo
    simp only[execOp,hop,ha.ev hx,aa2,ha.ev hi];simp[Instr.sliceAt,Instr.slice,run_underlying g1,Instr.sliceBounds,Instr.sliceBound,asIntOf,sizeOf,typeInfo,g2,g4,ez,h1]
   simp at h0
  ·rename_i d' t x hi' hd hop
   split at h0
   ·rename_i si' a1 m1 k1 kk i hb hsi hx hi;simp only[aad,aai] at h0;obtain ⟨rfl,rfl,⟨rfl,rfl,rfl⟩,rfl,rfl,rfl,rfl⟩:=h0;refine ⟨o,ho,hd,hb,fun a w ha=>?_⟩;obtain ⟨g1,ii,g2,g3,g4,g5⟩:=hT.sl hsi;simp only[abm,aaZ] at hL hH;obtain rfl:L=0:=qo
    subst hH;simp only[execOp,hop,ha.ev hx,aa2,ha.ev hi];simp[Instr.sliceAt,Instr.slice,run_underlying g1,Instr.sliceBounds,Instr.sliceBound,asIntOf,sizeOf,typeInfo,g2,ez,h2]
   simp at h0
  ·rename_i d' t x lo' hi' hd hop
   split at h0
   ·rename_i si' a1 m1 k1 kk i kk2 j hb hsi hx hi hj;simp only[aad,aai] at h0;obtain ⟨rfl,rfl,⟨rfl,rfl,rfl⟩,rfl,rfl,rfl,rfl⟩:=h0;refine ⟨o,ho,hd,hb,fun a w ha=>?_⟩;obtain ⟨g1,ii,g2,g3,g4,g5⟩:=hT.sl hsi;simp only[aaZ] at hL hH;subst hL;subst hH;simp only[execOp,hop,ha.ev hx,aa2,ha.ev hi,ha.ev hj];simp[Instr.sliceAt,Instr.slice,run_underlying g1,Instr.sliceBounds,Instr.sliceBound,asIntOf,sizeOf,typeInfo,g2,g4,ez,h1,h2]
   simp at h0
  simp at h0
 simp at h0
def aH.cut{h:PH}{ao:Option Addr}{n1 c1 size:Nat}{xs ys:List Value}(x:aH h ao n1 c1 size xs)(L N:Nat)(hN:L+N<=n1)(hy:(xs.drop (L*size)).take (N*size)=ys):
  aH h (ez ao c1 L size) N (c1-L) size ys:=by
 obtain ⟨h1,h2,h3⟩:=x;have hle:L*size+N*size<=ba xs:=by rw[h1,<-Nat.add_mul];exact aaY _ hN
 refine ⟨by rw[<-hy];simp;omega,qo,fun j u hu=>?_⟩;rw[<-hy] at hu
 have hj:j<N*size:=by
  grind
 rw[abn hj,abu] at hu;obtain ⟨a,ha,hc⟩:=h3 _ u hu;have hN0:N≠0:=fun e=>by rw[e] at hj;omega
 refine ⟨a.add (L*size),by rw[ez,aaa qo,ha];rfl,?_⟩
 grind [Addr.add]
def sl[hT:TabOK P T](k:Nat){d:Nat}{si:eU}{ao:Option Addr}{n1 c1:Nat}{lo hi:Option Int}{h:PH}{xs ys:List Value}(L N:Nat)
  (h0:qS T ops n k rest l=some (d,si,(ao,n1,c1),lo,hi,rest',l')) (x:aH h ao n1 c1 si.size xs) (hL:lo.getD 0=(L:Int)) (hH:hi.getD n1=((L+N:Nat):Int)) (hN:L+N<=n1)
  (hy:(xs.drop (L*si.size)).take (N*si.size)=ys)
  (hk:∀ ao' cap',aH h ao' N cap' si.size ys->WL P w0 ops Q rest' n ((d,.slice ao' N cap')::l') K hs):WL P w0 ops Q rest n l K hs:=by
 obtain ⟨o,ho,hd,hb,hrun⟩:=ub (P:=P) L (L+N) h0 hL hH qo (by have:=x.2.1;omega);refine WL.at' ho fun hg=>WL.val (R:=fun u K' hs'=>u=.slice (ez ao c1 L si.size) N (c1-L)/\K'=K/\hs'=hs) hd hb hg (fun A w ha hw=>⟨_,w,K,hs,hrun A w ha,hw,?_,I,I⟩) ?_
 ·simp
 rintro u K' hs' ⟨rfl,rfl,rfl⟩;exact hk _ _ (x.cut L N hN hy)
theorem WL.enter{o:Oper}{d g:Nat}{vs:List Value}{R:Value->PH->List PH->Prop}(hd:o.dst=some d)(hb:Nat.blt d n=true)(hg:ib ops l o.guard=some true)
  (h:∀ a w,Ag n l a->(execOp a.eval o).run P w=.ok (.enter g vs.toArray) w) (hc:Ct P w0 g vs K hs R)
  (hk:∀ v K' hs',R v K' hs'->WL P w0 ops Q rest n ((d,v)::l) K' hs'):WL P w0 ops Q (o::rest) n l K hs:=by
 intro a w ha hw;have h1:=jl ha hg;unfold wpList;rw[aab h1];refine .inl ?_;unfold Oper.wp;rw[h a w ha];simp only[Oper.upon];refine (hc.2 w hw).mono ?_;rintro e w' ⟨v,K',hs',rfl,hR,hw'⟩;simp only[hd];exact hk v K' hs' hR _ _ (ha.put hb) hw'
def clAt(T:br)(ops:Array Oper)(n k:Nat)(rest:List Oper)(l:Sl):Option (Nat×Nat×List Value×List Oper×Sl):=
 match fc T ops n k rest l with
 | some (o,r,l')=>match o.dst,o.op with
  | some d,.call { callee:=.value f,args,.. }=>match Nat.blt d n,ev l' f,args.toList.mapM (ev l') with
   | true,some (.func (.func g) first captured),some vs=>some (d,g,first.toList++(vs++captured.toList),r,l')
   | _,_,_=>none
  | _,_=>none
 | _=>none
theorem uJ{a:Act}{nn:Nat}{l:Sl}(ha:Ag nn l a):∀ (ps:List Operand) (vs:List Value),ps.mapM (ev l)=some vs->ps.map a.eval=vs
 | [],vs,h=>by simp at h;subst h;rfl
 | p::ps,vs,h=>by
  simp only[List.mapM_cons] at h;cases h1:ev l p with
  | none=>simp[h1] at h
  | some v=>
   cases h2:ps.mapM (ev l) with
   | none=>simp[h1,h2] at h
   | some r=>
    simp[h1,h2] at h;subst h;simp[ha.ev h1,uJ ha ps r h2]
def cl[hT:TabOK P T](k:Nat){d g:Nat}{vs:List Value}{R:Value->PH->List PH->Prop}(h0:clAt T ops n k rest l=some (d,g,vs,rest',l'))(hc:Ct P w0 g vs K hs R)
  (hk:∀ v K' hs',R v K' hs'->WL P w0 ops Q rest' n ((d,v)::l') K' hs'):WL P w0 ops Q rest n l K hs:=by
 unfold clAt at h0
 split at h0
 ·rename_i o r l2 ho
  split at h0
  ·rename_i d' f args ats hd hop
   split at h0
   ·rename_i g' first captured vs' hb hf hvs
    simp only[aad,aai] at h0;obtain ⟨rfl,rfl,rfl,rfl,rfl⟩:=h0;refine WL.at' ho fun hg=>WL.enter hd hb hg (fun A w ha=>?_) hc hk;have h6:=uJ ha _ _ hvs
    have h7:args.map A.eval=vs'.toArray:=by
     apply Array.ext'
     simpa using h6
    have hcal:=hc.1;unfold jN at hcal;simp only[execOp,hop];cases hfn:P.funcs[g']? with
    | none=>simp[hfn] at hcal
    | some fn=>
     simp only[hfn,aaJ,abX] at hcal;have hbn:¬fn.body=none:=fun e=>by simp[e] at hcal
     have hnm : ¬ fn.name = "runtime.NumGoroutine" := by simpa using hcal.2
     simp[resolve,h7,ha.ev hf,Deferred.ofValue,invoke,callFunc,hfn,hbn,hnm]
   simp at h0
  simp at h0
 simp at h0
end rules
def aY.iff{w0 w:World}{K:PH}{hs:List PH}:aY w0 w K hs↔(w.os=w0.os/\w.tape=w0.tape/\w.output=w0.output/\w0.heap.size<=w.heap.size/\(∀ b o,K b=some o->w.heap[b]?=some o) /\
  (∀ h∈hs,∀ b o,h b=some o->w.heap[b]?=some o/\K b=none))/\hs.Pairwise (fun h h'=>∀ b,h b=none\/h' b=none):=by
 constructor
 ·intro s;refine ⟨⟨s.os,s.tape,s.output,s.size,s.imm,fun h hm b o hb=>?_⟩,?_⟩
  ·obtain ⟨i,hi⟩:=abU hm;exact ⟨s.own i h hi b o hb,s.apart i h hi b o hb⟩
  rw[abd];intro i j hi hj hij b;cases hb:hs[i] b with
  | none=>simp
  | some o=>exact .inr (s.sep i j _ _ (aae hi) (aae hj) qo b o hb)
 rintro ⟨⟨h1,h2,h3,h4,h5,h6⟩,h7⟩;rw[abd] at h7;refine ⟨h1,h2,h3,h4,h5,fun i h hi b o hb=>(h6 h (aap hi) b o hb).1,fun i h hi b o hb=>(h6 h (aap hi) b o hb).2,fun i j h h' hi hj hij b o hb=>?_⟩;obtain ⟨hi1,rfl⟩:=aas.1 hi;obtain ⟨hj1,rfl⟩:=aas.1 hj
 grind
theorem aY.perm{w0 w:World}{K:PH}{hs hs':List PH}(p:hs.Perm hs')(s:aY w0 w K hs):aY w0 w K hs':=by
 rw[aY.iff] at s ⊢;obtain ⟨⟨h1,h2,h3,h4,h5,h6⟩,h7⟩:=s;exact ⟨⟨h1,h2,h3,h4,h5,fun h hm=>h6 h (p.mem_iff.2 hm)⟩,(p.pairwise_iff (fun {x y} hxy b=>(hxy b).symm)).1 h7⟩
theorem ig{α:Type}:∀ (l:List α) (i:Nat) (x:α),l[i]?=some x->l.Perm (x::l.eraseIdx i)
 | [],i,x,h=>by simp at h
 | a::l,0,x,h=>by simp at h;subst h;simp
 | a::l,i+1,x,h=>by
  have:=ig l i x (by simpa using h);simp only[List.eraseIdx_cons_succ];exact (this.cons a).trans (aaq x a _)
theorem pu{α:Type}:∀ (l:List α) (i:Nat) (x y:α),l[i]?=some x->(y::l.eraseIdx i).Perm (l.set i y)
 | [],i,x,y,h=>by simp at h
 | a::l,0,x,y,h=>by simp
 | a::l,i+1,x,y,h=>by
  have:=pu l i x y (by simpa using h);simp only[List.eraseIdx_cons_succ,List.set_cons_succ];exact (aaq a y _).trans (this.cons a)
def Ct.at{P:Program}{w0:World}{f:FuncId}{args:List Value}{K:PH}{hs:List PH}{h:PH}{S:Value->PH->PH->Prop}(i:Nat)(hi:hs[i]?=some h)
  (c:Ct P w0 f args K (h::hs.eraseIdx i) (fun v K' hs'=>∃ h',hs'=h'::hs.eraseIdx i/\S v K' h')):Ct P w0 f args K hs (fun v K' hs'=>∃ h',hs'=hs.set i h'/\S v K' h'):=by
 refine ⟨c.1,fun w hw=>(c.2 w (hw.perm (ig hs i h hi))).mono ?_⟩;rintro e w' ⟨v,K',hs',rfl,⟨h',rfl,hS⟩,hw'⟩;exact ⟨v,K',_,I,⟨h',I,hS⟩,hw'.perm (pu hs i h h' hi)⟩
def Ct.atN{P:Program}{w0:World}{f:FuncId}{args:List Value}{K:PH}{hs:List PH}{h:PH}{S:Value->PH->PH->List PH->Prop}(i:Nat)(hi:hs[i]?=some h)
  (c:Ct P w0 f args K (h::hs.eraseIdx i) (fun v K' hs'=>∃ h' new,hs'=new++h'::hs.eraseIdx i/\S v K' h' new)):Ct P w0 f args K hs (fun v K' hs'=>∃ h' new,hs'=new++hs.set i h'/\S v K' h' new):=by
 refine ⟨c.1,fun w hw=>(c.2 w (hw.perm (ig hs i h hi))).mono ?_⟩;rintro e w' ⟨v,K',hs',rfl,⟨h',new,rfl,hS⟩,hw'⟩;exact ⟨v,K',_,I,⟨h',new,I,hS⟩,hw'.perm ((pu hs i h h' hi).append_left new)⟩
section drop
variable {P:Program} {w0:World} {ops:Array Oper} {Q:Exit->Act->World->Prop} {rest:List Oper} {n:Nat} {l:Sl} {K h:PH} {hs:List PH} {c:Code} {e:Exit}
theorem WL.drop(hk:WL P w0 ops Q rest n l K hs):WL P w0 ops Q rest n l K (h::hs):=fun a w ha hw=>hk a w ha hw.dropHead
theorem WC.drop(hk:WC P w0 c Q n l K hs):WC P w0 c Q n l K (h::hs):=fun a w ha hw=>hk a w ha hw.dropHead
theorem WQ.drop(hk:WQ w0 Q e n l K hs):WQ w0 Q e n l K (h::hs):=fun a w ha hw=>hk a w ha hw.dropHead
theorem WL.em(hk:WL P w0 ops Q rest n l K (En.em::hs)):WL P w0 ops Q rest n l K hs:=fun a w ha hw=>hk a w ha hw.addEm
theorem WC.em(hk:WC P w0 c Q n l K (En.em::hs)):WC P w0 c Q n l K hs:=fun a w ha hw=>hk a w ha hw.addEm
theorem WQ.em(hk:WQ w0 Q e n l K (En.em::hs)):WQ w0 Q e n l K hs:=fun a w ha hw=>hk a w ha hw.addEm
theorem WL.perm{hs':List PH}(p:hs.Perm hs')(hk:WL P w0 ops Q rest n l K hs'):WL P w0 ops Q rest n l K hs:=fun a w ha hw=>hk a w ha (hw.perm p)
theorem WC.perm{hs':List PH}(p:hs.Perm hs')(hk:WC P w0 c Q n l K hs'):WC P w0 c Q n l K hs:=fun a w ha hw=>hk a w ha (hw.perm p)
theorem WQ.perm{hs':List PH}(p:hs.Perm hs')(hk:WQ w0 Q e n l K hs'):WQ w0 Q e n l K hs:=fun a w ha hw=>hk a w ha (hw.perm p)
end drop
def In.cons{K h x:PH}{hs:List PH}(hm:In K hs h):In K (x::hs) h:=by
 rcases hm with h1|⟨i,h1⟩
 ·exact .inl h1
 exact .inr ⟨i+1,by simpa using h1⟩
theorem ac{x:Int}(h : -9223372036854775808<=x/\x<=9223372036854775807):Value.int .i64 (IntKind.i64.wrap x)=.int .i64 x:=by rw[IntWalk.i64_in _ h]
theorem cJ{x:Int}(h:0<=x/\x<=18446744073709551615):Value.int .u64 (IntKind.u64.wrap x)=.int .u64 x:=by rw[IntWalk.u64_in _ h]
def ze{x:Int}(h:0<=x/\x<=4294967295):Value.int .u32 (IntKind.u32.wrap x)=.int .u32 x:=by rw[IntWalk.u32_in _ h]
def iJ{x:Int}(h:0<=x/\x<=255):Value.int .u8 (IntKind.u8.wrap x)=.int .u8 x:=by rw[IntWalk.u8_in _ h]
theorem l7(n:Nat):Value.int .u8 (IntKind.u8.wrap (n:Int))=.int .u8 (n % 256:Nat):=by
 rfl
def Q2(n:Nat):Value.int .u32 (IntKind.u32.wrap (n:Int))=.int .u32 (n % 4294967296:Nat):=by
 rfl
def qR(n:Nat):Value.int .u64 (IntKind.u64.wrap (n:Int))=.int .u64 (n % 18446744073709551616:Nat):=by
 rfl
section
variable {P : Program} {w0 : World} {Q Q' Q1 : Exit → Act → World → Prop} {n id id' i1 : Nat} {l : Sl} {K : PH} {hs : List PH} {o : List Oper} {x y z : Code}
def ac9 (h : WL P w0 o.toArray (Exit.then (y.wp P Q) Q) o n l K hs) : WC P w0 (.seq (.region id o.toArray false) y) Q n l K hs := sq (rg h)
def ac6 (h : WL P w0 o.toArray (Exit.then (y.wp P Q) Q) o n l K hs) : WQ w0 (Exit.then ((Code.seq (.region id o.toArray false) y).wp P Q) Q') .normal n l K hs := th (sq (rg h))
def ac5 (h : WL P w0 o.toArray (Exit.then (y.wp P (Exit.then (z.wp P Q) Q)) (Exit.then (z.wp P Q) Q)) o n l K hs) : WQ w0 (Exit.then ((Code.seq (.seq (.region id o.toArray false) y) z).wp P Q) Q') .normal n l K hs := th (sq (sq (rg h)))
def ac8 (h : WL P w0 o.toArray Q o n l K hs) : WQ w0 (Exit.then ((Code.region id o.toArray false).wp P Q) Q') .normal n l K hs := th (rg h)
def ac7 (h : WL P w0 o.toArray Q o n l K hs) : WQ w0 (Exit.inBlock i1 (Exit.then ((Code.region id o.toArray false).wp P Q) Q')) .normal n l K hs := bl (th (rg h))
def adb (h : WQ w0 Q .ret n l K hs) : WQ w0 (Exit.then (Code.ret.wp P Q) Q') .normal n l K hs := th (rt h)
end
end
section
section tree
variable {P:Program} {ops:Array Oper} {md:Region.Mode} {S:Array Bool->World->Prop}
def rf(q:Act->World->Prop):Exit->Act->World->Prop
 | .normal,a,w=>q a w
 | _,_,_=>False
theorem yn{o:Oper}{a:Act}{K:Act->World->Prop}{Q Q':Exit->Act->World->Prop}(hp:∀ c a w,Q (.panic c) a w->Q' (.panic c) a w)(hg:∀ a w,Q .outgrown a w->Q' .outgrown a w){r:Result Next}(h:o.upon P a K Q r):o.upon P a K Q' r:=by
 cases r with
 | ok n w'=>
  cases n <;> simp only[Oper.upon] at h ⊢ <;> first
   | exact h
   | (
     refine Calls.mono h fun e w'' he=>?_
     cases e with
     | returned v=>exact he
     | panicked c=>exact hp _ _ _ he
     | outgrown=>obtain ⟨a,w,hh⟩:=he;exact ⟨a,w,hg _ _ hh⟩)
 | halt x w'=>
  cases x <;> simp only[Oper.upon] at h ⊢ <;> first
   | exact hp _ _ _ h
   | exact h
def Oo{i:Nat}{K:Act->World->Prop}{Q Q':Exit->Act->World->Prop}(hq:∀ e a w,Q e a w->Q' e a w){a:Act}{w:World}(h:wpOp P ops Q i K a w):wpOp P ops Q' i K a w:=by
 unfold wpOp at *
 split
 ·exact by simpa[*] using h
 rename_i o ho;simp only[ho] at h
 split
 ·rename_i hw;simp only[hw,if_true] at h;exact h.imp (yn (fun c=>hq (.panic c)) (hq .outgrown)) (fun ⟨h1,a,w,h2⟩=>⟨h1,a,w,hq _ _ _ h2⟩)
 rename_i hw;simp only[hw] at h;exact h
def tr(P:Program)(md:Region.Mode)(ops:Array Oper)(q:Act->World->Prop)(S:Array Bool->World->Prop):Nat->Array Bool->Act->World->Prop
 | 0,listed,a,w=>Region.ready md ops listed=[]/\q a w
 | f+1,listed,a,w=>(Region.ready md ops listed=[]->q a w) /\
  ∀ i∈Region.ready md ops listed,wpOp P ops (rf q) i (fun a' w'=>S (listed.setIfInBounds i true) w'/\tr P md ops q S f (listed.setIfInBounds i true) a' w') a w
theorem yp{q:Act->World->Prop}{Q:Exit->Act->World->Prop}(hq:∀ e a w,rf q e a w->Q e a w):∀ (f:Nat) (listed:Array Bool) (a:Act) (w:World),tr P md ops q S f listed a w->wpAny P md ops Q f listed a w
 | 0,_,_,_,h=>⟨h.1,hq .normal _ _ h.2⟩
 | f+1,_,_,_,h=>⟨fun h0=>hq .normal _ _ (h.1 h0),fun i hi=>wpOp_mono (fun a' w' h'=>yp hq f _ a' w' h'.2) (Oo hq (h.2 i hi))⟩
def gm(md:Region.Mode)(ops:Array Oper)(L:Array Bool):Prop:=L.size=ops.size/\∀ j oj,ops[j]?=some oj->L.getD j false=true->∀ e∈oj.after,Region.binds md e=true->L.getD e.on false=true
def gm.set{L:Array Bool}{i:Nat}(c:gm md ops L)(hr:i∈Region.ready md ops L):gm md ops (L.setIfInBounds i true):=by
 obtain ⟨_,oi,hoi,hall⟩:=mem_ready.1 hr;refine ⟨by simpa using c.1,?_⟩;intro j oj hj hl e he hb
 by_cases hij:i=j
 ·subst hij;obtain rfl:oj=oi:=aa8 (hj.symm.trans hoi);exact getD_set_true (hall e he hb)
 rw[getD_set_ne false hij] at hl;exact getD_set_true (c.2 j oj hj hl e he hb)
theorem KU{q:Act->World->Prop}{i:Nat}{oi:Oper}{v:Value}(hi:ops[i]?=some oi)(hsel:∀ (j:Nat) (o:Oper) cs b,ops[j]?=some o->o.op≠.select cs b):
  ∀ (f:Nat) (listed:Array Bool) (a:Act) (w:World),gm md ops listed ->
   (∀ j oj,ops[j]?=some oj->j≠i->listed.getD j true=false->(∀ e∈oj.after,Region.binds md e=true->e.on≠i)->oi.apart ops oj=true) ->
   i∈Region.ready md ops listed->YieldsIf P ops (fun w=>∃ L:Array Bool,gm md ops L/\L.getD i true=false/\S L w) oi v a->S listed w ->
   (∀ (L:Array Bool) w',S L w'->S (L.setIfInBounds i true) w')->(∀ (L:Array Bool) w',S (L.setIfInBounds i true) w'->S L w') ->
   tr P md ops q S f (listed.setIfInBounds i true) (a.put oi.dst v) w->tr P md ops q S (f+1) listed a w:=by
 intro f
 induction f with
 | zero=>
  intro listed a w hc _ hr hy hS hup hdown H;refine ⟨fun h=>(by rw[h] at hr;cases hr),fun j hj=>?_⟩
  by_cases hji:j=i
  ·subst hji;exact hy.wpOp hi ⟨listed,hc,(mem_ready.1 hr).1,hS⟩ ⟨hup _ _ hS,H⟩
  have:=ready_mono hj hji;rw[H.1] at this;cases this
 | succ f ih=>
  intro listed a w hc hfree hr hy hS hup hdown H;refine ⟨fun h=>(by rw[h] at hr;cases hr),fun j hj=>?_⟩
  by_cases hji:j=i
  ·subst hji;exact hy.wpOp hi ⟨listed,hc,(mem_ready.1 hr).1,hS⟩ ⟨hup _ _ hS,H⟩
  have h1:=H.2 j (ready_mono hj hji);obtain ⟨hjun,oj,hoj,hall⟩:=mem_ready.1 hj
  have hnot:∀ e∈oj.after,Region.binds md e=true->e.on≠i:=fun e he hb heq=>by
   have h1:=hall e he hb
   grind [mem_ready]
  have h2:=wpOp_putIf hoj (hfree j oj hoj hji hjun hnot) (fun cs b=>hsel i oi cs b hi) (fun cs b=>hsel j oj cs b hoj) (fun c a w h=>h) hy h1
  have hfree':∀ k ok,ops[k]?=some ok->k≠i->(listed.setIfInBounds j true).getD k true=false ->
    (∀ e∈ok.after,Region.binds md e=true->e.on≠i)->oi.apart ops ok=true:=fun k ok hk hki hun hno=>by
   refine hfree k ok hk hki ?_ hno
   by_cases hjk:j=k
   ·subst hjk;exact hjun
   simp_all
  refine wpOp_mono (fun a' w' h3=>?_) h2;obtain ⟨g1,g2,g3⟩:=h3;have e1:(listed.setIfInBounds i true).setIfInBounds j true=(listed.setIfInBounds j true).setIfInBounds i true:=Array.setIfInBounds_comm _ _ (Ne.symm hji);rw[e1] at g2 g3;have g4:=hdown _ _ g2;exact ⟨g4,ih (listed.setIfInBounds j true) a' w' (hc.set hj) hfree' (ready_mono hr (Ne.symm hji)) g1 g4 hup hdown g3⟩
end tree
def gK(md:Region.Mode)(ops:Array Oper):List Nat->Array Bool->Bool
 | [],listed=>(Region.ready md ops listed).isEmpty
 | p::r,listed=>(cond (Nat.beq (p % 2) 0) ((Region.ready md ops listed).contains (p / 2) && Region.free md ops listed (p / 2)) ((Region.ready md ops listed).contains (p / 2))) && gK md ops r (listed.setIfInBounds (p / 2) true)
def fo(K:PH)(A:List PH)(w:World):Prop:=(∀ b o,K b=some o->w.heap[b]?=some o)/\∀ h∈A,∀ b o,h b=some o->w.heap[b]?=some o
def iT(z:Nat)(H:World->Prop)(L:Array Bool)(w:World):Prop:=L.getD z false=false->H w
def WA(P:Program)(w0:World)(ops:Array Oper)(Q:Exit->Act->World->Prop)(K0:PH)(A:List PH)(z:Nat)(plan:List Nat)(listed:Array Bool)(n:Nat)(l:Sl)(K:PH)(hs:List PH):Prop:=
 gK .any ops plan listed=true->gm .any ops listed->∀ a w,Ag n l a->aY w0 w K hs->iT z (fo K0 A) listed w->tr P .any ops (Q .normal) (iT z (fo K0 A)) (ba plan) listed a w
theorem fo.of{w0 w:World}{K:PH}{hs A:List PH}(s:aY w0 w K hs)(hA:hs.take (ba A)=A):fo K A w:=by
 refine ⟨s.imm,fun h hm b o hb=>?_⟩;rw[<-hA] at hm;exact s.block (.inr (abU (aaR hm))) hb
theorem fo.cell{w:World}{K:PH}{A:List PH}(s:fo K A w){h:PH}(hi:In K A h){a:Addr}{v:Value}(hc:bR h a v):w.cell? a=some v:=by
 obtain ⟨hsp,c,ty,fr,hb,hv⟩:=hc
 have:w.heap[a.block]?=some (.cells c ty fr):=by
  rcases hi with rfl|⟨i,hi⟩
  ·exact s.1 _ _ hb
  exact s.2 h (aap hi) _ _ hb
 simp[World.cell?,this,hsp,hv]
section rules
variable {P:Program} {T:br} {w0:World} {ops:Array Oper} {Q:Exit->Act->World->Prop} {plan plan':List Nat} {z:Nat} {listed listed':Array Bool} {n:Nat} {l l':Sl} {K K0:PH} {hs A:List PH}
def SS{id:Nat}{o:List Oper}(m z:Nat)(plan:List Nat)(hm:P.follows .mixedOrders=true)(hp:(gK .any o.toArray plan (Array.replicate o.toArray.size false) && Nat.beq (ba plan) o.toArray.size)=true)
  (h:WA P w0 o.toArray Q K (hs.take m) z plan (Array.replicate o.toArray.size false) n l K hs):WC P w0 (.region id o.toArray true) Q n l K hs:=by
 intro a w ha hw;simp only[aaJ] at hp;refine wp_region_any hm ?_;have hlen:ba plan=o.toArray.size:=aaM hp.2;have hw':aY w0 { w with drawn:=w.drawn+1 } K hs:=hw.drew
 have hc:gm .any o.toArray (Array.replicate o.toArray.size false):=by
  refine ⟨ST,?_⟩
  grind [getD_replicate_false]
 have hh:=h hp.1 hc a { w with drawn:=w.drawn+1 } ha hw' (fun _=>fo.of hw' ST);rw[hlen] at hh;refine yp (q:=Q .normal) (fun e a w h=>?_) _ _ _ _ hh;cases e <;> first|exact h|exact h.elim
theorem CQ{H:World->Prop}(i:Nat)(L:Array Bool)(w:World)(h:iT z H L w):iT z H (L.setIfInBounds i true) w:=by
 intro hr;refine h ?_
 grind [getD_set_true]
theorem IY{H:World->Prop}{i:Nat}(hi:i≠z)(L:Array Bool)(w:World)(h:iT z H (L.setIfInBounds i true) w):iT z H L w:=by
 intro hr;exact h (by rw[getD_set_ne false hi];exact hr)
theorem WA.look{i:Nat}{o:Oper}{d:Nat}{v:Value}(hi:ops[i]?=some o)(hsel:Region.noSelect ops=true)(hz:Nat.beq i z=false)(hd:o.dst=some d)(hb:Nat.blt d n=true)
  (hy:∀ a,Ag n l a->YieldsIf P ops (fun w=>∃ L:Array Bool,gm .any ops L/\L.getD i true=false/\iT z (fo K0 A) L w) o v a)
  (hk:WA P w0 ops Q K0 A z plan (listed.setIfInBounds i true) n ((d,v)::l) K hs):WA P w0 ops Q K0 A z (2*i::plan) listed n l K hs:=by
 intro hp hc a w ha hw hl;simp only[gK,aaJ] at hp;obtain ⟨h1,h2⟩:=hp;rw[show 2*i % 2=0 from qo,show 2*i / 2=i from qo] at h1;rw[show 2*i / 2=i from qo] at h2;have h3:((Region.ready .any ops listed).contains i && Region.free .any ops listed i)=true:=h1;simp only[aaJ] at h3;have hready:i∈Region.ready .any ops listed:=by simpa using h3.1
 have hkk:=hk h2 (hc.set hready) _ w (ha.put (v:=v) hb) hw (CQ i listed w hl)
 grind [Nat.ne_of_beq_eq_false,KU,Region.noSelect_spec,Region.free_spec,CQ,IY]
def WA.pure[hT:TabOK P T]{i:Nat}{o:Oper}{d:Nat}{v:Value}(hi:ops[i]?=some o)(hsel:Region.noSelect ops=true)(hz:Nat.beq i z=false)(hd:o.dst=some d)(hb:Nat.blt d n=true)
  (hv:ib ops l o.guard=some true/\jP T l o.op=some v\/ib ops l o.guard=some false/\v=undef)
  (hk:WA P w0 ops Q K0 A z plan (listed.setIfInBounds i true) n ((d,v)::l) K hs):WA P w0 ops Q K0 A z (2*i::plan) listed n l K hs:=by
 refine WA.look hi hsel hz hd hb (fun a ha=>?_) hk;rcases hv with ⟨hg,hv⟩|⟨hg,rfl⟩
 ·exact .inl ⟨jl ha hg,fun w _=>wC hv ha w⟩
 exact .inr ⟨jl ha hg,I⟩
def lr(T:br)(ops:Array Oper)(n z:Nat):Nat->List Nat->Array Bool->Sl->Option (List Nat×Array Bool×Sl)
 | 0,p,L,l=>some (p,L,l)
 | _+1,[],_,_=>none
 | k+1,p::r,L,l=>match Nat.beq (p % 2) 0,Nat.beq (p / 2) z,ops[p / 2]? with
  | true,false,some o=>match o.dst with
   | some d=>match Nat.blt d n,ib ops l o.guard with
    | true,some true=>match jP T l o.op with
     | some v=>lr T ops n z k r (L.setIfInBounds (p / 2) true) ((d,v)::l)
     | none=>none
    | true,some false=>lr T ops n z k r (L.setIfInBounds (p / 2) true) ((d,undef)::l)
    | _,_=>none
   | none=>none
  | _,_,_=>none
theorem WA.pures[hT:TabOK P T](hsel:Region.noSelect ops=true):∀ (k:Nat) {plan:List Nat} {listed:Array Bool} {l:Sl},lr T ops n z k plan listed l=some (plan',listed',l') ->
  WA P w0 ops Q K0 A z plan' listed' n l' K hs->WA P w0 ops Q K0 A z plan listed n l K hs
 | 0,plan,listed,l,h,hk=>by simp only[lr,aad,aai] at h;obtain ⟨rfl,rfl,rfl⟩:=h;exact hk
 | k+1,[],listed,l,h,hk=>by simp[lr] at h
 | k+1,p::r,listed,l,h,hk=>by
  simp only[lr] at h;cases h1:Nat.beq (p % 2) 0 with
  | false=>simp[h1] at h
  | true=>
   cases h2:Nat.beq (p / 2) z with
   | true=>simp[h1,h2] at h
   | false=>
    cases h3:ops[p / 2]? with
    | none=>simp[h1,h2,h3] at h
    | some o=>
     simp only[h1,h2,h3] at h;have hp2:p=2*(p / 2):=by have:=aaM h1;omega
     cases hd:o.dst with
     | none=>simp[hd] at h
     | some d=>
      simp only[hd] at h;cases hb:Nat.blt d n with
      | false=>simp[hb] at h
      | true=>
       cases hg:ib ops l o.guard with
       | none=>simp[hb,hg] at h
       | some g=>
        cases g with
        | true=>
         simp only[hb,hg] at h;cases hv:jP T l o.op with
         | none=>simp[hv] at h
         | some v=>
          simp only[hv] at h;rw[hp2];exact WA.pure h3 hsel h2 hd hb (.inl ⟨hg,hv⟩) (WA.pures hsel k h hk)
        | false=>
         simp only[hb,hg] at h;rw[hp2];exact WA.pure h3 hsel h2 hd hb (.inr ⟨hg,I⟩) (WA.pures hsel k h hk)
def mN(T:br)(ops:Array Oper)(n z k:Nat)(plan:List Nat)(L:Array Bool)(l:Sl):Option (Nat×Oper×List Nat×Array Bool×Sl):=
 match lr T ops n z k plan L l with
 | some (p::r,L',l')=>match ops[p / 2]? with
  | some o=>some (p,o,r,L',l')
  | none=>none
 | _=>none
def mD{k p:Nat}{o:Oper}(h:mN T ops n z k plan listed l=some (p,o,plan',listed',l')):lr T ops n z k plan listed l=some (p::plan',listed',l')/\ops[p / 2]?=some o:=by
 unfold mN at h
 grind
def yV(T:br)(ops:Array Oper)(n z k:Nat)(plan:List Nat)(L:Array Bool)(l:Sl):Option (Nat×Addr×List Nat×Array Bool×Sl):=
 match mN T ops n z k plan L l with
 | some (p,o,r,L',l')=>match Nat.beq (p % 2) 0,Nat.beq (p / 2) z,cond (Nat.blt z ops.size) (Region.waitsFor .any ops z (p / 2)) true,ib ops l' o.guard,o.dst,o.op with
  | true,false,true,some true,some d,.load t x=>match Nat.blt d n,asc T.kinds t,ev l' x with
   | true,some kd,some (.pointer (some a))=>cond kd.one (some (d,a,r,L'.setIfInBounds (p / 2) true,l')) none
   | _,_,_=>none
  | _,_,_,_,_,_=>none
 | none=>none
def qb{L:Array Bool}{i:Nat}(c:gm .any ops L)(hi:L.getD i true=false)(hw:cond (Nat.blt z ops.size) (Region.waitsFor .any ops z i) true=true):L.getD z false=false:=by
 cases hb:Nat.blt z ops.size with
 | false=>
  have:¬z<ops.size:=fun h=>by
   grind [Nat.ble_eq_true_of_le,Nat.blt]
  have h2:L.size<=z:=by rw[c.1];omega
  simp[acx h2]
 | true=>
  rw[hb] at hw;obtain ⟨oj,hoj,e,he,hbb,hon⟩:=Region.waitsFor_spec hw;cases hz:L.getD z false with
  | false=>rfl
  | true=>
   have:=c.2 z oj hoj hz e he hbb
   grind
def lc[hT:TabOK P T](hsel:Region.noSelect ops=true)(k:Nat){d:Nat}{a:Addr}{v:Value}{h:PH}(h0:yV T ops n z k plan listed l=some (d,a,plan',listed',l'))(hm:In K0 A h)(hc:bR h a v)
  (hk:WA P w0 ops Q K0 A z plan' listed' n ((d,v)::l') K hs):WA P w0 ops Q K0 A z plan listed n l K hs:=by
 unfold yV at h0
 split at h0
 ·rename_i p o r L' l2 hh
  split at h0
  ·rename_i dd t x hp hz hwf hg hd hop
   split at h0
   ·rename_i kd a' hb hkd hx;cases h1:kd.one with
    | false=>simp[h1] at h0
    | true=>
     simp only[h1,cond_true,aad,aai] at h0;obtain ⟨rfl,rfl,rfl,rfl,rfl⟩:=h0;obtain ⟨g1,g2⟩:=mD hh;refine WA.pures hsel k g1 ?_;have hp2:p=2*(p / 2):=by have:=aaM hp;omega
     rw[hp2];refine WA.look g2 hsel hz hd hb (fun A' ha=>.inl ⟨jl ha hg,fun w hw=>?_⟩) hk;obtain ⟨L,hcl,hun,hst⟩:=hw;have hcell:=(hst (qb hcl hun hwf)).cell hm hc;have h2:=rR (P:=P) hkd h1 hcell;simp only[execOp,hop,ha.ev hx];simp[h2]
   simp at h0
  simp at h0
 simp at h0
def dF[hT:TabOK P T](hsel:Region.noSelect ops=true)(k i:Nat){d b off ty:Nat}{v:Value}{c:Array Value}{fr:Nat×Nat}(h0:yV T ops n z k plan listed l=some (d,⟨b,off,none⟩,plan',listed',l'))
  (hi:A[i]?=some (pt b c ty fr)) (hv:c[off]?=some v) (hk:WA P w0 ops Q K0 A z plan' listed' n ((d,v)::l') K hs):WA P w0 ops Q K0 A z plan listed n l K hs:=
 lc hsel k h0 (.inr ⟨i,hi⟩) (bR.pt hv) hk
def mV(T:br)(ops:Array Oper)(n z k:Nat)(plan:List Nat)(L:Array Bool)(l:Sl):Option (Nat×Oper×List Nat×Array Bool×Sl):=
 match mN T ops n z k plan L l with
 | some (p,o,r,L',l')=>match Nat.beq (p % 2) 0,Nat.beq (p / 2) z,ib ops l' o.guard,o.dst with
  | true,false,some true,some d=>match Nat.blt d n with
   | true=>some (d,o,r,L'.setIfInBounds (p / 2) true,l')
   | false=>none
  | _,_,_,_=>none
 | none=>none
theorem nR[hT:TabOK P T](hsel:Region.noSelect ops=true)(k:Nat){d:Nat}{o:Oper}{v:Value}(h0:mV T ops n z k plan listed l=some (d,o,plan',listed',l'))
  (hv:∀ a w,Ag n l' a->(execOp a.eval o).run P w=.ok (.value v) w) (hk:WA P w0 ops Q K0 A z plan' listed' n ((d,v)::l') K hs):WA P w0 ops Q K0 A z plan listed n l K hs:=by
 unfold mV at h0
 split at h0
 ·rename_i p o' r L' l2 hh
  split at h0
  ·rename_i dd hp hz hg hd
   split at h0
   ·rename_i hb;simp only[aad,aai] at h0;obtain ⟨rfl,rfl,rfl,rfl,rfl⟩:=h0;obtain ⟨g1,g2⟩:=mD hh;refine WA.pures hsel k g1 ?_;have hp2:p=2*(p / 2):=by have:=aaM hp;omega
    rw[hp2];exact WA.look g2 hsel hz hd hb (fun A' ha=>.inl ⟨jl ha hg,fun w _=>hv A' w ha⟩) hk
   simp at h0
  simp at h0
 simp at h0
def sN(T:br)(ops:Array Oper)(n z k:Nat)(plan:List Nat)(L:Array Bool)(l:Sl):Option (Nat×Value×List Nat×Array Bool×Sl):=
 match mV T ops n z k plan L l with
 | some (d,o,r,L',l')=>match jP T l' o.op with
  | some v=>some (d,v,r,L',l')
  | none=>none
 | none=>none
def bQ[hT:TabOK P T](hsel:Region.noSelect ops=true)(k:Nat){d:Nat}{v v':Value}(h0:sN T ops n z k plan listed l=some (d,v,plan',listed',l'))(he:v=v')
  (hk:WA P w0 ops Q K0 A z plan' listed' n ((d,v')::l') K hs):WA P w0 ops Q K0 A z plan listed n l K hs:=by
 subst he;unfold sN at h0
 split at h0
 ·rename_i d' o r L' l2 hh
  split at h0
  ·rename_i v' hv;simp only[aad,aai] at h0;obtain ⟨rfl,rfl,rfl,rfl,rfl⟩:=h0
   grind [nR,wC]
  simp at h0
 simp at h0
def H3[hT:TabOK P T](hsel:Region.noSelect ops=true)(k:Nat){d:Nat}{b:Bool}(h0:sN T ops n z k plan listed l=some (d,.bool b,plan',listed',l'))
  (hy:b=true->WA P w0 ops Q K0 A z plan' listed' n ((d,.bool true)::l') K hs) (hn:b=false->WA P w0 ops Q K0 A z plan' listed' n ((d,.bool false)::l') K hs):WA P w0 ops Q K0 A z plan listed n l K hs:=by
 cases b with
 | true=>exact bQ hsel k h0 rfl (hy rfl)
 | false=>exact bQ hsel k h0 rfl (hn rfl)
def gD[hT:TabOK P T](hsel:Region.noSelect ops=true)(k:Nat){d:Nat}{b:Bool}(p:Prop)(h0:sN T ops n z k plan listed l=some (d,.bool b,plan',listed',l'))(hp:p↔b=true)
  (hy:p->WA P w0 ops Q K0 A z plan' listed' n ((d,.bool true)::l') K hs) (hn:¬p->WA P w0 ops Q K0 A z plan' listed' n ((d,.bool false)::l') K hs):WA P w0 ops Q K0 A z plan listed n l K hs:=
 H3 hsel k h0 (fun h=>hy (hp.2 h)) (fun h=>hn (fun h'=>by rw[hp.1 h'] at h;cases h))
def SB[hT:TabOK P T](hsel:Region.noSelect ops=true)(k:Nat){d d':Nat}{o:Oper}{si:eU}{ao:Option Addr}{n1 c1:Nat}{lo hi:Option Int}{h:PH}{xs ys:List Value}(L N:Nat)
  (h0:mV T ops n z k plan listed l=some (d,o,plan',listed',l')) (h1:qS T ops n 0 [o] l'=some (d',si,(ao,n1,c1),lo,hi,[],l')) (x:aH h ao n1 c1 si.size xs) (hL:lo.getD 0=(L:Int)) (hH:hi.getD n1=((L+N:Nat):Int)) (hN:L+N<=n1)
  (hy:(xs.drop (L*si.size)).take (N*si.size)=ys)
  (hk:∀ ao' cap',aH h ao' N cap' si.size ys->WA P w0 ops Q K0 A z plan' listed' n ((d,.slice ao' N cap')::l') K hs):WA P w0 ops Q K0 A z plan listed n l K hs:=by
 obtain ⟨o',ho,hd,hb,hrun⟩:=ub (P:=P) L (L+N) h1 hL hH qo (by have:=x.2.1;omega)
 have ho':o'=o:=by
  have e:jT T ops n 0 [o] l'=some ([o],l'):=rfl
  grind [fc]
 subst ho';refine nR hsel k h0 (v:=.slice (ez ao c1 L si.size) N (c1-L)) (fun a w ha=>?_) (hk _ _ (x.cut L N hN hy))
 simp_all
def be[hT:TabOK P T](hsel:Region.noSelect ops=true)(k:Nat)(h0:lr T ops n z k plan listed l=some ([],listed',l'))(hk:WQ w0 Q .normal n l' K hs):WA P w0 ops Q K0 A z plan listed n l K hs:=
 WA.pures hsel k h0 fun hp _ a w ha hw _=>by
  simp only[gK,List.isEmpty_iff] at hp;exact ⟨hp,hk a w ha hw⟩
def my(P:Program)(w0:World)(ops:Array Oper)(Q:Exit->Act->World->Prop)(K0:PH)(A:List PH)(z:Nat)(plan:List Nat)(listed:Array Bool):Exit->Act->World->Prop:=
 rf fun a w=>iT z (fo K0 A) listed w/\tr P .any ops (Q .normal) (iT z (fo K0 A)) (ba plan) listed a w
def y8(T:br)(ops:Array Oper)(n z k:Nat)(plan:List Nat)(L:Array Bool)(l:Sl):Option (Oper×List Nat×Array Bool×Sl):=
 match mN T ops n z k plan L l with
 | some (p,o,r,L',l')=>cond (Nat.beq (p % 2) 1) (some (o,r,L'.setIfInBounds (p / 2) true,l')) none
 | none=>none
def wn{i:Nat}{o:Oper}{r:List Nat}{L:Array Bool}{a:Act}{w:World}(g2:ops[i]?=some o)(h2:gK .any ops r L=true)(hc':gm .any ops L)
  (hwl:wpList P ops (fun e a w=>gK .any ops r L=true->gm .any ops L->my P w0 ops Q K0 A z r L e a w) [o] a w):
  wpOp P ops (rf (Q .normal)) i (fun a' w'=>iT z (fo K0 A) L w'/\tr P .any ops (Q .normal) (iT z (fo K0 A)) (ba r) L a' w') a w:=by
 unfold wpOp;simp only[g2];unfold wpList at hwl
 have conv:∀ e a w,(gK .any ops r L=true->gm .any ops L->my P w0 ops Q K0 A z r L e a w) ->
   rf (fun a w=>iT z (fo K0 A) L w/\tr P .any ops (Q .normal) (iT z (fo K0 A)) (ba r) L a w) e a w:=fun e a w h=>h h2 hc'
 split
 ·rename_i hwn;rw[aab hwn] at hwl;rcases hwl with hwl|⟨_,a',w',hwl⟩
  ·refine .inl (Oper.wp_mono ?_ (yn (Q':=rf (Q .normal)) (fun c a w h=>(conv (.panic c) a w h).elim) (fun a w h=>(conv .outgrown a w h).elim) hwl));intro a w h;simp only[wpList] at h;exact conv .normal a w h
  exact (conv .outgrown a' w' hwl).elim
 rename_i hwn;rw[aaa hwn] at hwl;simp only[wpList] at hwl;exact conv .normal _ _ hwl
def pM(ops:Array Oper):List Nat->Array Bool->Bool
 | [],_=>false
 | p::r,L=>cond (Nat.beq (p % 2) 0) (pM ops r (L.setIfInBounds (p / 2) true)) (Region.ready .any ops L == [p / 2])
def qz(ops:Array Oper)(j:Nat):List Nat->Array Bool->Bool
 | [],_=>false
 | p::r,L=>cond (Nat.beq (p % 2) 0) (qz ops j r (L.setIfInBounds (p / 2) true)) (Region.ready .any ops L == [p / 2,j] || Region.ready .any ops L == [j,p / 2])
theorem tQ:∀ (k:Nat) {plan:List Nat} {L L':Array Bool} {l l':Sl} {p:Nat} {r:List Nat},lr T ops n z k plan L l=some (p::r,L',l')->Nat.beq (p % 2) 1=true ->
  pM ops plan L=(Region.ready .any ops L' == [p / 2])/\∀ j,qz ops j plan L=(Region.ready .any ops L' == [p / 2,j] || Region.ready .any ops L' == [j,p / 2])
 | 0,plan,L,L',l,l',p,r,h,hp=>by
  simp only[lr,aad,aai] at h;obtain ⟨rfl,rfl,rfl⟩:=h
  simp_all [Nat.beq,pM,qz]
 | k+1,[],L,L',l,l',p,r,h,hp=>by simp[lr] at h
 | k+1,p0::r0,L,L',l,l',p,r,h,hp=>by
  simp only[lr] at h
  split at h
  ·rename_i h0 _ _
   split at h
   ·split at h
    ·split at h
     ·have:=tQ k h hp;simp_all [pM,qz]
     simp at h
    ·have:=tQ k h hp;simp_all [pM,qz]
    simp at h
   simp at h
  simp at h
def aG[hT:TabOK P T](hsel':(Region.noSelect ops && pM ops plan listed)=true)(k:Nat){o:Oper}(h0:y8 T ops n z k plan listed l=some (o,plan',listed',l'))
  (hk:WL P w0 ops (fun e a w=>gK .any ops plan' listed'=true->gm .any ops listed'->my P w0 ops Q K0 A z plan' listed' e a w) [o] n l' K hs):WA P w0 ops Q K0 A z plan listed n l K hs:=by
 simp only[aaJ] at hsel';obtain ⟨hsel,hal⟩:=hsel';unfold y8 at h0
 split at h0
 ·rename_i p o' r L' l2 hh;cases hp1:Nat.beq (p % 2) 1 with
  | false=>simp[hp1] at h0
  | true=>
   simp only[hp1,cond_true,aad,aai] at h0;obtain ⟨rfl,rfl,rfl,rfl⟩:=h0;obtain ⟨g1,g2⟩:=mD hh;have h1:=(tQ k g1 hp1).1;rw[hal] at h1;refine WA.pures hsel k g1 ?_;intro hp hc a w ha hw hl;simp only[gK,aaJ] at hp;obtain ⟨_,h2⟩:=hp;have h1:Region.ready .any ops L'=[p / 2]:=by simpa using h1.symm
   have hmem:p / 2∈Region.ready .any ops L':=by rw[h1];simp
   have hc':=hc.set hmem;refine ⟨fun h0=>(by rw[h1] at h0;cases h0),fun i hi=>?_⟩;rw[h1] at hi;simp only[aaK] at hi;subst hi;exact wn g2 h2 hc' (hk a w ha hw)
 simp at h0
def Ge(T:br)(ops:Array Oper)(n z k:Nat)(plan:List Nat)(L:Array Bool)(l:Sl)(j:Nat):Option (Oper×Oper×List Nat×Array Bool×Array Bool×Sl):=
 match mN T ops n z k plan L l with
 | some (p,o,r,L',l')=>match ops[j]? with
  | some oj=>cond (Nat.beq (p % 2) 1) (some (o,oj,r,L'.setIfInBounds (p / 2) true,L'.setIfInBounds j true,l')) none
  | none=>none
 | none=>none
def u0(j:Nat)[hT:TabOK P T](hsel':(Region.noSelect ops && qz ops j plan listed)=true)(k:Nat)(plan2:List Nat){oi oj:Oper}{Li Lj:Array Bool}(h0:Ge T ops n z k plan listed l j=some (oi,oj,plan',Li,Lj,l'))(hp2:(gK .any ops plan2 Lj && Nat.beq (ba plan2) (ba plan'))=true)
  (hk1:WL P w0 ops (fun e a w=>gK .any ops plan' Li=true->gm .any ops Li->my P w0 ops Q K0 A z plan' Li e a w) [oi] n l' K hs)
  (hk2:WL P w0 ops (fun e a w=>gK .any ops plan2 Lj=true->gm .any ops Lj->my P w0 ops Q K0 A z plan2 Lj e a w) [oj] n l' K hs):WA P w0 ops Q K0 A z plan listed n l K hs:=by
 simp only[aaJ] at hsel';obtain ⟨hsel,hal⟩:=hsel';unfold Ge at h0
 split at h0
 ·rename_i p o' r L' l2 hh
  split at h0
  ·rename_i oj' hoj;cases hp1:Nat.beq (p % 2) 1 with
   | false=>simp[hp1] at h0
   | true=>
    simp only[hp1,cond_true,aad,aai] at h0;obtain ⟨rfl,rfl,rfl,rfl,rfl,rfl⟩:=h0;obtain ⟨g1,g2⟩:=mD hh;have h1:=(tQ k g1 hp1).2 j;rw[hal] at h1;refine WA.pures hsel k g1 ?_;intro hp hc a w ha hw hl;simp only[gK,aaJ] at hp;obtain ⟨_,h2⟩:=hp;have h1:Region.ready .any ops L'=[p / 2,j]\/Region.ready .any ops L'=[j,p / 2]:=by simpa using h1.symm
    simp only[aaJ] at hp2;have hlen:ba plan2=ba r:=aaM hp2.2;have hne:Region.ready .any ops L'≠[]:=by rcases h1 with h1|h1 <;> rw[h1] <;> simp
    have hmi:p / 2∈Region.ready .any ops L':=by rcases h1 with h1|h1 <;> rw[h1] <;> simp
    have hmj:j∈Region.ready .any ops L':=by rcases h1 with h1|h1 <;> rw[h1] <;> simp
    refine ⟨fun h0=>(hne h0).elim,fun i hi=>?_⟩
    have hij:i=p / 2\/i=j:=by
     grind
    rcases hij with rfl|rfl
    ·exact wn g2 h2 (hc.set hmi)<|hk1 a w ha hw
    have:=wn hoj hp2.1 (hc.set hmj) (hk2 a w ha hw);rw[hlen] at this;exact this
  simp at h0
 simp at h0
def di{L:Array Bool}(hst:L.getD z false=true\/hs.take (ba A)=A/\K0=K)(hk:WA P w0 ops Q K0 A z plan L n l K hs):
  WL P w0 ops (fun e a w=>gK .any ops plan L=true->gm .any ops L->my P w0 ops Q K0 A z plan L e a w) [] n l K hs:=by
 intro a w ha hw;refine wpList_nil fun hp hc=>?_
 have hst':iT z (fo K0 A) L w:=by
  intro hz;rcases hst with h|⟨h1,rfl⟩
  all_goals grind [fo.of]
 exact ⟨hst',hk hp hc a w ha hw hst'⟩
end rules
section rules
variable {P:Program} {T:br} {w0:World} {ops:Array Oper} {Q:Exit->Act->World->Prop} {rest rest':List Oper} {n:Nat} {l l':Sl} {K:PH} {hs:List PH}
def HD(T:br)(ops:Array Oper)(n k:Nat)(rest:List Oper)(l:Sl):Option (Nat×Nat×List (Nat×Value)×List Oper×Sl):=
 match fc T ops n k rest l with
 | some (o,r,l')=>match o.dst,o.op with
  | some d,.build t parts=>match Nat.blt d n,parts.toList.mapM (fun x=>(ev l' x.2).map (fun v=>(x.1,v))) with
   | true,some vs=>some (d,t,vs,r,l')
   | _,_=>none
  | _,_=>none
 | none=>none
def bd[hT:TabOK P T](k:Nat){d t:Nat}{vs:List (Nat×Value)}(v:Value)(h0:HD T ops n k rest l=some (d,t,vs,rest',l'))(hv:∀ w,(Instr.build t vs.toArray).run P w=.ok v w)
  (hk:WL P w0 ops Q rest' n ((d,v)::l') K hs):WL P w0 ops Q rest n l K hs:=by
 unfold HD at h0
 split at h0
 ·rename_i o r l2 ho
  split at h0
  ·rename_i d' t' parts hd hop
   split at h0
   ·rename_i vs' hb hvs;simp only[aad,aai] at h0;obtain ⟨rfl,rfl,rfl,rfl,rfl⟩:=h0;refine WL.at' ho fun hg=>WL.val (R:=fun u K' hs'=>u=v/\K'=K/\hs'=hs) hd hb hg (fun A w ha hw=>⟨v,w,K,hs,?_,hw,I,I,I⟩) ?_
    ·have h6:=uu ha _ _ hvs
     have h7:(parts.map fun (i,x)=>(i,A.eval x))=vs'.toArray:=by
      apply Array.ext'
      simpa using h6
     simp_all [execOp]
    rintro u K' hs' ⟨rfl,rfl,rfl⟩;exact hk
   simp at h0
  simp at h0
 simp at h0
def vi(T:br)(ops:Array Oper)(n k:Nat)(rest:List Oper)(l:Sl):Option (Nat×Addr×Array Value×List Oper×Sl):=
 match fc T ops n k rest l with
 | some (o,r,l')=>match o.dst,o.op with
  | none,.store t x y=>match ev l' x,ev l' y with
   | some (.pointer (some a)),some (.agg cs)=>some (t,a,cs,r,l')
   | _,_=>none
  | _,_=>none
 | none=>none
def sts[hT:TabOK P T](k i:Nat){t b off ty:Nat}{c cs:Array Value}(h0:vi T ops n k rest l=some (t,⟨b,off,none⟩,cs,rest',l'))(hi:hs[i]?=some (pt b c ty))(hsz:(P.info? t).map (·.size)=some cs.size)
  (hf:off+cs.size<=c.size) (h1:∀ v∈cs.toList,v.oneCell'=true)
  (hk:WL P w0 ops Q rest' n l' K (hs.set i (pt b (c.toList.take off++cs.toList++c.toList.drop (off+ba cs.toList)).toArray ty))):WL P w0 ops Q rest n l K hs:=by
 unfold vi at h0
 split at h0
 ·rename_i o r l2 ho
  split at h0
  ·rename_i t' x y hd hop
   split at h0
   ·rename_i a' cs' hx hy;simp only[aad,aai] at h0;obtain ⟨rfl,rfl,rfl,rfl,rfl⟩:=h0;refine WL.at' ho fun hg=>WL.skp hd hg (fun A w ha hw=>⟨_,?_,hw.setRow hi _⟩) hk;have hb:w.heap[b]?=some (.cells c ty (0,0)):=hw.own i _ hi b _ ST;have h2:=run_storeCells_at P b off ty cs'.toList 0 c w hb qo h1;simp only[aa7] at h2;obtain ⟨ii,hii,hs'⟩:=abY.1 hsz;simp only[execOp,hop,ha.ev hx,ha.ev hy]
    simp_all [Instr.storeAt,Instr.sureAddr,storeVar,sizeOf,typeInfo,Value.cells]
   simp at h0
  simp at h0
 simp at h0
def vr(T:br)(ops:Array Oper)(n k:Nat)(rest:List Oper)(l:Sl):Option (Nat×Nat×Addr×List Oper×Sl):=
 match fc T ops n k rest l with
 | some (o,r,l')=>match o.dst,o.op with
  | some d,.load t x=>match Nat.blt d n,ev l' x with
   | true,some (.pointer (some a))=>some (d,t,a,r,l')
   | _,_=>none
  | _,_=>none
 | none=>none
def jV(P:Program)(t m:Nat):Bool:=(match P.underlying t with|some (.struct _)=>true|some (.array _ _)=>true|_=>false) && (match P.info? t with|some i=>i.size == m|none=>false)
def tM{w:World}{t m:Nat}{a:Addr}{cs:List Value}(hm:jV P t m=true)(hl:ba cs=m)(hc:∀ (j:Nat) v,cs[j]?=some v->w.cell? (a.add j)=some v):(Instr.loadAt t (.pointer (some a))).run P w=.ok (.agg cs.toArray) w:=by
 unfold jV at hm;simp only[aaJ] at hm;obtain ⟨h1,h2⟩:=hm;cases hu:P.underlying t with
 | none=>simp[hu] at h1
 | some d=>
  cases hi:P.info? t with
  | none=>simp[hi] at h2
  | some i=>
   have h3:i.size=m:=by simpa[hi] using h2
   have hagg:(isAgg t).run P w=.ok true w:=by
    cases d <;> simp[hu] at h1 <;> simp[isAgg,run_underlying hu]
   have h4:=run_loadCells_list (P:=P) (w:=w) a cs hc
   simp_all [Instr.loadAt,Instr.sureAddr,loadVar,sizeOf,typeInfo]
def eD[hT:TabOK P T](k:Nat){d t:Nat}{a:Addr}{h:PH}(cs:List Value)(h0:vr T ops n k rest l=some (d,t,a,rest',l'))(hm:jV P t (ba cs)=true)(hin:In K hs h)(hc:∀ (j:Nat) v,cs[j]?=some v->bR h (a.add j) v)
  (hk:WL P w0 ops Q rest' n ((d,.agg cs.toArray)::l') K hs):WL P w0 ops Q rest n l K hs:=by
 unfold vr at h0
 split at h0
 ·rename_i o r l2 ho
  split at h0
  ·rename_i d' t' x hd hop
   split at h0
   ·rename_i a' hb hx;simp only[aad,aai] at h0;obtain ⟨rfl,rfl,rfl,rfl,rfl⟩:=h0;refine WL.at' ho fun hg=>WL.val (R:=fun u K' hs'=>u=.agg cs.toArray/\K'=K/\hs'=hs) hd hb hg (fun A w ha hw=>⟨_,w,K,hs,?_,hw,I,I,I⟩) ?_
    ·have h2:=tM (P:=P) (w:=w) hm rfl (fun j v hv=>hw.cell hin (hc j v hv));simp only[execOp,hop,ha.ev hx];simp[h2]
    rintro u K' hs' ⟨rfl,rfl,rfl⟩;exact hk
   simp at h0
  simp at h0
 simp at h0
def mI{b off:Nat}{c:Array Value}{ty:Nat}{fr:Nat×Nat}(cs:List Value)(h:∀ (j:Nat) v,cs[j]?=some v->c[off+j]?=some v):∀ (j:Nat) v,cs[j]?=some v->bR (pt b c ty fr) ((⟨b,off,none⟩:Addr).add j) v:=by
 simp_all [bz,bR.pt]
def Hf(T:br)(ops:Array Oper)(n k:Nat)(rest:List Oper)(l:Sl):Option (Nat×Nat×(Nat×Nat×Nat×Nat)×List Oper×Sl):=
 match fc T ops n k rest l with
 | some (o,r,l')=>match o.dst,o.op with
  | some d,.convert t t' x=>match Nat.blt d n,Nat.beq t t',ev l' x with
   | true,true,some (.slice (some a) m c)=>some (d,t,(a.block,a.off,m,c),r,cond a.spot.isNone l' [])
   | _,_,_=>none
  | _,_=>none
 | none=>none
def aY.remark{w w':World}(s:aY w0 w K hs){i b:Nat}{c:Array Value}{ty:Nat}{fr fr':Nat×Nat}(hi:hs[i]?=some (pt b c ty fr))(h1:w'.heap[b]?=some (.cells c ty fr'))(h2:∀ k,k≠b->w'.heap[k]?=w.heap[k]?)
  (hos:w'.os=w.os) (htp:w'.tape=w.tape) (hout:w'.output=w.output) (hsz:w'.heap.size=w.heap.size):aY w0 w' K (hs.set i (pt b c ty fr')):=by
 refine s.upd hi hos htp hout qo ?_ ?_ ?_
 all_goals grind
def mk[hT:TabOK P T](k i:Nat){d t b off m cc ty:Nat}{c:Array Value}(h0:Hf T ops n k rest l=some (d,t,(b,off,m,cc),rest',l'))(hl:l'≠[])(hi:hs[i]?=some (pt b c ty))(hu:∃ e,P.underlying t=some (.slice e)/\P.underlying e=some (.int .u8))
  (hk:WL P w0 ops Q rest' n ((d,.slice (some ⟨b,off,none⟩) m cc)::l') K (hs.set i (pt b c ty (c.size,c.size+1)))):WL P w0 ops Q rest n l K hs:=by
 unfold Hf at h0
 split at h0
 ·rename_i o r l2 ho
  split at h0
  ·rename_i d' t1 t2 x hd hop
   split at h0
   ·rename_i a m' c' hb htt hx;simp only[aad,aai] at h0;obtain ⟨rfl,rfl,⟨rfl,rfl,rfl,rfl⟩,rfl,hl2⟩:=h0;obtain ⟨ab,ao,asp⟩:=a;cases asp with
    | some q=>simp at hl2;first|exact absurd hl2 hl|exact absurd hl2.symm hl
    | none=>
     simp only[Option.isNone_none,cond_true] at hl2;subst hl2;obtain rfl:t1=t2:=aaM htt;obtain ⟨e,hu1,hu2⟩:=hu;refine WL.at' ho fun hg=>WL.val (R:=fun u K' hs'=>u=.slice (some ⟨ab,ao,none⟩) m' c'/\K'=K/\hs'=hs.set i (pt ab c ty (c.size,c.size+1))) hd hb hg (fun A w ha hw=>?_) ?_
     ·have hbk:w.heap[ab]?=some (.cells c ty (0,0)):=hw.own i _ hi ab _ ST;refine ⟨_,w.freeze ⟨ab,c.size,none⟩ 1,K,_,?_,hw.remark hi (fr':=(c.size,c.size+1)) ?_ ?_ I I I ?_,I,I,I⟩
      ·simp only[execOp,hop,ha.ev hx];simp[convert,run_underlying hu1,run_underlying hu2,markStringish,shape,World.shape?,hbk,freeze,Sem.run]
      all_goals simp_all [Array.getElem?_modify,Ne.symm,World.freeze]
     rintro u K' hs' ⟨rfl,rfl,rfl⟩;exact hk
   simp at h0
  simp at h0
 simp at h0
def G9(T:br)(ops:Array Oper)(n k:Nat)(rest:List Oper)(l:Sl):Option (Nat×BinOp×IntKind×Int×Int×List Oper×Sl):=
 match fc T ops n k rest l with
 | some (o,r,l')=>match o.dst,o.op with
  | some d,.binOp op _ x y _=>match Nat.blt d n,ev l' x,ev l' y with
   | true,some (.int kd a),some (.int _ b)=>some (d,op,kd,a,b,r,l')
   | _,_,_=>none
  | _,_=>none
 | none=>none
def pW[hT:TabOK P T](k:Nat){d:Nat}{op:BinOp}{kd:IntKind}{a b:Int}{v':Value}(h0:G9 T ops n k rest l=some (d,op,kd,a,b,rest',l'))(hb:0<=b)
  (he:op=.shl/\Value.int kd (kd.wrap (a*2 ^ (min b.toNat kd.bits)))=v'\/op=.shr/\Value.int kd (a.fdiv (2 ^ (min b.toNat kd.bits)))=v')
  (hk:WL P w0 ops Q rest' n ((d,v')::l') K hs):WL P w0 ops Q rest n l K hs:=by
 unfold G9 at h0
 split at h0
 ·rename_i o r l2 ho
  split at h0
  ·rename_i d' op' t x y t2 hd hop
   split at h0
   ·rename_i kd' a' kb b' hblt hx hy;simp only[aad,aai] at h0;obtain ⟨rfl,rfl,rfl,rfl,rfl,rfl,rfl⟩:=h0
    have hpb:jP T l2 o.op=some v':=by
     rw[hop];simp only[jP,hx,hy];rcases he with ⟨rfl,he⟩|⟨rfl,he⟩
     all_goals simp_all [n8]
    grind [WL.at',WL.pure1]
   simp at h0
  simp at h0
 simp at h0
end rules
def str(xs:List UInt8):Value:=.string ⟨xs.toArray⟩
def IX(xs:List UInt8):(⟨xs.toArray⟩:ByteArray).toList=xs:=by simp
def qN(P:Program)(t t':Nat):Bool:=(match P.underlying t with|some (.slice e)=>(match P.underlying e with|some (.int .u8)=>true|_=>false)|_=>false) && (match P.underlying t' with|some .string=>true|_=>false)
def BW{P:Program}{w:World}{t t' n c:Nat}{ao:Option Addr}(hs:qN P t t'=true)(xs:List UInt8)(hl:ba xs=n)
  (hx:∀ (j:Nat) u,((xs.map fun b=>Value.int .u8 b.toNat))[j]?=some u->∃ a,ao=some a/\w.cell? (a.add j)=some u):(convert t t' (.slice ao n c)).run P w=.ok (str xs) w:=by
 unfold qN at hs;simp only[aaJ] at hs;obtain ⟨h1,h2⟩:=hs;cases e1:P.underlying t with
 | none=>simp[e1] at h1
 | some d1=>
  cases d1 <;> simp[e1] at h1;rename_i e;cases e2:P.underlying e with
  | none=>simp[e2] at h1
  | some d2=>
   cases d2 <;> simp[e2] at h1;rename_i kd;cases kd <;> simp at h1;cases e3:P.underlying t' with
   | none=>simp[e3] at h2
   | some d3=>
    cases d3 <;> simp[e3] at h2;rw[run_convert_bytes_string w t t' e _ n c e1 e2 e3];cases ao with
    | none=>
     have:xs=[]:=by
      cases xs with
      | nil=>rfl
      | cons x r=>obtain ⟨a,h,_⟩:=hx 0 _ rfl;cases h
     subst this
     rfl
    | some a=>
     have hld:(loadCells a n).run P w=.ok ((xs.map fun b=>((b.toNat:Nat):Int)).map (Value.int .u8)).toArray w:=by
      have:=run_loadCells_list (P:=P) w a (xs.map fun b=>Value.int .u8 b.toNat) (fun j v hj=>by
       grind)
      simpa[hl,Function.comp_def] using this
     rw[run_bytesToString w a n c _ hld,foldl_push_bytes];simp[str,ByteArray.empty,ByteArray.emptyWithCapacity,Function.comp_def]
     try rfl
section rules
variable {P:Program} {T:br} {w0:World} {ops:Array Oper} {Q:Exit->Act->World->Prop} {rest rest':List Oper} {n:Nat} {l l':Sl} {K:PH} {hs:List PH}
def Hx(T:br)(ops:Array Oper)(n k:Nat)(rest:List Oper)(l:Sl):Option (Nat×Nat×Nat×(Option Addr×Nat×Nat)×List Oper×Sl):=
 match fc T ops n k rest l with
 | some (o,r,l')=>match o.dst,o.op with
  | some d,.convert t t' x=>match Nat.blt d n,ev l' x with
   | true,some (.slice ao m c)=>some (d,t,t',(ao,m,c),r,l')
   | _,_=>none
  | _,_=>none
 | none=>none
def p6[hT:TabOK P T](k:Nat){d t t' m c:Nat}{ao:Option Addr}{h:PH}(xs:List UInt8)(h0:Hx T ops n k rest l=some (d,t,t',(ao,m,c),rest',l'))(hin:In K hs h)
  (x:aH h ao m c 1 (xs.map fun b=>Value.int .u8 b.toNat)) (hs':qN P t t'=true)
  (hk:WL P w0 ops Q rest' n ((d,str xs)::l') K hs):WL P w0 ops Q rest n l K hs:=by
 unfold Hx at h0
 split at h0
 ·rename_i o r l2 ho
  split at h0
  ·rename_i d' t1 t2 y hd hop
   split at h0
   ·rename_i ao' m' c' hb hx;simp only[aad,aai] at h0;obtain ⟨rfl,rfl,rfl,⟨rfl,rfl,rfl⟩,rfl,rfl⟩:=h0;refine WL.at' ho fun hg=>WL.val (R:=fun u K' hs'=>u=str xs/\K'=K/\hs'=hs) hd hb hg (fun A w ha hw=>⟨str xs,w,K,hs,?_,hw,I,I,I⟩) ?_
    ·have h2:=BW (P:=P) (w:=w) (c:=c') hs' xs (by have:=x.1;simpa using this) (fun j u hj=>by
      obtain ⟨a,h3,h4⟩:=x.2.2 j u hj;exact ⟨a,h3,hw.cell hin h4⟩)
     simp only[execOp,hop,ha.ev hx];simp[h2]
    rintro u K' hs' ⟨rfl,rfl,rfl⟩;exact hk
   simp at h0
  simp at h0
 simp at h0
def dy[hT:TabOK P T](k i:Nat){d t b ty:Nat}{c:Array Value}{fr:Nat×Nat}(h0:vr T ops n k rest l=some (d,t,⟨b,0,none⟩,rest',l'))(hi:hs[i]?=some (pt b c ty fr))(hm:jV P t c.size=true)
  (hk:WL P w0 ops Q rest' n ((d,.agg c)::l') K hs):WL P w0 ops Q rest n l K hs:=
 eD k c.toList h0 qo (.inr ⟨i,hi⟩) (mI _ fun j v h=>by simpa using h) (by simpa using hk)
def bJ[hT:TabOK P T](k i:Nat){t b ty:Nat}{c cs:Array Value}(h0:vi T ops n k rest l=some (t,⟨b,0,none⟩,cs,rest',l'))(hi:hs[i]?=some (pt b c ty))(hsz:(P.info? t).map (·.size)=some cs.size)
  (hf:cs.size=c.size) (h1:cs.toList.all (·.oneCell')=true) (hk:WL P w0 ops Q rest' n l' K (hs.set i (pt b cs ty))):WL P w0 ops Q rest n l K hs:=by
 refine sts k i h0 hi hsz qo (fun v hv=>(aa6.1 h1) v hv) ?_
 have e:(c.toList.take 0++cs.toList++c.toList.drop (0+ba cs.toList)).toArray=cs:=by
  grind
 rw[e];exact hk
end rules
section open_
variable {P:Program} {T:br} {w0:World} {ops:Array Oper} {Q:Exit->Act->World->Prop} {plan plan':List Nat} {z:Nat} {listed listed':Array Bool} {n:Nat} {l l':Sl} {K K0:PH} {hs A:List PH}
theorem zf{md:Region.Mode}{q:Act->World->Prop}{S S':Array Bool->World->Prop}(h:∀ L w,S' L w->S L w):∀ (f:Nat) (L:Array Bool) (a:Act) (w:World),tr P md ops q S' f L a w->tr P md ops q S f L a w
 | 0,_,_,_,hh=>hh
 | f+1,_,_,_,hh=>⟨hh.1,fun i hi=>wpOp_mono (fun a' w' h'=>⟨h _ _ h'.1,zf h f _ a' w' h'.2⟩) (hh.2 i hi)⟩
def fo.ofMem{w0 w:World}{K:PH}{hs A:List PH}(s:aY w0 w K hs)(hA:∀ h∈A,h∈hs):fo K A w:=
 ⟨s.imm,fun h hm b o hb=>s.block (.inr (abU (hA h hm))) hb⟩
def nb{L:Array Bool}(A':List PH)(hA:∀ h∈A',h∈hs)(hAA:∀ h∈A,h∈A')(hK:K0=K)(hk:WA P w0 ops Q K A' z plan L n l K hs):
  WL P w0 ops (fun e a w=>gK .any ops plan L=true->gm .any ops L->my P w0 ops Q K0 A z plan L e a w) [] n l K hs:=by
 subst hK;intro a w ha hw;refine wpList_nil fun hp hc=>?_;have up:∀ L w,iT z (fo K0 A') L w->iT z (fo K0 A) L w:=fun L w h hz=>⟨(h hz).1,fun x hx=>(h hz).2 x (hAA x hx)⟩;have hst:iT z (fo K0 A') L w:=fun _=>fo.ofMem hw hA;exact ⟨up _ _ hst,zf up _ _ _ _ (hk hp hc a w ha hw hst)⟩
def bp{L:Array Bool}(hA:∀ h∈A,h∈hs)(hK:K0=K)(hk:WA P w0 ops Q K A z plan L n l K hs):
  WL P w0 ops (fun e a w=>gK .any ops plan L=true->gm .any ops L->my P w0 ops Q K0 A z plan L e a w) [] n l K hs:=nb A hA (fun _ h=>h) hK hk
def bI{id:Nat}{o:List Oper}(A:List PH)(z:Nat)(plan:List Nat)(hA:∀ h∈A,h∈hs)(hm:P.follows .mixedOrders=true)(hp:(gK .any o.toArray plan (Array.replicate o.toArray.size false) && Nat.beq (ba plan) o.toArray.size)=true)
  (h:WA P w0 o.toArray Q K A z plan (Array.replicate o.toArray.size false) n l K hs):WC P w0 (.region id o.toArray true) Q n l K hs:=by
 intro a w ha hw;simp only[aaJ] at hp;refine wp_region_any hm ?_;have hlen:ba plan=o.toArray.size:=aaM hp.2;have hw':aY w0 { w with drawn:=w.drawn+1 } K hs:=hw.drew
 have hc:gm .any o.toArray (Array.replicate o.toArray.size false):=by
  refine ⟨ST,?_⟩
  grind [getD_replicate_false]
 have hh:=h hp.1 hc a { w with drawn:=w.drawn+1 } ha hw' (fun _=>fo.ofMem hw' hA);rw[hlen] at hh;refine yp (q:=Q .normal) (fun e a w h=>?_) _ _ _ _ hh;cases e <;> first|exact h|exact h.elim
end open_
section ret
variable {P:Program} {w0:World} {fn:Func} {R:Value->PH->List PH->Prop} {n:Nat} {l:Sl} {K:PH} {hs:List PH}
def rE{w:World}{t m:Nat}{a:Addr}{cs:List Value}(hm:jV P t m=true)(hl:ba cs=m)(hc:∀ (j:Nat) v,cs[j]?=some v->w.cell? (a.add j)=some v):(loadVar t a).run P w=.ok (.agg cs.toArray) w:=by
 have:=tM (P:=P) hm hl hc
 simp_all [Instr.loadAt,Instr.sureAddr]
theorem aY.dropN{w w0:World}:∀ (m:Nat) {hs:List PH},aY w0 w K hs->aY w0 w K (hs.drop m)
 | 0,_,s=>s
 | _+1,[],s=>s
 | m+1,_::r,s=>aY.dropN m s.dropHead
def mT(i m:Nat){t ty u b ty':Nat}{x:Value}{c:Array Value}{fr:Nat×Nat}(hr:fn.results=#[.cell t ty,.tmp u])(hv:look l t=some (SX b))(hx:look l u=some x)(hi:hs[i]?=some (pt b c ty' fr))(hm:jV P ty c.size=true)
  (hk:R (.tuple #[.agg c,x]) K (hs.drop m)):WQ w0 (bodyPost P fn (fK w0 R)) .ret n l K hs:=
 fun _ w ha hw=>bodyPost_ret (v:=.tuple #[.agg c,x]) (by
  have h2:=rE (P:=P) (w:=w) (t:=ty) (a:=⟨b,0,none⟩) (cs:=c.toList) qo rfl (fun j v hv=>hw.cell (.inr ⟨i,hi⟩) (mI c.toList (fun j v h=>by simpa using h) j v hv));have e:c.toList.toArray=c:=by simp
  rw[e] at h2;simp[results,hr,ha.slot t _ hv,ha.slot u x hx,asAddr,h2]) ha.defers ⟨_,_,_,rfl,hk,hw.dropN m⟩
end ret
section open_
variable {P:Program} {T:br} {w0:World} {ops:Array Oper} {Q:Exit->Act->World->Prop} {plan plan':List Nat} {z:Nat} {listed listed':Array Bool} {n:Nat} {l l':Sl} {K K0:PH} {hs A:List PH}
def G1(T:br)(ops:Array Oper)(n z k:Nat)(plan:List Nat)(L:Array Bool)(l:Sl):Option (Nat×Oper×eU×(Option Addr×Nat×Nat)×Int×List Nat×Array Bool×Sl):=
 match mV T ops n z k plan L l with
 | some (d,o,r,L',l')=>match o.op with
  | .indexAddr t x i=>match asc T.sls t,ev l' x,ev l' i with
   | some si,some (.slice a1 n1 c1),some (.int _ j)=>some (d,o,si,(a1,n1,c1),j,r,L',l')
   | _,_,_=>none
  | _=>none
 | none=>none
def bh[hT:TabOK P T](hsel:Region.noSelect ops=true)(k:Nat){d:Nat}{o:Oper}{si:eU}{a:Addr}{n1 c1:Nat}{i:Int}(j:Nat)
  (h0:G1 T ops n z k plan listed l=some (d,o,si,(some a,n1,c1),i,plan',listed',l')) (hj:i=(j:Int)) (hjn:j<n1)
  (hk:WA P w0 ops Q K0 A z plan' listed' n ((d,.pointer (some (a.add (j*si.size))))::l') K hs):WA P w0 ops Q K0 A z plan listed n l K hs:=by
 unfold G1 at h0
 split at h0
 ·rename_i d' o' r L' l2 hh
  split at h0
  ·rename_i t x' i' hop
   split at h0
   ·rename_i si' a1 m1 k1 kk jj hsi hx hi;simp only[aad,aai] at h0;obtain ⟨rfl,rfl,rfl,⟨rfl,rfl,rfl⟩,rfl,rfl,rfl,rfl⟩:=h0;subst hj;obtain ⟨g1,ii,g2,g3,g4,g5⟩:=hT.sl hsi;refine nR hsel k hh (fun A w ha=>?_) hk;simp only[execOp,hop,ha.ev hx,ha.ev hi];simp[Instr.indexAt,asIntOf,run_underlying g1,sizeOf,typeInfo,g2,g4,hjn]
   simp at h0
  simp at h0
 simp at h0
def n9(T:br)(ops:Array Oper)(n z k:Nat)(plan:List Nat)(L:Array Bool)(l:Sl):Option (Nat×Nat×Addr×List Nat×Array Bool×Sl):=
 match mN T ops n z k plan L l with
 | some (p,o,r,L',l')=>match Nat.beq (p % 2) 0,Nat.beq (p / 2) z,ib ops l' o.guard,o.dst,o.op with
  | true,false,some true,some d,.load t x=>match Nat.blt d n,asc T.kinds t,ev l' x with
   | true,some kd,some (.pointer (some a))=>cond kd.one (some (p,d,a,r,L'.setIfInBounds (p / 2) true,l')) none
   | _,_,_=>none
  | _,_,_,_,_=>none
 | none=>none
def zr[hT:TabOK P T](hsel:Region.noSelect ops=true)(k:Nat){p d:Nat}{a:Addr}{v:Value}{h:PH}(h0:n9 T ops n z k plan listed l=some (p,d,a,plan',listed',l'))(hwf:cond (Nat.blt z ops.size) (Region.waitsFor .any ops z (p / 2)) true=true)(hm:In K0 A h)(hc:bR h a v)
  (hk:WA P w0 ops Q K0 A z plan' listed' n ((d,v)::l') K hs):WA P w0 ops Q K0 A z plan listed n l K hs:=by
 unfold n9 at h0
 split at h0
 ·rename_i p' o r L' l2 hh
  split at h0
  ·rename_i dd t x hp hz hg hd hop
   split at h0
   ·rename_i kd a' hb hkd hx;cases h1:kd.one with
    | false=>simp[h1] at h0
    | true=>
     simp only[h1,cond_true,aad,aai] at h0;obtain ⟨rfl,rfl,rfl,rfl,rfl,rfl⟩:=h0;obtain ⟨g1,g2⟩:=mD hh;refine WA.pures hsel k g1 ?_;have hp2:p'=2*(p' / 2):=by have:=aaM hp;omega
     rw[hp2];refine WA.look g2 hsel hz hd hb (fun A' ha=>.inl ⟨jl ha hg,fun w hw=>?_⟩) hk;obtain ⟨L,hcl,hun,hst⟩:=hw;have hcell:=(hst (qb hcl hun hwf)).cell hm hc;have h2:=rR (P:=P) hkd h1 hcell;simp only[execOp,hop,ha.ev hx];simp[h2]
   simp at h0
  simp at h0
 simp at h0
def dC[hT:TabOK P T](hsel:Region.noSelect ops=true)(k i:Nat){p d b off ty:Nat}{v:Value}{c:Array Value}{fr:Nat×Nat}(h0:n9 T ops n z k plan listed l=some (p,d,⟨b,off,none⟩,plan',listed',l'))(hwf:cond (Nat.blt z ops.size) (Region.waitsFor .any ops z (p / 2)) true=true)
  (hi:A[i]?=some (pt b c ty fr)) (hv:c[off]?=some v) (hk:WA P w0 ops Q K0 A z plan' listed' n ((d,v)::l') K hs):WA P w0 ops Q K0 A z plan listed n l K hs:=
 zr hsel k h0 hwf (.inr ⟨i,hi⟩) (bR.pt hv) hk
def sT(T:br)(ops:Array Oper)(n z k:Nat)(plan:List Nat)(L:Array Bool)(l:Sl):Option (Nat×Nat×Nat×Addr×List Nat×Array Bool×Sl):=
 match mN T ops n z k plan L l with
 | some (p,o,r,L',l')=>match Nat.beq (p % 2) 0,Nat.beq (p / 2) z,ib ops l' o.guard,o.dst,o.op with
  | true,false,some true,some d,.load t x=>match Nat.blt d n,ev l' x with
   | true,some (.pointer (some a))=>some (p,d,t,a,r,L'.setIfInBounds (p / 2) true,l')
   | _,_=>none
  | _,_,_,_,_=>none
 | none=>none
def ja[hT:TabOK P T](hsel:Region.noSelect ops=true)(k i:Nat){p d t b ty:Nat}{c:Array Value}{fr:Nat×Nat}(h0:sT T ops n z k plan listed l=some (p,d,t,⟨b,0,none⟩,plan',listed',l'))(hwf:cond (Nat.blt z ops.size) (Region.waitsFor .any ops z (p / 2)) true=true)
  (hi:A[i]?=some (pt b c ty fr)) (hm:jV P t c.size=true) (hk:WA P w0 ops Q K0 A z plan' listed' n ((d,.agg c)::l') K hs):WA P w0 ops Q K0 A z plan listed n l K hs:=by
 unfold sT at h0
 split at h0
 ·rename_i p' o r L' l2 hh
  split at h0
  ·rename_i dd t' x hp hz hg hd hop
   split at h0
   ·rename_i a' hb hx;simp only[aad,aai] at h0;obtain ⟨rfl,rfl,rfl,rfl,rfl,rfl,rfl⟩:=h0;obtain ⟨g1,g2⟩:=mD hh;refine WA.pures hsel k g1 ?_;have hp2:p'=2*(p' / 2):=by have:=aaM hp;omega
    rw[hp2];refine WA.look g2 hsel hz hd hb (fun A' ha=>.inl ⟨jl ha hg,fun w hw=>?_⟩) hk;obtain ⟨L,hcl,hun,hst⟩:=hw;have h2:=tM (P:=P) (w:=w) (t:=t') (a:=⟨b,0,none⟩) (cs:=c.toList) qo rfl (fun j v hv=>(hst (qb hcl hun hwf)).cell (.inr ⟨i,hi⟩) (mI c.toList (fun j v h=>by simpa using h) j v hv));have e:c.toList.toArray=c:=by simp
    rw[e] at h2;simp only[execOp,hop,ha.ev hx];simp[h2]
   simp at h0
  simp at h0
 simp at h0
end open_
section join
variable {P:Program} {w0:World} {Q:Exit->Act->World->Prop} {n:Nat} {l:Sl} {K:PH} {hs:List PH}
def JQ(w0:World){σ:Type}(F:σ->Sl)(HK:PH)(H:σ->List PH)(J:σ->Prop)(n:Nat)(Q:Exit->Act->World->Prop):Exit->Act->World->Prop
 | .normal,a,w=>∃ s,J s/\Ag n (F s) a/\aY w0 w HK (H s)
 | e,a,w=>Q e a w
def jn{σ:Type}{x y:Code}(F:σ->Sl)(H:σ->List PH)(J:σ->Prop)(h1:WC P w0 x (JQ w0 F K H J n Q) n l K hs)(h2:∀ s,J s->WC P w0 y Q n (F s) K (H s)):WC P w0 (.seq x y) Q n l K hs:=
 sq fun a w ha hw=>Code.wp_mono (fun e a w h=>by
  cases e with
  | normal=>obtain ⟨s,hJ,ha,hw⟩:=h;exact h2 s hJ a w ha hw
  | _=>exact h) (h1 a w ha hw)
def jx{σ:Type}{F:σ->Sl}{HK:PH}{H:σ->List PH}{J:σ->Prop}(s:σ)(hJ:J s)(hF:lh l (F s))(hK:K=HK)(hH:hs=H s):WQ w0 (JQ w0 F HK H J n Q) .normal n l K hs:=
 fun a w ha hw=>⟨s,hJ,ha.sub hF,by rw[<-hK,<-hH];exact hw⟩
def jr{σ:Type}{F:σ->Sl}{HK:PH}{H:σ->List PH}{J:σ->Prop}(h:WQ w0 Q .ret n l K hs):WQ w0 (JQ w0 F HK H J n Q) .ret n l K hs:=h
def je{σ:Type}{F:σ->Sl}{HK:PH}{H:σ->List PH}{J:σ->Prop}{i:Nat}(h:WQ w0 Q (.exit i) n l K hs):WQ w0 (JQ w0 F HK H J n Q) (.exit i) n l K hs:=h
end join
def Le(K K':PH):Prop:=∀ b o,K b=some o->K' b=some o
def Le.refl(K:PH):Le K K:=fun _ _ h=>h
def Le.trans{A B C:PH}(h:Le A B)(g:Le B C):Le A C:=fun b o x=>g b o (h b o x)
def bR.le{h h':PH}(l:Le h h'){a:Addr}{v:Value}(c:bR h a v):bR h' a v:=by
 obtain ⟨h1,cs,ty,fr,h2,h3⟩:=c;exact ⟨h1,cs,ty,fr,l _ _ h2,h3⟩
theorem aH.le{h h':PH}(l:Le h h'){ao:Option Addr}{n cap size:Nat}{xs:List Value}(x:aH h ao n cap size xs):aH h' ao n cap size xs:=
 ⟨x.1,x.2.1,fun j u hu=>by obtain ⟨a,h1,h2⟩:=x.2.2 j u hu;exact ⟨a,h1,h2.le l⟩⟩
def un(K h:PH):PH:=fun b=>match K b with|some o=>some o|none=>h b
def aY.frz{w0 w:World}{K h:PH}{hs:List PH}(s:aY w0 w K (h::hs)):Le K (un K h)/\Le h (un K h)/\aY w0 w (un K h) hs:=by
 have hap:∀ b o,h b=some o->K b=none:=fun b o hb=>s.apart 0 h rfl b o hb;refine ⟨fun b o hb=>by simp[un,hb],fun b o hb=>by simp[un,hap b o hb,hb],⟨s.os,s.tape,s.output,s.size,?_,s.dropHead.own,?_,s.dropHead.sep⟩⟩
 ·intro b o hb;unfold un at hb;cases hk:K b with
  | some x=>rw[hk] at hb;cases hb;exact s.imm b _ hk
  | none=>rw[hk] at hb;exact s.own 0 h I b o hb
 intro i g hg b o hb;have h1:=s.dropHead.apart i g hg b o hb;have h2:=s.sep (i+1) 0 g h (by simpa using hg) rfl qo b o hb;simp[un,h1,h2]
def aY.weak{w0 w:World}{K K':PH}{hs:List PH}(l:Le K K')(s:aY w0 w K' hs):aY w0 w K hs:=by
 refine ⟨s.os,s.tape,s.output,s.size,fun b o hb=>s.imm b o (l b o hb),s.own,fun i h hi b o hb=>?_,s.sep⟩;have:=s.apart i h hi b o hb;cases hk:K b with
 | none=>rfl
 | some x=>rw[l b x hk] at this;cases this
section frz
variable {P:Program} {w0:World} {ops:Array Oper} {Q:Exit->Act->World->Prop} {rest:List Oper} {n:Nat} {l:Sl} {K h:PH} {hs:List PH} {c:Code} {e:Exit}
theorem WL.frz(hk:∀ K',Le K K'->Le h K'->WL P w0 ops Q rest n l K' hs):WL P w0 ops Q rest n l K (h::hs):=fun a w ha hw=>by
 obtain ⟨h1,h2,h3⟩:=hw.frz;exact hk _ h1 h2 a w ha h3
theorem WC.frz(hk:∀ K',Le K K'->Le h K'->WC P w0 c Q n l K' hs):WC P w0 c Q n l K (h::hs):=fun a w ha hw=>by
 obtain ⟨h1,h2,h3⟩:=hw.frz;exact hk _ h1 h2 a w ha h3
theorem WQ.frz(hk:∀ K',Le K K'->Le h K'->WQ w0 Q e n l K' hs):WQ w0 Q e n l K (h::hs):=fun a w ha hw=>by
 obtain ⟨h1,h2,h3⟩:=hw.frz;exact hk _ h1 h2 a w ha h3
theorem WQ.weak{K':PH}(le:Le K K')(hk:WQ w0 Q e n l K hs):WQ w0 Q e n l K' hs:=fun a w ha hw=>hk a w ha (hw.weak le)
def In.le{K K':PH}{hs:List PH}{x:PH}(hm:In K hs x)(l:Le K K'):∃ y,In K' hs y/\Le x y:=by
 rcases hm with rfl|h
 ·exact ⟨K',.inl I,l⟩
 exact ⟨x,.inr h,Le.refl _⟩
end frz
section rules
variable {P:Program} {T:br} {w0:World} {ops:Array Oper} {Q:Exit->Act->World->Prop} {rest rest':List Oper} {n:Nat} {l l':Sl} {K:PH} {hs:List PH}
def gB(T:br)(ops:Array Oper)(n k:Nat)(rest:List Oper)(l:Sl):Option (Nat×Oper×List Oper×Sl):=
 match fc T ops n k rest l with
 | some (o,r,l')=>match o.dst with
  | some d=>cond (Nat.blt d n) (some (d,o,r,l')) none
  | none=>none
 | none=>none
def R7[hT:TabOK P T](k:Nat){d:Nat}{o:Oper}{v:Value}(h0:gB T ops n k rest l=some (d,o,rest',l'))(hv:∀ a w,Ag n l' a->(execOp a.eval o).run P w=.ok (.value v) w)
  (hk:WL P w0 ops Q rest' n ((d,v)::l') K hs):WL P w0 ops Q rest n l K hs:=by
 unfold gB at h0
 split at h0
 ·rename_i o' r l2 ho
  split at h0
  ·rename_i d' hd;cases hb:Nat.blt d' n with
   | false=>simp[hb] at h0
   | true=>
    simp only[hb,cond_true,aad,aai] at h0;obtain ⟨rfl,rfl,rfl,rfl⟩:=h0
    exact WL.at' ho fun hg=>WL.val (R:=fun u K' hs'=>u=v/\K'=K/\hs'=hs) hd hb hg (fun a w ha hw=>⟨v,w,K,hs,hv a w ha,hw,I,I,I⟩)
     (fun u K' hs' ⟨h1,h2,h3⟩=>by subst h1;subst h2;subst h3;exact hk)
  simp at h0
 simp at h0
def Hu(T:br)(ops:Array Oper)(n k:Nat)(rest:List Oper)(l:Sl):Option (Nat×Bool×Nat×Array Value×Array Value×List Oper×Sl):=
 match fc T ops n k rest l with
 | some (o,r,l')=>match o.dst,o.op with
  | some d,.binOp .eql t x y _=>match Nat.blt d n,ev l' x,ev l' y with
   | true,some (.agg xs),some (.agg ys)=>some (d,true,t,xs,ys,r,l')
   | _,_,_=>none
  | some d,.binOp .neq t x y _=>match Nat.blt d n,ev l' x,ev l' y with
   | true,some (.agg xs),some (.agg ys)=>some (d,false,t,xs,ys,r,l')
   | _,_,_=>none
  | _,_=>none
 | none=>none
def H2[hT:TabOK P T](k:Nat){d t:Nat}{same b:Bool}{xs ys:Array Value}(h0:Hu T ops n k rest l=some (d,same,t,xs,ys,rest',l'))(hg0:P.eqGuardType P.depth t=false)
  (hr:∀ w,(Op.equalIn 10000 t (.agg xs) (.agg ys)).run P w=.ok b w) (hk:WL P w0 ops Q rest' n ((d,.bool (b == same))::l') K hs):WL P w0 ops Q rest n l K hs:=by
 unfold Hu at h0
 split at h0
 ·rename_i o r l2 ho
  split at h0
  ·rename_i d' t' x y ty hd hop
   split at h0
   ·rename_i xs' ys' hb hx hy;simp only[aad,aai] at h0;obtain ⟨rfl,rfl,rfl,rfl,rfl,rfl,rfl⟩:=h0;refine WL.at' ho fun hg=>WL.val (R:=fun u K' hs'=>u=.bool (b == true)/\K'=K/\hs'=hs) hd hb hg (fun A w ha hw=>⟨_,w,K,hs,?_,hw,I,I,I⟩) (fun u K' hs' ⟨h1,h2,h3⟩=>by subst h1;subst h2;subst h3;exact hk);simp only[execOp,hop,ha.ev hx,ha.ev hy]
    simp_all [run_eqGuard_agg,run_eql_struct]
   simp at h0
  ·rename_i d' t' x y ty hd hop
   split at h0
   ·rename_i xs' ys' hb hx hy;simp only[aad,aai] at h0;obtain ⟨rfl,rfl,rfl,rfl,rfl,rfl,rfl⟩:=h0;refine WL.at' ho fun hg=>WL.val (R:=fun u K' hs'=>u=.bool (b == false)/\K'=K/\hs'=hs) hd hb hg (fun A w ha hw=>⟨_,w,K,hs,?_,hw,I,I,I⟩) (fun u K' hs' ⟨h1,h2,h3⟩=>by subst h1;subst h2;subst h3;exact hk);simp only[execOp,hop,ha.ev hx,ha.ev hy]
    simp_all [run_eqGuard_agg,run_neq_struct]
   simp at h0
  simp at h0
 simp at h0
def Hz(T:br)(ops:Array Oper)(n k:Nat)(rest:List Oper)(l:Sl):Option (Nat×Nat×Nat×ByteArray×List Oper×Sl):=
 match fc T ops n k rest l with
 | some (o,r,l')=>match o.dst,o.op with
  | some d,.convert t t' x=>match Nat.blt d n,ev l' x with
   | true,some (.string s)=>some (d,t,t',s,r,l')
   | _,_=>none
  | _,_=>none
 | none=>none
def tk[hT:TabOK P T](k:Nat){d t t':Nat}{xs:List UInt8}(h0:Hz T ops n k rest l=some (d,t,t',⟨xs.toArray⟩,rest',l'))(hs':qN P t' t=true)
  (hk:∀ b cap h,aH h (some ⟨b,0,none⟩) (ba xs) cap 1 (xs.map fun b=>Value.int .u8 b.toNat)->WL P w0 ops Q rest' n ((d,.slice (some ⟨b,0,none⟩) (ba xs) cap)::l') K (h::hs)):WL P w0 ops Q rest n l K hs:=by
 unfold Hz at h0
 split at h0
 ·rename_i o r l2 ho
  split at h0
  ·rename_i d' t1 t2 y hd hop
   split at h0
   ·rename_i s hb hy;simp only[aad,aai] at h0;obtain ⟨rfl,rfl,rfl,rfl,rfl,rfl⟩:=h0;unfold qN at hs';simp only[aaJ] at hs';obtain ⟨q1,q2⟩:=hs';cases e1:P.underlying t2 with
    | none=>simp[e1] at q1
    | some d1=>
     cases d1 <;> simp[e1] at q1;rename_i e;cases e2:P.underlying e with
     | none=>simp[e2] at q1
     | some d2=>
      cases d2 <;> simp[e2] at q1;rename_i kd;cases kd <;> simp at q1;cases e3:P.underlying t1 with
      | none=>simp[e3] at q2
      | some d3=>
       refine WL.at' ho fun hg=>WL.val (R:=fun u K' hs'=>∃ b cap h,u=.slice (some ⟨b,0,none⟩) (ba xs) cap/\K'=K/\hs'=h::hs/\aH h (some ⟨b,0,none⟩) (ba xs) cap 1 (xs.map fun b=>Value.int .u8 b.toNat)) hd hb hg
        (fun A w ha hw=>?_) (fun u K' hs' ⟨b,cap,h,h1,h2,h3,h4⟩=>by subst h1;subst h2;subst h3;exact hk b cap h h4)
       have hsz:(⟨xs.toArray⟩:ByteArray).size=ba xs:=by rfl
       have hr:=Lib.run_convert_string_bytes (P:=P) w t1 t2 e ⟨xs.toArray⟩ e3 e1 e2;have hcap:ba xs<=grownCap w (ba xs) 0 e:=grownCap_ge w (ba xs) 0 e
       have hcs:(Lib.bytesCells w e ⟨xs.toArray⟩).toList=xs.map (fun b=>Value.int .u8 b.toNat)++List.replicate (grownCap w (ba xs) 0 e-ba xs) (.int .u8 0):=by
        simp[Lib.bytesCells,hsz]
       refine ⟨.slice (some ⟨w.heap.size,0,none⟩) (ba xs) (grownCap w (ba xs) 0 e),Lib.bytesWorld w e ⟨xs.toArray⟩,K,pt w.heap.size (Lib.bytesCells w e ⟨xs.toArray⟩) e ((Lib.bytesCells w e ⟨xs.toArray⟩).size,(Lib.bytesCells w e ⟨xs.toArray⟩).size+1)::hs,?_,?_,w.heap.size,grownCap w (ba xs) 0 e,_,I,I,I,?_⟩
       ·simp only[execOp,hop,ha.ev hy];rw[<-hsz];simp[hr]
       ·have h1:=(hw.drew.alloc (.cells (Lib.bytesCells w e ⟨xs.toArray⟩) e)).remark (i:=0) (w':=Lib.bytesWorld w e ⟨xs.toArray⟩) (fr':=((Lib.bytesCells w e ⟨xs.toArray⟩).size,(Lib.bytesCells w e ⟨xs.toArray⟩).size+1)) rfl
         (Lib.bytesWorld_at_new w e _) ?_ rfl rfl rfl ?_
        ·exact h1
        ·intro k hk;rcases aaU k w.heap.size with h|h
         ·rw[Lib.bytesWorld_at_old w e _ k h];exact (RowKit.Below.heap_alloc w.drew _ k h).symm
         have hk':w.heap.size<k:=by have:k≠w.heap.size:=hk;omega
         rw[acx (by rw[Lib.bytesWorld_size];omega),acx (by simp;omega)]
        simp[Lib.bytesWorld_size]
       refine ⟨ST,hcap,fun j u hu=>⟨_,I,?_⟩⟩;rw[bz,aaD];refine bR.pt ?_;have hj:j<ba xs:=by grind
       rw[<-abM,hcs,aa3 (by simpa using hj)];exact hu
   simp at h0
  simp at h0
 simp at h0
end rules
section ret
variable {P:Program} {w0:World} {fn:Func} {R:Value->PH->List PH->Prop} {n:Nat} {l:Sl} {K:PH} {hs:List PH}
def ml(i m:Nat){t ty b ty':Nat}{c:Array Value}{fr:Nat×Nat}(hr:fn.results=#[.cell t ty])(hv:look l t=some (SX b))(hi:hs[i]?=some (pt b c ty' fr))(hm:jV P ty c.size=true)
  (hk:R (.agg c) K (hs.drop m)):WQ w0 (bodyPost P fn (fK w0 R)) .ret n l K hs:=
 fun _ w ha hw=>bodyPost_ret (v:=.agg c) (by
  have h2:=rE (P:=P) (w:=w) (t:=ty) (a:=⟨b,0,none⟩) (cs:=c.toList) qo rfl (fun j v hv=>hw.cell (.inr ⟨i,hi⟩) (mI c.toList (fun j v h=>by simpa using h) j v hv));have e:c.toList.toArray=c:=by simp
  rw[e] at h2;simp[results,hr,ha.slot t _ hv,asAddr,h2]) ha.defers ⟨_,_,_,rfl,hk,hw.dropN m⟩
end ret
def jc{b:Bool}{p:Prop}(h:b=true↔p):(!b)=true↔¬p:=by cases b <;> simp_all
def Ag.cut{n:Nat}{l l':Sl}{a:Act}(h:Ag n l' a)(h1:l'.drop (ba l'-ba l)=l)(h2:((l'.take (ba l'-ba l)).all fun x=>(look l x.1).isNone)=true):Ag n l a:=by
 refine ⟨h.size,h.defers,fun t v ht=>h.slot t v ?_⟩;generalize (ba l')-ba l=k at h1 h2;clear h
 induction k generalizing l' with
 | zero=>simp at h1;rw[h1];exact ht
 | succ k ih=>
  cases l' with
  | nil=>simp at h1;subst h1;exact ht
  | cons x r=>
   obtain ⟨t',u⟩:=x;simp only[abf,List.all_cons,aaJ] at h2
   grind [Nat.eq_of_beq_eq_true,look]
def Ag.cons{n:Nat}{l:Sl}{a:Act}{t:Nat}{v:Value}(h:Ag n l a)(ht:a.tmps[t]?=some v):Ag n ((t,v)::l) a:=by
 refine ⟨h.size,h.defers,fun s u hs=>?_⟩;simp only[look] at hs;cases e:Nat.beq t s with
 | true=>
  simp_all
 | false=>rw[e] at hs;exact h.slot s u hs
def BJ(w0:World)(t n:Nat)(l:Sl)(q:Prop)(K:PH)(hs:List PH):Exit->Act->World->Prop:=fun e a w=>e=.normal/\∃ c:Bool,(c=true↔q)/\Ag n ((t,.bool c)::l) a/\aY w0 w K hs
def dk{w0:World}{t n:Nat}{l l':Sl}{q:Prop}{K:PH}{hs:List PH}{c:Bool}(hc:c=true↔q)(hl:look l' t=some (.bool c))(h1:l'.drop (ba l'-ba l)=l)(h2:((l'.take (ba l'-ba l)).all fun x=>(look l x.1).isNone)=true):
  WQ w0 (BJ w0 t n l q K hs) .normal n l' K hs:=fun a w ha hw=>⟨rfl,c,hc,(ha.cut h1 h2).cons (ha.slot t _ hl),hw⟩
theorem wo{P:Program}{ops:Array Oper}{Q Q1:Exit->Act->World->Prop}{rest:List Oper}(h1:∀ e a w,Q1 e a w->e=.normal)(h2:∀ a w,Q1 .normal a w->wpList P ops Q rest a w):
  ∀ (seg:List Oper) (a:Act) (w:World),wpList P ops Q1 seg a w->wpList P ops Q (seg++rest) a w
 | [],a,w,h=>h2 a w h
 | o::seg,a,w,h=>by
  unfold wpList at h;rw[aaz];unfold wpList
  split
  ·rename_i hw;rw[aab hw] at h;rcases h with h|⟨_,a',w',h⟩
   ·refine .inl<|Oper.wp_mono (fun a w h=>wo h1 h2 seg a w h) ?_
    grind [yn,Oper.wp]
   have:=h1 _ _ _ h;cases this
  rename_i hw;rw[aaa hw] at h;exact wo h1 h2 seg _ w h
section rules
variable {P:Program} {T:br} {w0:World} {ops:Array Oper} {Q:Exit->Act->World->Prop} {rest rest' rest2:List Oper} {n:Nat} {l l' lE:Sl} {K:PH} {hs:List PH}
def gy(ts:List Nat)(w:Bool):Sl->Sl
 | []=>[]
 | (k,v)::r=>(k,cond (ts.any (Nat.beq k)) (.bool w) v)::gy ts w r
def bj[hT:TabOK P T](k m t:Nat)(ts:List Nat)(want:Bool)(b:Bool){φ q:Prop}(h0:jT T ops n k rest l=some (rest',l'))(hlf:gy ts b l'=l')(hno:jT T ops n m rest' (gy ts (!want) l')=some (rest2,lE))(hl:look lE t=some (.bool (!want)))
  (h1:lE.drop (ba lE-ba (gy ts (!want) l'))=gy ts (!want) l') (h2:((lE.take (ba lE-ba (gy ts (!want) l'))).all fun x=>(look (gy ts (!want) l') x.1).isNone)=true) (hr:rest'=rest'.take m++rest2)
  (hn:b = !want->((!want)=true↔φ)) (hq:b=want->(q↔φ))
  (hex:b=want->WL P w0 ops (BJ w0 t n (gy ts want l') q K hs) (rest'.take m) n (gy ts want l') K hs)
  (hk:∀ b',(b'=true↔φ)->WL P w0 ops Q rest2 n ((t,.bool b')::l') K hs):WL P w0 ops Q rest n l K hs:=by
 refine WL.pures k h0 ?_
 by_cases hb:b=want
 ·subst hb;rw[hlf] at hex;intro a w ha hw;rw[hr];refine wo (Q1:=BJ w0 t n l' q K hs) (fun e a w h=>h.1) (fun a w h=>?_) _ a w (hex I a w ha hw);obtain ⟨_,c,hc,hA,hS⟩:=h;exact hk c (hc.trans (hq I)) a w hA hS
 have hb':b = !want:=by cases b <;> cases want <;> first|rfl|exact absurd rfl hb
 subst hb';rw[hlf] at hno h1 h2;exact WL.pures m hno fun a w ha hw=>hk _ (hn I) a w ((ha.cut h1 h2).cons (ha.slot t _ hl)) hw
def eB[hT:TabOK P T](k m t:Nat)(ts:List Nat){b:Bool}{p q:Prop}(hb:b=true↔p)(h0:jT T ops n k rest l=some (rest',l'))(hlf:gy ts b l'=l')(hno:jT T ops n m rest' (gy ts true l')=some (rest2,lE))(hl:look lE t=some (.bool true))
  (h1:lE.drop (ba lE-ba (gy ts true l'))=gy ts true l') (h2:((lE.take (ba lE-ba (gy ts true l'))).all fun x=>(look (gy ts true l') x.1).isNone)=true) (hr:rest'=rest'.take m++rest2)
  (hex:¬p->WL P w0 ops (BJ w0 t n (gy ts false l') q K hs) (rest'.take m) n (gy ts false l') K hs)
  (hk:∀ b',(b'=true↔p\/q)->WL P w0 ops Q rest2 n ((t,.bool b')::l') K hs):WL P w0 ops Q rest n l K hs:=
 bj k m t ts false b (φ:=p\/q) (q:=q) h0 hlf hno hl h1 h2 hr (fun h=>by subst h;simpa using Or.inl (hb.1 rfl)) (fun h=>⟨.inr,fun g=>g.resolve_left (fun hp=>by have:=hb.2 hp;rw[h] at this;cases this)⟩)
  (fun h=>hex (fun hp=>by have:=hb.2 hp;rw[h] at this;cases this)) hk
def gu[hT:TabOK P T](k m t:Nat)(ts:List Nat){b:Bool}{p q:Prop}(hb:b=true↔p)(h0:jT T ops n k rest l=some (rest',l'))(hlf:gy ts b l'=l')(hno:jT T ops n m rest' (gy ts false l')=some (rest2,lE))(hl:look lE t=some (.bool false))
  (h1:lE.drop (ba lE-ba (gy ts false l'))=gy ts false l') (h2:((lE.take (ba lE-ba (gy ts false l'))).all fun x=>(look (gy ts false l') x.1).isNone)=true) (hr:rest'=rest'.take m++rest2)
  (hex:p->WL P w0 ops (BJ w0 t n (gy ts true l') q K hs) (rest'.take m) n (gy ts true l') K hs)
  (hk:∀ b',(b'=true↔p/\q)->WL P w0 ops Q rest2 n ((t,.bool b')::l') K hs):WL P w0 ops Q rest n l K hs:=
 bj k m t ts true b (φ:=p/\q) (q:=q) h0 hlf hno hl h1 h2 hr (fun h=>Iff.intro (fun h'=>absurd h' SU) (fun h'=>by simp_all)) (fun h=>Iff.intro (fun g=>⟨hb.1 h,g⟩) (fun g=>g.2))
  (fun h=>hex (hb.1 h)) hk
def af[hT:TabOK P T](k:Nat){d:Nat}{p:Prop}(h:yY T ops n k rest l=some (d,p,rest',l'))(hk:∀ b:Bool,(b=true↔p)->WL P w0 ops Q rest' n ((d,.bool b)::l') K hs):WL P w0 ops Q rest n l K hs:=
 aX k h (fun hp=>hk true (by simpa using hp)) (fun hp=>hk false (by simpa using hp))
def eE[hT:TabOK P T](k:Nat){d:Nat}{c:Bool}(p:Prop)(h:pG T ops n k rest l=some (d,.bool c,rest',l'))(hp:c=true↔p)(hk:∀ b:Bool,(b=true↔p)->WL P w0 ops Q rest' n ((d,.bool b)::l') K hs):WL P w0 ops Q rest n l K hs:=
 ar k h rfl (hk c hp)
def HO[hT:TabOK P T](k:Nat){d:Nat}{xs ys:List UInt8}(h:pG T ops n k rest l=some (d,.bool ((⟨xs.toArray⟩:ByteArray).toList == (⟨ys.toArray⟩:ByteArray).toList),rest',l'))(hk:∀ b:Bool,(b=true↔xs=ys)->WL P w0 ops Q rest' n ((d,.bool b)::l') K hs):WL P w0 ops Q rest n l K hs:=
 ar k h rfl (hk _ ST)
def R6[hT:TabOK P T](k:Nat){d:Nat}{xs ys:List UInt8}(h:pG T ops n k rest l=some (d,.bool !((⟨xs.toArray⟩:ByteArray).toList == (⟨ys.toArray⟩:ByteArray).toList),rest',l'))(hk:∀ b:Bool,(b=true↔xs≠ys)->WL P w0 ops Q rest' n ((d,.bool b)::l') K hs):WL P w0 ops Q rest n l K hs:=
 ar k h rfl (hk _ ST)
def nP{t:Nat}{c:Bool}(hk:∀ b:Bool,(b=true↔c=true)->WL P w0 ops Q rest n ((t,.bool b)::l) K hs):WL P w0 ops Q rest n ((t,.bool c)::l) K hs:=hk c Iff.rfl
end rules
def ah{P:Program}{w0:World}{Q:Exit->Act->World->Prop}{n:Nat}{l:Sl}{K:PH}{hs:List PH}{c:Operand}{x y:Code}{b:Bool}{p:Prop}(hb:b=true↔p)(hc:ev l c=some (.bool b))(h:p->WC P w0 x Q n l K hs)(h':¬p->WC P w0 y Q n l K hs):
  WC P w0 (.cond c x y) Q n l K hs:=nt hc (fun e=>h (hb.1 e)) (fun e=>h' (fun hp=>by rw[hb.2 hp] at e;cases e))
def vB{P:Program}{w0:World}{Q:Exit->Act->World->Prop}{n:Nat}{l:Sl}{K:PH}{hs:List PH}{c:Operand}{x y:Code}{b:Bool}{p:Prop}(hb:b=true↔p)(hp:p)(hc:ev l c=some (.bool b))(h:WC P w0 x Q n l K hs):
  WC P w0 (.cond c x y) Q n l K hs:=ah hb hc (fun _=>h) (fun g=>absurd hp g)
def Hm{P:Program}{w0:World}{Q:Exit->Act->World->Prop}{n:Nat}{l:Sl}{K:PH}{hs:List PH}{c:Operand}{x y:Code}{b:Bool}{p:Prop}(hb:b=true↔p)(hp:¬p)(hc:ev l c=some (.bool b))(h:WC P w0 y Q n l K hs):
  WC P w0 (.cond c x y) Q n l K hs:=ah hb hc (fun g=>absurd g hp) (fun _=>h)
def gE{P:Program}{T:br}{w0:World}{ops:Array Oper}{Q:Exit->Act->World->Prop}{plan plan':List Nat}{z:Nat}{listed listed':Array Bool}{n:Nat}{l l':Sl}{K K0:PH}{hs A:List PH}
  [hT:TabOK P T] (hsel:Region.noSelect ops=true) (k:Nat) {d:Nat} {c:Bool} (p:Prop) (h0:sN T ops n z k plan listed l=some (d,.bool c,plan',listed',l')) (hp:p↔c=true)
  (hk:∀ b:Bool,(b=true↔p)->WA P w0 ops Q K0 A z plan' listed' n ((d,.bool b)::l') K hs):WA P w0 ops Q K0 A z plan listed n l K hs:=
 bQ hsel k h0 rfl (hk c hp.symm)
def Ct.keep{P:Program}{w0:World}{f:FuncId}{args:List Value}{K:PH}{hs:List PH}{h:PH}{u:Value}(i:Nat)(hi:hs[i]?=some h)
  (c:Ct P w0 f args K (h::hs.eraseIdx i) (fun v K' hs'=>K'=K/\hs'=h::hs.eraseIdx i/\v=u)):Ct P w0 f args K hs (fun v K' hs'=>K'=K/\hs'=hs/\v=u):=by
 refine ⟨c.1,fun w hw=>(c.2 w (hw.perm (ig hs i h hi))).mono ?_⟩;rintro e w' ⟨v,K',hs',rfl,⟨rfl,rfl,rfl⟩,hw'⟩;exact ⟨_,_,_,I,⟨I,I,I⟩,hw'.perm (ig hs i h hi).symm⟩
def ip{P:Program}{T:br}{w0:World}{ops:Array Oper}{Q:Exit->Act->World->Prop}{plan plan':List Nat}{z:Nat}{listed listed':Array Bool}{n:Nat}{l l':Sl}{K K0:PH}{hs A:List PH}
  [hT:TabOK P T] (hsel:Region.noSelect ops=true) (k:Nat) {p d t:Nat} {a:Addr} {h:PH} (cs:List Value) (h0:sT T ops n z k plan listed l=some (p,d,t,a,plan',listed',l')) (hwf:cond (Nat.blt z ops.size) (Region.waitsFor .any ops z (p / 2)) true=true)
  (hm:jV P t (ba cs)=true) (hin:In K0 A h) (hc:∀ (j:Nat) v,cs[j]?=some v->bR h (a.add j) v) (hk:WA P w0 ops Q K0 A z plan' listed' n ((d,.agg cs.toArray)::l') K hs):WA P w0 ops Q K0 A z plan listed n l K hs:=by
 unfold sT at h0
 split at h0
 ·rename_i p' o r L' l2 hh
  split at h0
  ·rename_i dd t' x hp hz hg hd hop
   split at h0
   ·rename_i a' hb hx;simp only[aad,aai] at h0;obtain ⟨rfl,rfl,rfl,rfl,rfl,rfl,rfl⟩:=h0;obtain ⟨g1,g2⟩:=mD hh;refine WA.pures hsel k g1 ?_;have hp2:p'=2*(p' / 2):=by have:=aaM hp;omega
    rw[hp2];refine WA.look g2 hsel hz hd hb (fun A' ha=>.inl ⟨jl ha hg,fun w hw=>?_⟩) hk;obtain ⟨L,hcl,hun,hst⟩:=hw;have h2:=tM (P:=P) (w:=w) (t:=t') (a:=a') (cs:=cs) hm rfl (fun j v hv=>(hst (qb hcl hun hwf)).cell hin (hc j v hv));simp only[execOp,hop,ha.ev hx];simp[h2]
   simp at h0
  simp at h0
 simp at h0
theorem WL.hs{P:Program}{w0:World}{ops:Array Oper}{Q:Exit->Act->World->Prop}{rest:List Oper}{n:Nat}{l:Sl}{K:PH}{hs:List PH}(hs':List PH)(e:hs=hs')(hk:WL P w0 ops Q rest n l K hs'):WL P w0 ops Q rest n l K hs:=by
 subst e;exact hk
end
section
def bv(l:List UInt8):List Value:=l.map fun b=>Value.int .u8 b.toNat
def nz(l r:List UInt8):bv (l++r)=bv l++bv r:=by simp[bv]
def iZ(l:List UInt8):∀ u∈bv l,u.oneCell'=true:=by
 intro u hu;obtain ⟨b,_,rfl⟩:=aak.1 hu
 rfl
def qD{l:List UInt8}{j:Nat}(h:j<ba l):(bv l)[j]?=some (.int .u8 (l[j].toNat:Nat)):=by
 simp[bv,h]
def aU(n:Nat):List UInt8:=if n<128 then [UInt8.ofNat n] else UInt8.ofNat (n % 128+128)::aU (n / 128)
 termination_by n
 decreasing_by omega
def sx{n:Nat}(h:n<128):aU n=[UInt8.ofNat n]:=by rw[aU,aab h]
def sA{n:Nat}(h:¬n<128):aU n=UInt8.ofNat (n % 128+128)::aU (n / 128):=by rw[aU,aaa h]
theorem rD:∀ (k n:Nat),n<128 ^ k->0<k->ba (aU n)<=k
 | 0,n,h,h0=>by omega
 | k+1,n,h,_=>by
  by_cases hn:n<128
  ·rw[sx hn];simp
  rw[sA hn];have h2:n / 128<128 ^ k:=qo
  have hk:0<k:=by
   grind
  simp_all [rD]
theorem eY{n:Nat}(h:n<18446744073709551616):ba (aU n)<=10:=by
 refine rD 10 n ?_ qo;omega
theorem oy{n:Nat}(h:n<256):Value.int .u8 (n:Nat)=.int .u8 ((UInt8.ofNat n).toNat:Nat):=by
 grind [UInt8.toNat_ofNat_of_lt']
def F8{h:PH}{ao:Option Addr}{n n' cap size:Nat}{xs ys:List Value}(x:aH h ao n cap size xs)(h1:n=n')(h2:xs=ys):aH h ao n' cap size ys:=by subst h1;subst h2;exact x
def xw(b m:Nat)(h:m<256):aH (pt b #[.int .u8 (m:Nat)] 5) (some ⟨b,0,none⟩) 1 1 1 (bv [UInt8.ofNat m]):=by
 refine F8 (aZ.ofPt (e:=5) (n:=1) (size:=1) ST (by simp[maxLen])).isS I ?_;simp[bv,oy h]
theorem Mo:∀ m:BitVec 8,(m ||| 128#8)=BitVec.ofNat 8 (m.toNat % 128+128):=by decide
def ML(m:Nat):Value.int .u8 (IntKind.u8.wrap (BitVec.ofInt 8 ((m % 256:Nat):Int) ||| BitVec.ofInt 8 128).toNat)=.int .u8 (m % 128+128:Nat):=by
 grind [Mo,l7,BitVec.ofInt]
def MN(m:Nat):Value.int .u64 ((m:Int).fdiv (2 ^ (min (7:Int).toNat IntKind.u64.bits)))=.int .u64 (m / 128:Nat):=by
 have:min (7:Int).toNat IntKind.u64.bits=7:=by decide
 grind
def yK(s:BitVec 32):BitVec 32:=(s >>> 1) ^^^ (0x82f63b78#32 &&& -(s &&& 1#32))
def qu:Nat->BitVec 32->BitVec 32
 | 0,s=>s
 | k+1,s=>qu k (yK s)
theorem AI:∀ (k:Nat) (s:BitVec 32),qu (k+1) s=yK (qu k s)
 | 0,s=>rfl
 | k+1,s=>by rw[qu,AI k (yK s)];rfl
def Fg(s:BitVec 32)(c:UInt8):BitVec 32:=qu 8 (s ^^^ BitVec.ofNat 32 c.toNat)
def qB(s:BitVec 32)(l:List UInt8):BitVec 32:=l.foldl Fg s
def lf(l:List UInt8):BitVec 32 := ~~~ qB 4294967295#32 l
def IK(s:BitVec 32)(l:List UInt8)(c:UInt8):qB s (l++[c])=Fg (qB s l) c:=by simp[qB]
def zL(x:BitVec 32):BitVec.ofInt 32 ((x.toNat:Nat):Int)=x:=by
 simp
theorem vg(x:BitVec 32):Value.int .u32 (IntKind.u32.wrap ((x.toNat:Nat):Int))=.int .u32 x.toNat:=ze ⟨qo,qo⟩
def FC(x y:BitVec 32):Value.int .u32 (IntKind.u32.wrap (BitVec.ofInt 32 ((x.toNat:Nat):Int) ^^^ BitVec.ofInt 32 ((y.toNat:Nat):Int)).toNat)=.int .u32 (((x ^^^ y).toNat:Nat):Int):=by
 rw[zL,zL];exact vg _
def MS(x:BitVec 32):Value.int .u32 (((x.toNat:Nat):Int).fdiv (2 ^ (min (1:Int).toNat IntKind.u32.bits)))=.int .u32 (((x >>> 1).toNat:Nat):Int):=by
 have:min (1:Int).toNat IntKind.u32.bits=1:=by decide
 simp_all [Int.fdiv_eq_ediv_of_nonneg,Nat.shiftRight_eq_div_pow]
def Oy(x:BitVec 32):Value.int .u32 (IntKind.u32.wrap (0-((x.toNat:Nat):Int)))=.int .u32 (((-x).toNat:Nat):Int):=by
 congr 1
 have:=x.isLt
 grind [IntKind.wrap,IntKind.bits,IntKind.signed]
def Ox(x:BitVec 32):Value.int .u32 (IntKind.u32.wrap (BitVec.ofInt 32 (if IntKind.u32.signed then -1 else IntKind.u32.max) ^^^ BitVec.ofInt 32 ((x.toNat:Nat):Int)).toNat)=.int .u32 (((~~~x).toNat:Nat):Int):=by
 have e:BitVec.ofInt 32 (if IntKind.u32.signed then -1 else IntKind.u32.max)=BitVec.allOnes 32:=by decide
 rw[e,zL,BitVec.allOnes_xor];exact vg _
def MV(x:BitVec 32):Value.int .u32 (IntKind.u32.wrap (BitVec.ofInt 32 ((x.toNat:Nat):Int) &&& BitVec.ofInt 32 1).toNat)=.int .u32 (((x &&& 1#32).toNat:Nat):Int):=by
 grind [vg]
def MU(x:BitVec 32):Value.int .u32 (IntKind.u32.wrap (BitVec.ofInt 32 2197175160 &&& BitVec.ofInt 32 ((x.toNat:Nat):Int)).toNat)=.int .u32 (((0x82f63b78#32 &&& x).toNat:Nat):Int):=by
 grind [vg]
def JG(c:UInt8):Value.int .u32 (IntKind.u32.wrap ((c.toNat:Nat):Int))=.int .u32 (((BitVec.ofNat 32 c.toNat).toNat:Nat):Int):=by
 rfl
theorem mC{α:Type}(l:List α)(j:Nat)(h:j<ba l):l.take (j+1)=l.take j++[l[j]]:=by
 simp
def dg(x:List UInt8):List UInt8:=aU (ba x)++x
def dm(s:Nat):List UInt8:=[UInt8.ofNat s,UInt8.ofNat (s / 256),UInt8.ofNat (s / 65536),UInt8.ofNat (s / 16777216)]
def f9(b:List UInt8):List UInt8:=dg b++dm (lf b).toNat
def fS(i acc:Nat):List UInt8->Nat×Nat×Int
 | []=>(0,0,20)
 | c::r=>if i=9/\1<c.toNat then (0,0,21)
  else if 128<=c.toNat then fS (i+1) (acc+c.toNat % 128*128 ^ i) r
  else if c.toNat=0/\0<i then (0,0,21)
  else (acc+c.toNat % 128*128 ^ i,i+1,0)
theorem KB:∀ m:BitVec 8,(m &&& 127#8)=BitVec.ofNat 8 (m.toNat % 128):=by decide
def CN(c:UInt8):Value.int .u8 (IntKind.u8.wrap (BitVec.ofInt 8 ((c.toNat:Nat):Int) &&& BitVec.ofInt 8 127).toNat)=.int .u8 (c.toNat % 128:Nat):=by
 grind [KB,l7]
def Ey(m i:Nat)(hi:i<=9)(h:m*128 ^ i<18446744073709551616):Value.int .u64 (IntKind.u64.wrap (((m:Nat):Int)*2 ^ (min ((7:Int)*(i:Nat)).toNat IntKind.u64.bits)))=.int .u64 (m*128 ^ i:Nat):=by
 have e:min ((7:Int)*(i:Nat)).toNat IntKind.u64.bits=7*i:=by
  have:IntKind.u64.bits=64:=rfl;omega
 have e2:((m:Nat):Int)*2 ^ (7*i)=((m*128 ^ i:Nat):Int):=by
  have:(128:Nat) ^ i=2 ^ (7*i):=by rw[ab0]
  rw[this]
  rfl
 rw[e,e2,qR,aaH h]
def GD(x y i:Nat)(hx:x<128 ^ i)(h:x+y*128 ^ i<18446744073709551616):
  Value.int .u64 (IntKind.u64.wrap (BitVec.ofInt 64 ((x:Nat):Int) ||| BitVec.ofInt 64 ((y*128 ^ i:Nat):Int)).toNat)=.int .u64 (x+y*128 ^ i:Nat):=by
 have hp:(128:Nat) ^ i=2 ^ (7*i):=by rw[ab0]
 have e:(BitVec.ofInt 64 ((x:Nat):Int) ||| BitVec.ofInt 64 ((y*128 ^ i:Nat):Int)).toNat=x+y*128 ^ i:=by
  rw[abN,aaV,aaV,aaW,aaW,aaH qo,aaH qo,Nat.or_comm,ab1 y,hp,
   <- aci qo]
  omega
 rw[e,qR,aaH h]
abbrev Rd:=List UInt8×Int
def bX:Rd->Nat×Rd
 | (b,e)=>if e=0 then (match b with|[]=>(0,([],20))|c::r=>(c.toNat,(r,0))) else (0,(b,e))
def aM(most:Nat):Rd->Nat×Rd
 | (b,e)=>if e=0 then (let x:=fS 0 0 b;if x.2.2=0 then (if most<x.1 then (0,(b,22)) else (x.1,(b.drop x.2.1,0))) else (0,(b,x.2.2))) else (0,(b,e))
def dw(most:Int):Rd->List UInt8×Rd
 | (b,e)=>let x:=aM most.toNat (b,e)
  if x.2.2=0 then (if ba x.2.1<x.1 then ([],(b,20)) else (x.2.1.take x.1,(x.2.1.drop x.1,0))) else ([],x.2)
def kN:Rd->Int
 | (b,e)=>if e=0/\0<ba b then 23 else e
def tC(i acc:Nat)(c:UInt8)(r:List UInt8):fS i acc (c::r)=if i=9/\1<c.toNat then (0,0,21)
  else if 128<=c.toNat then fS (i+1) (acc+c.toNat % 128*128 ^ i) r
  else if c.toNat=0/\0<i then (0,0,21)
  else (acc+c.toNat % 128*128 ^ i,i+1,0):=rfl
def wD{x m i:Nat}(hi:i<=9)(hx:x<128 ^ i)(hm:m<128)(h9:i=9->m<=1):x+m*128 ^ i<18446744073709551616/\(i<9->x+m*128 ^ i<128 ^ (i+1)):=by
 have h1:(m+1)*128 ^ i<=128*128 ^ i:=aaY _ qo;rw[Nat.add_mul] at h1;have h2:(128:Nat) ^ (i+1)=128*128 ^ i:=qo
 by_cases h:i=9
 ·grind
 have h3:(128:Nat) ^ (i+1)<=128 ^ 9:=abg qo qo;omega
theorem wL:∀ (b:List UInt8) (i acc:Nat),i<=9->acc<128 ^ i->(fS i acc b).1<18446744073709551616/\(fS i acc b).2.1<=i+ba b/\((fS i acc b).2.2=0->0<(fS i acc b).2.1)
 | [],i,acc,hi,ha=>by simp[fS]
 | c::r,i,acc,hi,ha=>by
  unfold fS
  split
  ·simp
  rename_i h9;have h1:=wD (m:=c.toNat % 128) hi ha qo qo
  split
  ·rename_i h2;have hlt:i<9:=qo
   have h3:=wL r (i+1) (acc+c.toNat % 128*128 ^ i) qo (h1.2 hlt);simp only[aaj];exact ⟨h3.1,qo,h3.2.2⟩
  split
  ·simp
  simp only[aaj];exact ⟨h1.1,qo,fun _=>by omega⟩
def qm(m:Nat)(b:List UInt8)(e:Int):(aM m (b,e)).1<18446744073709551616/\ba (aM m (b,e)).2.1<=ba b:=by
 have h1:=wL b 0 0 qo qo
 grind [aM]
def xK(s k:Nat)(hk:k<=32):Value.int .u32 (((s:Nat):Int).fdiv (2 ^ (min ((k:Nat):Int).toNat IntKind.u32.bits)))=.int .u32 (s / 2 ^ k:Nat):=by
 have:min ((k:Nat):Int).toNat IntKind.u32.bits=k:=by
  have:IntKind.u32.bits=32:=rfl;omega
 grind
def Kk(s:Nat):[Value.int .u8 (s % 256:Nat),.int .u8 (s / 2 ^ 8 % 256:Nat),.int .u8 (s / 2 ^ 16 % 256:Nat),.int .u8 (s / 2 ^ 24 % 256:Nat)]=bv (dm s):=by
 rfl
theorem qa(x:List UInt8):ba (dg x)=ba (aU (ba x))+ba x:=by simp[dg]
end
section
open Go.En Go.ChangeShapes Go.WideShapes Go.ChangeAt Go.RowKit
open Go.ChangeMaps (open_string shut_string)
def hp(W:World):PH:=fun b=>W.heap[b]?
def Q7(W:World):aY W W (hp W) []:=by
 refine ⟨I,I,I,aac _,fun b o h=>h,?_,?_,?_⟩
 all_goals simp
def Mq{W w:World}{hs:List PH}(s:aY W w (hp W) hs):Below W.heap.size W w:=by
 refine ⟨s.os,s.tape,s.output,s.size,fun k hk=>?_⟩;have h:W.heap[k]?=some W.heap[k]:=Array.getElem?_eq_getElem hk;rw[s.imm k _ h,h]
theorem BR{H:Type}{enc:TypeId×Value->H}{P:Program}(hl:laidOutB P=true){W W':World}{sp:Nat->Bool}:
  ∀ (ts:List TypeId) (vs:List Value) (ds:List (DataW H)) (ps:List MemPlace),(∀ t∈ts,P.readableRec t=true/\t<P.types.size)->DataW.TrodAll enc P W 0 (fun _=>true) true ts vs ds ps ->
   (∀ p∈ps,W.sameAt W' p)->(∀ p∈ps,sp p.block=true)->DataW.TrodAll enc P W' 0 sp true ts vs ds ps
 | [],[],[],ps,_,h,_,_=>h
 | [],[],_::_,ps,_,h,_,_=>h.elim
 | [],_::_,_,ps,_,h,_,_=>h.elim
 | _::_,[],_,ps,_,h,_,_=>h.elim
 | _::_,_::_,[],ps,_,h,_,_=>h.elim
 | t::ts,v::vs,d::ds,ps,ht,h,hs,hp=>by
  obtain ⟨p,q,h1,h2,rfl⟩:=h;obtain ⟨hr,hz⟩:=ht t ST;refine ⟨p,q,WideElems.Trod_stays hl hr hz h1 (fun x hx=>hs x (by simp[hx])) (fun x hx=>hp x (by simp[hx])),BR hl ts vs ds q (fun u hu=>ht u (by simp[hu])) h2 (fun x hx=>hs x (by simp[hx])) (fun x hx=>hp x (by simp[hx])),I⟩
def J3{H:Type}{enc:TypeId×Value->H}{P:Program}{f:Func}{s:ChangeSpec}{W W':World}{args:Array Value}{ds gs:List (DataW H)}{before:List MemPlace}{tb:TypeId}
  (hW:DataW.Whole enc P f.params.toList s.vars false W args.toList ds gs before) (hb:Below W.heap.size W W') (hl:laidOutB P=true)
  (hts:∀ t∈f.params.toList,P.readableRec t=true/\t<P.types.size) (hrt:f.resultTypes=#[tb]) (hub:P.underlying tb=some .bool) (hv:s.vars=[])
  (hres:(s.fn H (ds++gs)).results=[.lit (.bool true)]) (hargs:(s.fn H (ds++gs)).args=ds) (hvars:(s.fn H (ds++gs)).vars=[]):
  s.post enc P f false true false false W args (.bool true) W':=by
 have hlt:=hW.lt;have hW':=hW;obtain ⟨p,q,hA,hV,rfl,hfz,hnd⟩:=hW;rw[hv] at hV
 have hq:q=[]:=by
  cases gs with
  | nil=>exact hV
  | cons _ _=>exact hV.elim
 subst hq;refine ⟨ds,gs,_,[],p,[],hW',?_,?_,?_,hb.frame _,fun h=>by cases h⟩
 ·rw[hrt,hres];exact trodAll_cons_mk (shut_bool hub _) trodAll_mk0
 ·rw[hargs];exact BR hl _ _ _ _ hts hA (fun x hx=>hb.same (hlt x (by simp[hx]))) (fun x hx=>by simpa using hlt x (by simp[hx]))
 rw[hv,hvars];rfl
def QX{H:Type}{l:List (DataW H)}(hk:Rows.uptoSmall H l=true):Rows.uptoBulkAll l<=1048576:=by
 simpa[Rows.uptoSmall] using hk
def own:ownKnob Tryz.prog.godebug=none:=by kernel_rfl
theorem laid:laidOutB Tryz.prog=true:=by kernel_rfl
end
section
open Go.En Go.ChangeShapes Go.WideShapes Go.ChangeAt Go.RowKit Go.Deep
section opens
variable {H:Type} {enc:TypeId×Value->H} {P:Program} {W:World} {α β γ:Type}
def gx(enc:TypeId×Value->H)(P:Program)(W:World)(t:TypeId)(sz:Nat)(R:List Value->α->Prop)(m:α->Nat):Prop:=
 P.cellsOf t=sz/\∀ fuel cs (x:DataW H×List MemPlace),DataW.trod enc P W 0 (fun _=>true) true fuel t cs=some x->∃ v,R cs v/\m v<=Rows.uptoBulk x.1/\ba cs=sz
def RI(k:IntKind)(cs:List Value)(n:Int):Prop:=cs=[.int k n]/\(Lit.int k n).wf=true
theorem gx.int{t:TypeId}{k:IntKind}(ht:P.underlying t=some (.int k))(hc:P.cellsOf t=1):gx enc P W t 1 (RI k) (fun _=>1):=by
 refine ⟨hc,fun fuel cs x h=>?_⟩;obtain ⟨n,rfl,rfl,hw⟩:=DataW.trod_int ht h;exact ⟨n,⟨I,hw⟩,by simp[Rows.uptoBulk],I⟩
def RB(cs:List Value)(b:Bool):Prop:=cs=[.bool b]
theorem gx.bool{t:TypeId}(ht:P.underlying t=some .bool)(hc:P.cellsOf t=1):gx enc P W t 1 RB (fun _=>1):=by
 refine ⟨hc,fun fuel cs x h=>?_⟩;obtain ⟨n,rfl,rfl⟩:=DataW.trod_bool ht h;exact ⟨n,I,by simp[Rows.uptoBulk],I⟩
def RS(cs:List Value)(s:List UInt8):Prop:=cs=[str s]
def gx.str{t:TypeId}(ht:P.underlying t=some .string)(hc:P.cellsOf t=1):gx enc P W t 1 RS (fun s=>ba s+1):=by
 refine ⟨hc,fun fuel cs x h=>?_⟩;obtain ⟨s,rfl,rfl,hw⟩:=DataW.trod_string ht h;exact ⟨s.data.toList,by rfl,by simp[Rows.uptoBulk],I⟩
def j4(R:List Value->α->Prop):List (List Value)->List α->Prop
 | [],[]=>True
 | c::cs,x::xs=>R c x/\j4 R cs xs
 | _,_=>False
theorem j4.snoc{R:List Value->α->Prop}{c:List Value}{x:α}(h:R c x):∀ {cs:List (List Value)} {xs:List α},j4 R cs xs->j4 R (cs++[c]) (xs++[x])
 | [],[],_=>⟨h,trivial⟩
 | _::_,_::_,g=>⟨g.1,j4.snoc h g.2⟩
 | [],_::_,g=>g.elim
 | _::_,[],g=>g.elim
def H7(W:World)(sz:Nat)(R:List Value->α->Prop)(cs:List Value)(xs:List α):Prop:=
 ∃ ao cap,∃ css:List (List Value),cs=[.slice ao (ba xs) cap]/\aH (hp W) ao (ba xs) cap sz css.flatten/\j4 R css xs
theorem CO(m:α->Nat)(v:α)(iF:List α->Nat)(h0:iF []=0)(h1:∀ x r,iF (x::r)=m x+iF r):∀ xs,iF (xs++[v])=iF xs+m v
 | []=>by simp[h0,h1]
 | x::r=>by rw[aaz,h1,h1,CO m v iF h0 h1 r];omega
def iF(m:α->Nat):List α->Nat
 | []=>0
 | x::r=>m x+iF m r
def N8{W:World}{a:Addr}{v:Value}(h:W.cell? a=some v):bR (hp W) a v:=by
 unfold World.cell? at h
 split at h
 ·rename_i c ty fr hb
  split at h
  ·cases h
  rename_i hs;exact ⟨by cases hh:a.spot <;> simp[hh] at hs ⊢,c,ty,fr,hb,h⟩
 cases h
def Mm{W:World}{base:Nat}{a:Addr}{n:Nat}{cs:List Value}(h:W.cells? base a n=some cs):ba cs=n/\∀ (j:Nat) u,cs[j]?=some u->W.cell? (a.add j)=some u:=by
 unfold World.cells? at h
 split at h
 ·refine ⟨by simpa using mapM_some_length h,fun j u hu=>?_⟩;have hj:j<ba cs:=(aas.1 hu).1;have hl:=mapM_some_length h;have hj':j<n:=by simp at hl;omega
  have:=mapM_some_get h j j (by simp[hj']);rw[this,hu]
 cases h
theorem gx.slice{t e:TypeId}{sz:Nat}{R:List Value->α->Prop}{m:α->Nat}(ht:P.underlying t=some (.slice e))(hc:P.cellsOf t=1)(o:gx enc P W e sz R m):gx enc P W t 1 (H7 W sz R) (fun xs=>iF m xs+1):=by
 refine ⟨hc,fun fuel cs x h=>?_⟩;rcases open_slice ht h with ⟨rfl,rfl⟩|⟨a,len,cap,m',n,D,Pl,rfl,_,hlc,hcm,hm',rfl,hall⟩
 ·exact ⟨[],⟨none,0,[],I,aH.nil _ _ _ _,trivial⟩,by simp[iF,Rows.uptoBulk],I⟩
 simp only[if_true] at hm';subst hm'
 have hall':∀ i,i<len->∃ (cs':List Value) (v:α),(∀ (j:Nat) u,cs'[j]?=some u->W.cell? ((a.add (i*sz)).add j)=some u)/\ba cs'=sz/\R cs' v/\m v<=Rows.uptoBulk (D i):=fun i hi=>by
  obtain ⟨cs',h1,h2⟩:=hall i qo;rw[o.1] at h1;obtain ⟨h3,h4⟩:=Mm h1;obtain ⟨v,h5,h6,_⟩:=o.2 _ _ _ h2;exact ⟨cs',v,h4,h3,h5,h6⟩
 have build:∀ k,k<=len->∃ (css:List (List Value)) (xs:List α),ba css=k/\ba xs=k/\j4 R css xs/\ba css.flatten=k*sz/\(∀ (j:Nat) u,css.flatten[j]?=some u->W.cell? (a.add j)=some u)/\iF m xs<=Rows.uptoBulkAll ((List.range k).map D):=by
  intro k
  induction k with
  | zero=>intro _;exact ⟨[],[],I,I,trivial,ST,ST,by simp[iF]⟩
  | succ k ih=>
   intro hk;obtain ⟨css,xs,h1,h2,h3,h4,h5,h6⟩:=ih qo;obtain ⟨cs',v,g1,g2,g3,g4⟩:=hall' k qo;have hfl:(css++[cs']).flatten=css.flatten++cs':=by simp
   refine ⟨css++[cs'],xs++[v],by simp[h1],by simp[h2],h3.snoc g3,?_,?_,?_⟩
   ·grind
   ·intro j u hu;rw[hfl] at hu;rcases aaU j (k*sz) with hj|hj
    ·grind
    rw[aa9 qo,h4] at hu;have:=g1 _ u hu
    simp_all [add_add]
   rw[CO m v (iF m) rfl (fun _ _=>rfl),List.range_succ,aba]
   have e:∀ l r:List (DataW H),Rows.uptoBulkAll (l++r)=Rows.uptoBulkAll l+Rows.uptoBulkAll r:=fun l r=>by
    induction l with
    | nil=>simp[Rows.uptoBulkAll]
    | cons x l ih=>grind [Rows.uptoBulkAll]
   grind [Rows.uptoBulkAll]
 obtain ⟨css,xs,h1,h2,h3,h4,h5,h6⟩:=build len (aac _);refine ⟨xs,⟨some a,m',css,by rw[h2],⟨by rw[h4,h2],qo,fun j u hu=>⟨a,I,N8 (h5 j u hu)⟩⟩,h3⟩,?_,I⟩;simp only[Rows.uptoBulk];omega
def lP(enc:TypeId×Value->H)(P:Program)(W:World)(off:Nat)(fs:List Field)(sz:Nat)(R:List Value->α->Prop)(m:α->Nat):Prop:=
 ∀ (n:Nat) (cs:List Value) (xs:List (DataW H×List MemPlace)),ba cs=off+sz->ba xs=ba fs ->
  (∀ (i:Nat) (f:Field),fs[i]?=some f->DataW.trod enc P W 0 (fun _=>true) true n f.type ((cs.drop f.offset).take (P.cellsOf f.type))=xs[i]?)->∃ v,R (cs.drop off) v/\m v<=Rows.uptoBulkAll (xs.map (·.1))
def R0(cs:List Value)(_:Unit):Prop:=cs=[]
def lP.nil{off:Nat}:lP enc P W off [] 0 R0 (fun _=>0):=fun n cs xs h1 h2 h3=>⟨(),abh qo,aag _⟩
def RP(R1:List Value->α->Prop)(R2:List Value->β->Prop)(cs:List Value)(x:α×β):Prop:=∃ c1 c2,cs=c1++c2/\R1 c1 x.1/\R2 c2 x.2
theorem lP.cons{off sz1 sz2:Nat}{f:Field}{fs:List Field}{R1:List Value->α->Prop}{R2:List Value->β->Prop}{m1:α->Nat}{m2:β->Nat}(hf:f.offset=off)(o1:gx enc P W f.type sz1 R1 m1)(o2:lP enc P W (off+sz1) fs sz2 R2 m2):
  lP enc P W off (f::fs) (sz1+sz2) (RP R1 R2) (fun x=>m1 x.1+m2 x.2):=by
 intro n cs xs h1 h2 h3;cases xs with
 | nil=>simp at h2
 | cons x xs=>
  have h4:=h3 0 f rfl;rw[hf,o1.1] at h4;obtain ⟨v,g1,g2,g3⟩:=o1.2 _ _ _ h4;obtain ⟨u,k1,k2⟩:=o2 n cs xs qo (by simpa using h2) (fun i f' hi=>h3 (i+1) f' (by simpa using hi));refine ⟨(v,u),⟨_,_,(aaC sz1 (cs.drop off)).symm,g1,?_⟩,?_⟩
  ·rw[aaO];exact k1
  grind [Rows.uptoBulkAll]
theorem gx.struct{t:TypeId}{sz:Nat}{fs:Array Field}{R:List Value->α->Prop}{m:α->Nat}(ht:P.underlying t=some (.struct fs))(hc:P.cellsOf t=sz)(o:lP enc P W 0 fs.toList sz R m):gx enc P W t sz R (fun x=>m x+1):=by
 refine ⟨hc,fun fuel cs x h=>?_⟩;obtain ⟨xs,n,_,rfl,hl,hlen,hf⟩:=DataW.trod_struct ht h;obtain ⟨v,h1,h2⟩:=o n cs xs qo qo (fun i f hi=>hf i f (by simpa using hi))
 grind [Rows.uptoBulk]
def gx.arg{t:TypeId}{sz:Nat}{R:List Value->α->Prop}{m:α->Nat}(o:gx enc P W t sz R m){v:Value}{d:DataW H}{ps:List MemPlace}(h:DataW.Trod enc P W 0 (fun _=>true) true t v d ps):∃ x,R v.cells.toList x/\m x<=Rows.uptoBulk d:=by
 obtain ⟨fuel,hf⟩:=h;obtain ⟨x,h1,h2,_⟩:=o.2 _ _ _ hf;exact ⟨x,h1,h2⟩
end opens
end
section
section rules
variable {P:Program} {T:br} {w0:World} {ops:Array Oper} {Q:Exit->Act->World->Prop} {rest rest':List Oper} {n:Nat} {l l':Sl} {K:PH} {hs:List PH}
def tc[hT:TabOK P T](k i:Nat)(xs ys:List UInt8){d:Nat}{si:eU}{ao ao2:Option Addr}{c1 c2:Nat}{h h2:PH}(h0:mq T ops n k rest l=some (d,si,(ao,ba xs,c1),(ao2,ba ys,c2),rest',l'))
  (hi:hs[i]?=some h) (hsz:(si.size,si.bytes,si.zero.cells.size)=(1,1,1)) (o:aZ h ao (ba xs) c1 si.elem 1 (bv xs)) (hm:In K hs h2) (x:aH h2 ao2 (ba ys) c2 1 (bv ys)) (hb:ba xs+ba ys<=140737488355328)
  (hk:∀ ao' cap' h',aZ h' ao' (ba (xs++ys)) cap' si.elem 1 (bv (xs++ys))->WL P w0 ops Q rest' n ((d,.slice ao' (ba (xs++ys)) cap')::l') K (hs.set i h')):WL P w0 ops Q rest n l K hs:=by
 simp only[aai] at hsz;obtain ⟨e1,e2,e3⟩:=hsz;refine app k i h0 hi (by rw[e1];exact o) hm (by rw[e1];exact x) (by rw[e1,e3]) (by rw[e1];decide) (iZ _) (by rw[e2];omega) (by simp only[maxLen];omega) fun ao' cap' h' o'=>?_;rw[e1,<-nz,<-aaf] at o';have:=hk ao' cap' h' o'
 rwa [aaf] at this
end rules
def In.cons3{K h x y z:PH}{hs:List PH}(hm:In K hs h):In K (x::y::z::hs) h:=In.cons (In.cons (In.cons hm))
end
section
attribute [local irreducible] Code.wp wpList Calls
section rules
variable {P:Program} {T:br} {w0:World} {ops:Array Oper} {Q:Exit->Act->World->Prop} {rest rest':List Oper} {n:Nat} {l l':Sl} {K:PH} {hs:List PH}
def G8(T:br)(ops:Array Oper)(n k:Nat)(rest:List Oper)(l:Sl):Option (Nat×ByteArray×Int×List Oper×Sl):=
 match fc T ops n k rest l with
 | some (o,r,l')=>match o.dst,o.op with
  | some d,.index t x i=>match Nat.blt d n,asc T.kinds t,ev l' x,ev l' i with
   | true,some .str,some (.string s),some (.int _ j)=>some (d,s,j,r,l')
   | _,_,_,_=>none
  | _,_=>none
 | _=>none
def sr{d:TypeDesc}(h:UK.fits .str d=true):d=.string:=by cases d <;> simp[UK.fits] at h ⊢
def pa[hT:TabOK P T](k:Nat){d:Nat}{i:Int}(xs:List UInt8)(j:Nat){b:UInt8}{s:ByteArray}
  (h0:G8 T ops n k rest l=some (d,s,i,rest',l')) (hs1:s=⟨xs.toArray⟩) (hj:i=(j:Int)) (hb':xs[j]?=some b)
  (hk:WL P w0 ops Q rest' n ((d,.int .u8 b.toNat)::l') K hs):WL P w0 ops Q rest n l K hs:=by
 unfold G8 at h0
 split at h0
 ·rename_i o r l2 ho
  split at h0
  ·rename_i d' t x' i' hd hop
   split at h0
   ·rename_i s' kk jj hb hsi hx hi;simp only[aad,aai] at h0;obtain ⟨rfl,rfl,rfl,rfl,rfl⟩:=h0;subst hj hs1;obtain ⟨dd,g1,g2⟩:=hT.kind hsi;obtain rfl:=sr g2;refine WL.at' ho fun hg=>WL.val (R:=fun u K' hs'=>u=.int .u8 b.toNat/\K'=K/\hs'=hs) hd hb hg (fun A w ha hw=>⟨_,w,K,hs,?_,hw,I,I,I⟩) ?_
    ·have h2:(⟨xs.toArray⟩:ByteArray)[j]?=some b:=by
      obtain ⟨hlt,he⟩:=aas.1 hb';have hsz:j<(⟨xs.toArray⟩:ByteArray).size:=by simpa[ByteArray.size] using hlt
      simp_all [ByteArray.getElem_eq_getElem_data]
     simp only[execOp,hop,ha.ev hx,ha.ev hi];simp[Instr.index,asIntOf,run_underlying g1,h2]
    rintro u K' hs' ⟨rfl,rfl,rfl⟩;exact hk
   simp at h0
  simp at h0
 simp at h0
def GF(T:br)(ops:Array Oper)(n k:Nat)(rest:List Oper)(l:Sl):Option (Nat×ByteArray×Option Int×Option Int×List Oper×Sl):=
 match fc T ops n k rest l with
 | some (o,r,l')=>match o.dst,o.op with
  | some d,.slice t x (some lo) none none=>match Nat.blt d n,asc T.kinds t,ev l' x,ev l' lo with
   | true,some .str,some (.string s),some (.int _ i)=>some (d,s,some i,none,r,l')
   | _,_,_,_=>none
  | some d,.slice t x (some lo) (some hi) none=>match Nat.blt d n,asc T.kinds t,ev l' x,ev l' lo,ev l' hi with
   | true,some .str,some (.string s),some (.int _ i),some (.int _ j)=>some (d,s,some i,some j,r,l')
   | _,_,_,_,_=>none
  | _,_=>none
 | _=>none
def Fb(xs:List UInt8)(L H:Nat)(h1:L<=H)(h2:H<=ba xs):Value.string ((⟨xs.toArray⟩:ByteArray).extract L H)=str ((xs.drop L).take (H-L)):=by
 unfold str
 congr 1
 apply ByteArray.ext
 simp
def zG[hT:TabOK P T](k:Nat){d:Nat}{lo hi:Option Int}(xs:List UInt8)(L H:Nat){s:ByteArray}
  (h0:GF T ops n k rest l=some (d,s,lo,hi,rest',l')) (hs1:s=⟨xs.toArray⟩) (hL:lo=some (L:Int)) (hH:hi.getD (ba xs)=(H:Int)) (h1:L<=H) (h2:H<=ba xs)
  (hk:WL P w0 ops Q rest' n ((d,str ((xs.drop L).take (H-L)))::l') K hs):WL P w0 ops Q rest n l K hs:=by
 have hsz:(⟨xs.toArray⟩:ByteArray).size=ba xs:=by rfl
 have he:=Fb xs L H h1 h2;unfold GF at h0
 split at h0
 ·rename_i o r l2 ho
  split at h0
  ·rename_i d' t x' lo' hd hop
   split at h0
   ·rename_i s' kk ii hb hsi hx hi;simp only[aad,aai] at h0;obtain ⟨rfl,rfl,rfl,rfl,rfl,rfl⟩:=h0;simp only[aad] at hL;simp only[abm] at hH;subst hs1 hL;obtain ⟨dd,g1,g2⟩:=hT.kind hsi;obtain rfl:=sr g2;refine WL.at' ho fun hg=>WL.val (R:=fun u K' hs'=>u=str ((xs.drop L).take (H-L))/\K'=K/\hs'=hs) hd hb hg (fun A w ha hw=>⟨_,w,K,hs,?_,hw,he,I,I⟩) ?_
    ·have h3:H=ba xs:=qo
     subst h3;have h4:((L:Nat):Int)<=((ba xs:Nat):Int):=qo
     simp only[execOp,hop,ha.ev hx];simp[Instr.sliceAt,Instr.slice,Instr.sliceBounds,Instr.sliceBound,asIntOf,run_underlying g1,hsz,ha.ev hi,h1]
    rintro u K' hs' ⟨rfl,rfl,rfl⟩;exact hk
   simp at h0
  ·rename_i d' t x' lo' hi' hd hop
   split at h0
   ·rename_i s' kk ii kk2 jj hb hsi hx hi1 hi2;simp only[aad,aai] at h0;obtain ⟨rfl,rfl,rfl,rfl,rfl,rfl⟩:=h0;simp only[aad] at hL;simp only[aaZ] at hH;subst hs1 hL hH;obtain ⟨dd,g1,g2⟩:=hT.kind hsi;obtain rfl:=sr g2;refine WL.at' ho fun hg=>WL.val (R:=fun u K' hs'=>u=str ((xs.drop L).take (H-L))/\K'=K/\hs'=hs) hd hb hg (fun A w ha hw=>⟨_,w,K,hs,?_,hw,he,I,I⟩) ?_
    ·simp only[execOp,hop,ha.ev hx];simp[Instr.sliceAt,Instr.slice,Instr.sliceBounds,Instr.sliceBound,asIntOf,run_underlying g1,hsz,ha.ev hi1,ha.ev hi2,h1,h2]
    rintro u K' hs' ⟨rfl,rfl,rfl⟩;exact hk
   simp at h0
  simp at h0
 simp at h0
def Hp(T:br)(ops:Array Oper)(n k:Nat)(rest:List Oper)(l:Sl):Option (Nat×Nat×Addr×Int×List Oper×Sl):=
 match fc T ops n k rest l with
 | some (o,r,l')=>match o.dst,o.op with
  | some d,.indexAddr t x i=>match Nat.blt d n,ev l' x,ev l' i with
   | true,some (.pointer (some a)),some (.int _ j)=>some (d,t,a,j,r,l')
   | _,_,_=>none
  | _,_=>none
 | _=>none
def nQ[hT:TabOK P T](k:Nat){d t len e sz:Nat}{a:Addr}{i:Int}(j:Nat)(h0:Hp T ops n k rest l=some (d,t,a,i,rest',l'))(hu:P.underlying t=some (.array len e))(he:(P.info? e).map (·.size)=some sz)(hj:i=(j:Int))(hjn:j<len)
  (hk:WL P w0 ops Q rest' n ((d,.pointer (some (a.add (j*sz))))::l') K hs):WL P w0 ops Q rest n l K hs:=by
 unfold Hp at h0
 split at h0
 ·rename_i o r l2 ho
  split at h0
  ·rename_i d' t x' i' hd hop
   split at h0
   ·rename_i a' kk jj hb hx hi;simp only[aad,aai] at h0;obtain ⟨rfl,rfl,rfl,rfl,rfl,rfl⟩:=h0;subst hj;cases hii:P.info? e with
    | none=>rw[hii] at he;cases he
    | some ii=>
     rw[hii] at he;have hsz:ii.size=sz:=by simpa using he
     refine WL.at' ho fun hg=>WL.val (R:=fun u K' hs'=>u=.pointer (some<|a'.add (j*sz))/\K'=K/\hs'=hs) hd hb hg (fun A w ha hw=>⟨_,w,K,hs,?_,hw,I,I,I⟩) ?_
     ·simp only[execOp,hop,ha.ev hx,ha.ev hi];simp[Instr.indexAt,Instr.sureAddr,asIntOf,run_underlying hu,sizeOf,typeInfo,hii,hsz,hjn]
     rintro u K' hs' ⟨rfl,rfl,rfl⟩;exact hk
   simp at h0
  simp at h0
 simp at h0
end rules
section make
variable {P:Program} {T:br} {w0:World} {ops:Array Oper} {Q:Exit->Act->World->Prop} {rest rest':List Oper} {n:Nat} {l l':Sl} {K:PH} {hs:List PH}
def qL(T:br)(ops:Array Oper)(n k:Nat)(rest:List Oper)(l:Sl):Option (Nat×eU×Int×Int×List Oper×Sl):=
 match fc T ops n k rest l with
 | some (o,r,l')=>match o.dst,o.op with
  | some d,.makeSlice t x y=>match Nat.blt d n,asc T.sls t,ev l' x,ev l' y with
   | true,some si,some (.int .i64 i),some (.int .i64 j)=>some (d,si,i,j,r,l')
   | _,_,_,_=>none
  | _,_=>none
 | _=>none
def Sd[hT:TabOK P T](k:Nat){d:Nat}{si:eU}{i j:Int}(N:Nat)(z:Value)(h0:qL T ops n k rest l=some (d,si,i,j,rest',l'))(hi:i=(N:Int))(hj:j=(N:Int))(hz:(si.size,si.zero.cells)=(1,#[z]))(hr:N*si.bytes<=roomBytes)(hN0:0<N)(hN:N<=16777216)(hb2:si.bytes<=1024)
  (hk:∀ b,aZ (pt b (Array.replicate N z) si.elem) (some ⟨b,0,none⟩) N N si.elem 1 (List.replicate N z)->WL P w0 ops Q rest' n ((d,.slice (some ⟨b,0,none⟩) N N)::l') K (pt b (Array.replicate N z) si.elem::hs)):WL P w0 ops Q rest n l K hs:=by
 simp only[aai] at hz;obtain ⟨z1,z2⟩:=hz;unfold qL at h0
 split at h0
 ·rename_i o r l2 ho
  split at h0
  ·rename_i d' t x y hd hop
   split at h0
   ·rename_i si' ii jj hb hsi hx hy;simp only[aad,aai] at h0;obtain ⟨rfl,rfl,rfl,rfl,rfl,rfl⟩:=h0;subst hi hj;obtain ⟨h1,im,h2,h3,h4,h5⟩:=hT.sl hsi
    refine WL.at' ho fun hg=>WL.val (R:=fun u K' hs'=>∃ b,u=.slice (some ⟨b,0,none⟩) N N/\K'=K/\hs'=pt b (Array.replicate N z) si'.elem::hs) hd hb hg
     (fun A w ha hw=>⟨.slice (some ⟨w.heap.size,0,none⟩) N N,_,K,_,?_,hw.alloc _,w.heap.size,rfl,rfl,rfl⟩) ?_
    ·have e1:IntKind.i64.wrap ((N:Nat):Int)=(N:Int):=by grind [IntKind.wrap,IntKind.bits]
     simp only[execOp,hop,ha.ev hx,ha.ev hy];rw[h5.symm] at hr hb2;have hm:im.bytes*N<=1024*16777216:=ab2 hb2 hN
     have c2:¬(281474976710656:Int)<(im.bytes:Int)*(N:Int):=by
      omega
     have c1:¬((N:Nat):Int)<0:=qo
     have c3:¬roomBytes<N*im.bytes:=qo
     have hz:N≠0:=qo
     have hz2:(Array.map (fun x=>[z][x % 1]?.getD default) (Array.range N))=Array.replicate N z:=by
      grind
     simp[Instr.makeSlice,asInt,asIntOf,run_underlying h1,sizeOf,typeInfo,h2,h4,e1,z1,c1,c2,c3,askRoom,newRow,zeroValue,h3,z2,hz,hz2,pt]
    rintro u K' hs' ⟨b,rfl,rfl,rfl⟩;exact hk b (by simpa using aZ.ofPt (b:=b) (c:=Array.replicate N z) (e:=si'.elem) (n:=N) (size:=1) ST (by simp only[maxLen];omega))
   simp at h0
  simp at h0
 simp at h0
end make
section three
variable {P:Program} {T:br} {w0:World} {ops:Array Oper} {Q:Exit->Act->World->Prop} {rest rest':List Oper} {n:Nat} {l l':Sl} {K:PH} {hs:List PH}
end three
section openx
variable {P:Program} {T:br} {w0:World} {ops:Array Oper} {Q:Exit->Act->World->Prop} {plan plan':List Nat} {z:Nat} {listed listed':Array Bool} {n:Nat} {l l':Sl} {K K0:PH} {hs A:List PH}
end openx
section clear
variable {P:Program} {T:br} {w0:World} {ops:Array Oper} {Q:Exit->Act->World->Prop} {rest rest':List Oper} {n:Nat} {l l':Sl} {K:PH} {hs:List PH}
end clear
end
section
def fz(r:Option Nat):Fence:={ fn:=fun _=>True,depth:=none,alive:=false,round:=r }
def wd(ds:List Deferred)(a:Act):Act:={ a with defers:=ds }
def lC(ds:List Deferred)(Q:Exit->Act->World->Prop):Exit->Act->World->Prop
 | .outgrown,_,_=>False
 | e,a,w=>a.defers=[]/\Q e (wd ds a) w
def WX(P:Program)(w0:World)(r:Option Nat)(ds:List Deferred)(c:Code)(Q:Exit->Act->World->Prop)(n:Nat)(l:Sl)(K:PH)(hs:List PH):Prop:=
 ∀ a w,Ag n l a->aY w0 w K hs->c.wpIn (fz r) 0 P Q (wd ds a) w
def cH(ds:List Deferred)(w0:World)(Q:Exit->Act->World->Prop)(e:Exit)(n:Nat)(l:Sl)(K:PH)(hs:List PH):Prop:=
 ∀ a w,Ag n l a->aY w0 w K hs->Q e (wd ds a) w
def iB(P:Program)(w0:World)(r:Option Nat)(ds:List Deferred)(ops:Array Oper)(Q:Exit->Act->World->Prop)(rest:List Oper)(n:Nat)(l:Sl)(K:PH)(hs:List PH):Prop:=
 ∀ a w,Ag n l a->aY w0 w K hs->wpListIn (fz r) 0 P ops Q rest (wd ds a) w
def qv(ds:List Deferred)(a:Act)(d:Option Tmp)(v:Value):wd ds (a.put d v)=(wd ds a).put d v:=by cases d <;> rfl
def Mn{r:Option Nat}{P:Program}{f:FuncId}{args:Array Value}{w:World}{R:Ending->World->Prop}(h:Calls P f args w R):CallsIn (fz r) 0 P f args w R:=by
 have h1:CallsIn Fence.wide 0 P f args w R:=callsIn_wide.2 h;cases r with
 | none=>exact h1
 | some l=>exact h1
def Nn{r:Option Nat}{P:Program}{row:String}{args:Array Value}{w:World}{R:Value->World->Prop}(h:Rows P row args w R):RowsIn (fz r) 0 P row args w R:=
 fun c cs _=>let ⟨v,w',hr,s⟩:=h c cs;⟨v,w',hr,(stepsIn_wide.2 s:StepsIn (Machine.fenced P Fence.wide) P _ _)⟩
theorem y7{ds:List Deferred}{Q:Exit->Act->World->Prop}{e:Exit}{a:Act}{w:World}(h:lC ds Q e a w):a.defers=[]:=by cases e <;> first|exact h.1|exact h.elim
theorem ol(a:Act)(d:Option Tmp)(v:Value):(a.put d v).defers=a.defers:=by cases d <;> rfl
def FA{P:Program}{o:Oper}{a:Act}{N:Act->World->Prop}{Q:Exit->Act->World->Prop}(hN:∀ a w,N a w->a.defers=[])(hQ:∀ e a w,Q e a w->a.defers=[])(hg:∀ a w,¬Q .outgrown a w){x:Result Next}(h:o.upon P a N Q x):a.defers=[]:=by
 cases x with
 | ok n w'=>
  cases n <;> simp only[Oper.upon] at h <;> first
   | exact (ol _ _ _).symm.trans (hN _ _ h)
   | exact h.elim
   | (
     have:=hN _ _ h
     rw[ol] at this;cases this)
   | (
     obtain ⟨v,w1,hR,_⟩:=h default []
     exact (ol _ _ _).symm.trans (hN _ _ hR))
   | (
     obtain ⟨e,w1,fr,hR,_⟩:=h []
     cases e with
     | returned v=>exact (ol _ _ _).symm.trans (hN _ _ hR)
     | panicked c=>exact hQ _ _ _ hR
     | outgrown=>obtain ⟨a1,w1,hh⟩:=hR;exact (hg _ _ hh).elim)
 | halt x w'=>
  cases x <;> simp only[Oper.upon] at h <;> first
   | exact h.elim
   | exact hQ _ _ _ h
def MH{r:Option Nat}{P:Program}{o:Oper}{a:Act}{ds:List Deferred}{N N':Act->World->Prop}{Q Q':Exit->Act->World->Prop}(hd:∀ a w,N a w->a.defers=[])(hN:∀ a w,N a w->N' (wd ds a) w)(hQ:∀ c w,Q (.panic c) a w->Q' (.panic c) (wd ds a) w)
  (hg:∀ a w,¬Q .outgrown a w) {x:Result Next} (h:o.upon P a N Q x):o.uponIn (fz r) 0 P (wd ds a) N' Q' x:=by
 cases x with
 | ok n w'=>
  cases n <;> simp only[Oper.upon] at h <;> first
   | (simp only[Oper.uponIn,<-qv];exact hN _ _ h)
   | exact h.elim
   | (
     have:=hd _ _ h
     rw[ol] at this;cases this)
   | (
     refine ⟨by simp[fz],(Nn h).mono fun v w'' he=>?_⟩
     simp only[<-qv];exact hN _ _ he)
   | (
     refine ⟨by simp[fz],(Mn h).mono fun e w'' he=>?_⟩
     cases e with
     | returned v=>simp only[<-qv];exact hN _ _ he
     | panicked c=>exact hQ _ _ he
     | outgrown=>obtain ⟨a1,w1,hh⟩:=he;exact (hg _ _ hh).elim)
 | halt x w'=>
  cases x <;> simp only[Oper.upon] at h ⊢ <;> first
   | exact h.elim
   | exact hQ _ _ h
theorem wW{P:Program}{ops:Array Oper}{ds:List Deferred}{Q:Exit->Act->World->Prop}:∀ (rest:List Oper) (a:Act) (w:World),wpList P ops (lC ds Q) rest a w->a.defers=[]
 | [],a,w,h=>y7 h
 | o::rest,a,w,h=>by
  unfold wpList at h
  split at h
  ·rcases h with h|⟨_,a1,w1,h⟩
   ·exact FA (Q:=lC ds Q) (fun a w=>wW rest a w) (fun e a w h=>y7 h) (fun a w h=>h) h
   exact h.elim
  exact (ol _ _ _).symm.trans<|wW rest _ _ h
def IQ{P:Program}{o:Oper}{a:Act}{w:World}{N:Act->World->Prop}{Q:Exit->Act->World->Prop}(hN:∀ a w,N a w->a.defers=[])(h:o.wp P a w N Q){c:Call}(hc:o.op=.defer c):∃ v w',(resolve a.eval c o.type).run P w=.halt v w':=by
 unfold Oper.wp at h;simp only[execOp,hc] at h;rw[Sem.run_bind] at h;cases e:(resolve a.eval c o.type).run P w with
 | ok x w1=>
  grind [Sem.run_pure,ol,Result.andThen,Oper.upon]
 | halt v w1=>simp
def Ef{r:Option Nat}{P:Program}{o:Oper}{a:Act}{w:World}{ds:List Deferred}{N N':Act->World->Prop}{Q Q':Exit->Act->World->Prop}(hd:∀ a w,N a w->a.defers=[])(hN:∀ a w,N a w->N' (wd ds a) w)(hQ:∀ c w,Q (.panic c) a w->Q' (.panic c) (wd ds a) w)
  (hg:∀ a w,¬Q .outgrown a w) (h:o.wp P a w N Q):o.wpIn (fz r) 0 P (wd ds a) w N' Q':=by
 refine ⟨fun _ _=>trivial,?_⟩;have h1:=MH (r:=r) hd hN hQ hg h
 by_cases hc:∃ c,o.op=.defer c
 ·obtain ⟨c,hc⟩:=hc;obtain ⟨v,w1,he⟩:=IQ hd h hc;have e1:(execOp a.eval o).run P w=.halt v w1:=by simp_all [execOp]
  rw[e1] at h1
  have e2:(o.semAt (fz r).round (wd ds a).eval).run P w=.halt v w1:=by
   cases r with
   | none=>exact e1
   | some l=>
    simp only[Oper.semAt,fz,hc];rw[Sem.run_bind];show Result.andThen ((resolve a.eval c o.type).run P w) _=_;rw[he];rfl
  rw[e2];exact h1
 have e2:o.semAt (fz r).round (wd ds a).eval=execOp a.eval o:=Oper.semAt_eq _ _ _ (fun c hh=>hc ⟨c,hh⟩);rw[e2];exact h1
theorem uc{r:Option Nat}{P:Program}{ops:Array Oper}{ds:List Deferred}{Q Q':Exit->Act->World->Prop}(rest2:List Oper)(hn:∀ a w,Q .normal (wd ds a) w->wpListIn (fz r) 0 P ops Q' rest2 (wd ds a) w)(hp:∀ c a w,Q (.panic c) (wd ds a) w->Q' (.panic c) (wd ds a) w):∀ (rest:List Oper) (a:Act) (w:World),wpList P ops (lC ds Q) rest a w->wpListIn (fz r) 0 P ops Q' (rest++rest2) (wd ds a) w
 | [],a,w,h=>hn a w h.2
 | o::rest,a,w,h=>by
  unfold wpList at h;rw[aaz];unfold wpListIn;show if Region.wanted o (yielded ops a.tmps)=true then _ else _
  split at h
  ·rename_i hw;rw[aab hw];rcases h with h|⟨_,a1,w1,h⟩
   ·exact Ef (fun a w=>wW rest a w) (fun a w=>uc rest2 hn hp rest a w) (fun c w h=>hp c a w h.2) (fun a w h=>h) h
   exact h.elim
  rename_i hw;rw[aaa hw];exact ⟨fun _ _=>trivial,by rw[<-qv];exact uc rest2 hn hp rest _ w h⟩
def EW{r:Option Nat}{P:Program}{ops:Array Oper}{ds:List Deferred}{Q:Exit->Act->World->Prop}(rest:List Oper)(a:Act)(w:World)(h:wpList P ops (lC ds Q) rest a w):wpListIn (fz r) 0 P ops Q rest (wd ds a) w:=by
 have:=uc (r:=r) (ds:=ds) (Q:=Q) (Q':=Q) (P:=P) (ops:=ops) [] (fun a w h=>h) (fun c a w h=>h) rest a w h
 rwa [aaw] at this
theorem Oh{ds:List Deferred}{Q:Exit->Act->World->Prop}(e:Exit)(a:Act)(w:World)(h:lC ds Q e a w):Q e (wd ds a) w:=by cases e <;> first|exact h.2|exact h.elim
theorem vh{P:Program}{md:Region.Mode}{ops:Array Oper}{q:Act->World->Prop}{S:Array Bool->World->Prop}(hq:∀ a w,q a w->a.defers=[]):∀ (f:Nat) (L:Array Bool) (a:Act) (w:World),tr P md ops q S f L a w->a.defers=[]
 | 0,_,a,w,h=>hq _ _ h.2
 | f+1,L,a,w,h=>by
  cases e:Region.ready md ops L with
  | nil=>exact hq _ _ (h.1 e)
  | cons i rs=>
   have h1:=h.2 i (by rw[e];simp);unfold wpOp at h1
   split at h1
   ·exact vh hq f _ _ _ h1.2
   split at h1
   ·rcases h1 with h1|⟨_,a1,w1,h1⟩
    ·exact FA (fun a w h=>vh hq f _ _ _ h.2) (fun e a w h=>by cases e <;> first|exact hq _ _ h|exact h.elim) (fun a w h=>h) h1
    exact h1.elim
   exact (ol _ _ _).symm.trans<|vh hq f _ _ _ h1.2
theorem uR{r:Option Nat}{P:Program}{md:Region.Mode}{ops:Array Oper}{ds:List Deferred}{q:Act->World->Prop}{S:Array Bool->World->Prop}{Q:Exit->Act->World->Prop}(hd:∀ a w,q a w->a.defers=[])(hq:∀ a w,q a w->Q .normal (wd ds a) w):
  ∀ (f:Nat) (L:Array Bool) (a:Act) (w:World),tr P md ops q S f L a w->wpAnyIn (fz r) 0 P md ops Q f L (wd ds a) w
 | 0,_,a,w,h=>⟨h.1,hq _ _ h.2⟩
 | f+1,L,a,w,h=>by
  refine ⟨fun h0=>hq _ _ (h.1 h0),fun i hi=>?_⟩;have h1:=h.2 i hi;unfold wpOp at h1;unfold wpOpIn
  split at h1
  ·rename_i e;simp only[e];exact uR hd hq f _ _ _ h1.2
  rename_i o e;simp only[e]
  split at h1
  ·rename_i hw;rw[aab (show Region.wanted o (yielded ops (wd ds a).tmps)=true from hw)];rcases h1 with h1|⟨_,a1,w1,h1⟩
   ·exact Ef (fun a w h=>vh hd f _ _ _ h.2) (fun a w h=>uR hd hq f _ _ _ h.2) (fun c w h=>h.elim) (fun a w h=>h) h1
   exact h1.elim
  rename_i hw;rw[aaa (show ¬Region.wanted o (yielded ops (wd ds a).tmps)=true from hw)];exact ⟨fun _ _=>trivial,by rw[<-qv];exact uR hd hq f _ _ _ h1.2⟩
section code
variable {P:Program} {w0:World} {r:Option Nat} {ds:List Deferred} {Q:Exit->Act->World->Prop} {n:Nat} {l:Sl} {K:PH} {hs:List PH}
def de{x y:Code}(h:WX P w0 r ds x (Exit.then (y.wpIn (fz r) 0 P Q) Q) n l K hs):WX P w0 r ds (.seq x y) Q n l K hs:=
 fun a w ha hw=>wpIn_seq (h a w ha hw)
def dX{id:Nat}{o:List Oper}(h:WL P w0 o.toArray (lC ds Q) o n l K hs):WX P w0 r ds (.region id o.toArray false) Q n l K hs:=
 fun a w ha hw=>wpIn_region_lit (EW o a w (h a w ha hw))
def lg{id:Nat}{c:Code}(h:WX P w0 r ds c (Exit.inBlock id Q) n l K hs):WX P w0 r ds (.block id c) Q n l K hs:=
 fun a w ha hw=>wpIn_block (h a w ha hw)
def zP{id:Nat}(h:cH ds w0 Q (.exit id) n l K hs):WX P w0 r ds (.exit id) Q n l K hs:=
 fun a w ha hw=>wpIn_exit (h a w ha hw)
def pb(h:cH ds w0 Q .ret n l K hs):WX P w0 r ds .ret Q n l K hs:=
 fun a w ha hw=>wpIn_ret (h a w ha hw)
def nk(h:cH ds w0 Q .normal n l K hs):WX P w0 r ds .skip Q n l K hs:=
 fun a w ha hw=>wpIn_skip (h a w ha hw)
def tj{n:Nat}{l:Sl}{a:Act}(h:Ag n l a){x:Operand}{v:Value}(hx:ev l x=some v):(wd ds a).eval x=v:=h.ev hx
def vA{c:Operand}{x y:Code}(hc:ev l c=some (.bool true))(h:WX P w0 r ds x Q n l K hs):WX P w0 r ds (.cond c x y) Q n l K hs:=
 fun a w ha hw=>wpIn_cond_true (tj ha hc) (h a w ha hw)
def sZ{c:Operand}{x y:Code}(hc:ev l c=some (.bool false))(h:WX P w0 r ds y Q n l K hs):WX P w0 r ds (.cond c x y) Q n l K hs:=
 fun a w ha hw=>wpIn_cond_false (tj ha hc) (h a w ha hw)
def RC{c:Operand}{x y:Code}{b:Bool}(hc:ev l c=some (.bool b))(h:b=true->WX P w0 r ds x Q n l K hs)(h':b=false->WX P w0 r ds y Q n l K hs):WX P w0 r ds (.cond c x y) Q n l K hs:=
 fun a w ha hw=>wpIn_cond_split (tj ha hc) (fun e=>h e a w ha hw) (fun e=>h' e a w ha hw)
def pR{c:Operand}{x y:Code}{b:Bool}{p:Prop}(hb:b=true↔p)(hc:ev l c=some (.bool b))(h:p->WX P w0 r ds x Q n l K hs)(h':¬p->WX P w0 r ds y Q n l K hs):WX P w0 r ds (.cond c x y) Q n l K hs:=
 RC hc (fun e=>h (hb.1 e)) (fun e=>h' (fun hp=>by rw[hb.2 hp] at e;cases e))
def dQ(h:cH ds w0 Q .normal n l K hs):WQ w0 (lC ds Q) .normal n l K hs:=fun a w ha hw=>⟨ha.defers,h a w ha hw⟩
def dR{y:Code}{Q':Exit->Act->World->Prop}(h:WX P w0 r ds y Q n l K hs):cH ds w0 (Exit.then (y.wpIn (fz r) 0 P Q) Q') .normal n l K hs:=h
def mu{id:Nat}(h:cH ds w0 Q .normal n l K hs):cH ds w0 (Exit.inBlock id Q) .normal n l K hs:=h
def tf{id:Nat}{N:Act->World->Prop}(h:cH ds w0 Q (.exit id) n l K hs):cH ds w0 (Exit.then N Q) (.exit id) n l K hs:=h
def zF{id:Nat}(h:cH ds w0 Q .normal n l K hs):cH ds w0 (Exit.inBlock id Q) (.exit id) n l K hs:=fun a w ha hw=>by
 simpa[Exit.inBlock] using h a w ha hw
def RZ{id id':Nat}(hne:Nat.beq id' id=false)(h:cH ds w0 Q (.exit id') n l K hs):cH ds w0 (Exit.inBlock id Q) (.exit id') n l K hs:=fun a w ha hw=>by
 have:id'≠id:=ace hne;simpa[Exit.inBlock,this] using h a w ha hw
def vP{N:Act->World->Prop}(h:cH ds w0 Q .ret n l K hs):cH ds w0 (Exit.then N Q) .ret n l K hs:=h
def zK{id:Nat}(h:cH ds w0 Q .ret n l K hs):cH ds w0 (Exit.inBlock id Q) .ret n l K hs:=h
def qM{σ:Type}{body:Code}(F:σ->Sl)(HK:σ->PH)(H:σ->List PH)(J:σ->Prop)(μ:σ->Nat)(x0:σ)(h0:J x0)(hF:lh l (F x0))(hK:K=HK x0)(hH:hs=H x0)
  (round:∀ x,J x->WX P w0 r ds body (Exit.then (fun a w=>∃ x',J x'/\μ x'<μ x/\(∃ a',a=wd ds a'/\Ag n (F x') a')/\aY w0 w (HK x') (H x')) Q) n (F x) (HK x) (H x)):
  WX P w0 r ds (.loop body) Q n l K hs:=fun a w ha hw=>by
 subst hK;subst hH;refine wpIn_loop_ghost (fun m a w=>∃ x,J x/\μ x=m/\(∃ a',a=wd ds a'/\Ag n (F x) a')/\aY w0 w (HK x) (H x)) (μ x0) ⟨x0,h0,I,⟨a,I,ha.sub hF⟩,hw⟩ ?_;rintro m a w ⟨x,hJ,rfl,⟨a',rfl,hA⟩,hS⟩;refine wpIn_mono (round x hJ a' w hA hS) ?_
 grind
def qE{σ:Type}{F:σ->Sl}{HK:σ->PH}{H:σ->List PH}{J:σ->Prop}{μ:σ->Nat}{x:σ}{Q':Exit->Act->World->Prop}(x':σ)(hF:lh l (F x'))(hK:K=HK x')(hH:hs=H x')
  (h1:J x') (h2:μ x'<μ x):cH ds w0 (Exit.then (fun a w=>∃ x',J x'/\μ x'<μ x/\(∃ a',a=wd ds a'/\Ag n (F x') a')/\aY w0 w (HK x') (H x')) Q') .normal n l K hs:=fun a w ha hw=>by
 subst hK;subst hH;exact ⟨x',h1,h2,⟨a,I,ha.sub hF⟩,hw⟩
def oJ{id:Nat}{o:List Oper}(A:List PH)(z:Nat)(plan:List Nat)(hA:∀ h∈A,h∈hs)(hm:P.follows .mixedOrders=true)(hp:(gK .any o.toArray plan (Array.replicate o.toArray.size false) && Nat.beq (ba plan) o.toArray.size)=true)
  (h:WA P w0 o.toArray (lC ds Q) K A z plan (Array.replicate o.toArray.size false) n l K hs):WX P w0 r ds (.region id o.toArray true) Q n l K hs:=by
 intro a w ha hw;simp only[aaJ] at hp;refine wpIn_region_any hm ?_;have hlen:ba plan=o.toArray.size:=aaM hp.2;have hw':aY w0 { w with drawn:=w.drawn+1 } K hs:=hw.drew
 have hc:gm .any o.toArray (Array.replicate o.toArray.size false):=by
  refine ⟨ST,?_⟩
  grind [getD_replicate_false]
 have hh:=h hp.1 hc a { w with drawn:=w.drawn+1 } ha hw' (fun _=>fo.ofMem hw' hA)
 grind [uR,y7,Oh]
end code
def np(D:Nat):Deferred:={ target:=.collected D,args:=#[] }
def ic(D:Nat):PH:=sg D (.deferred (some []))
theorem aY.putObj{w0 w:World}{K:PH}{hs:List PH}(s:aY w0 w K hs){i b:Nat}{o:Obj}(hi:hs[i]?=some (sg b o))(o':Obj):aY w0 (w.putObj b o') K (hs.set i (sg b o')):=by
 have hb:w.heap[b]?=some o:=s.own i _ hi b _ ST;refine s.upd hi I I I ST ?_ ?_ ?_
 ·intro x u hx;simp only[sg] at hx
  grind [World.putObj_heap_same]
 ·intro x hx hn;simp only[sg] at hn
  grind [World.putObj_heap_other]
 simp
def aY.dropLast{w0 w:World}{K x:PH}{hs:List PH}(s:aY w0 w K (hs++[x])):aY w0 w K hs:=(s.perm (abv x hs)).dropHead
def aY.putLast{w0 w:World}{K:PH}{hs:List PH}{b:Nat}{o:Obj}(s:aY w0 w K (hs++[sg b o]))(o':Obj):aY w0 (w.putObj b o') K (hs++[sg b o']):=by
 have:=s.putObj (i:=ba hs) (b:=b) (o:=o) ST o'
 simp_all
def aY.last{w0 w:World}{K:PH}{hs:List PH}{b:Nat}{o:Obj}(s:aY w0 w K (hs++[sg b o])):w.heap[b]?=some o:=s.own (ba hs) (sg b o) ST b o ST
def sM{P:Program}{w0:World}{f:FuncId}{fn:Func}{c:Code}{n:Nat}{args:List Value}{K:PH}{hs:List PH}{R:Value->PH->List PH->Prop}
  (hf:P.funcs[f]?=some fn) (hcal:jN P f=true) (hb:fn.body=some c) (hn:fn.ntmps=n) (hl:Nat.ble (ba args) n=true)
  (h:WX P w0 none [] c (bodyPostM (fz none) 0 P fn (fK w0 R)) n (params 0 args) K hs):Ct P w0 f args K hs R:=by
 refine ⟨hcal,fun w hw=>callsIn_wide.1 (callsIn_of_wp_marks (F:=fz none) (n:=0) hf hb trivial<|h { tmps:=args.toArray++Array.replicate (fn.ntmps-args.toArray.size) undef,defers:=[] } w ⟨?_,I,?_⟩ hw)⟩
 ·simp_all
 intro t v ht;obtain ⟨h1,h2⟩:=wm args 0 t v ht
 grind
section ret
variable {P:Program} {w0:World} {fn:Func} {R:Value->PH->List PH->Prop} {n:Nat} {l:Sl} {K:PH} {hs hs':List PH} {v x y:Value}
def yM{e:Exit}(he:e=.ret\/e=.normal)(hres:∀ a w,Ag n l a->aY w0 w K hs->(results fn a.tmps).run P w=.ok v w)(h:R v K hs):cH [] w0 (bodyPostM (fz none) 0 P fn (fK w0 R)) e n l K hs:=by
 intro a w ha hw;rcases he with rfl|rfl <;> exact ⟨v,hres a w ha hw,v,K,hs,rfl,h,hw⟩
def Qj{e:Exit}(D:Nat)(hh:hs=hs'++[ic D])(he:e=.ret\/e=.normal)(hres:∀ a w,Ag n l a->aY w0 w K hs'->(results fn a.tmps).run P w=.ok v w)(h:R v K hs'):cH [np D] w0 (bodyPostM (fz none) 0 P fn (fK w0 R)) e n l K hs:=by
 subst hh;intro a w ha hw;have h1:aY w0 (w.putObj D (.deferred none)) K hs':=(hw.putLast (.deferred none)).dropLast;have h2:=run_takeDeferred (P:=P) (hw.last);rcases he with rfl|rfl <;> exact ⟨ST,.inl ⟨D,_,rfl,h2,v,hres a _ ha h1,v,K,hs',rfl,h,h1⟩⟩
def Hc(hr:fn.results=#[]){a:Act}{w:World}:(results fn a.tmps).run P w=.ok (.tuple #[]) w:=results_none hr _ _ _
def Hb{t:Nat}(hr:fn.results=#[.tmp t])(hv:look l t=some v){a:Act}(ha:Ag n l a){w:World}:(results fn a.tmps).run P w=.ok v w:=by
 have:=results_tmp hr a.tmps P w;rw[this];simp[ha.slot t v hv]
def uV(hr:fn.results=#[])(h:R (.tuple #[]) K hs):cH [] w0 (bodyPostM (fz none) 0 P fn (fK w0 R)) .ret n l K hs:=yM (.inl rfl) (fun _ _ _ _=>Hc hr) h
def qO(hr:fn.results=#[])(h:R (.tuple #[]) K hs):cH [] w0 (bodyPostM (fz none) 0 P fn (fK w0 R)) .normal n l K hs:=yM (.inr rfl) (fun _ _ _ _=>Hc hr) h
def yN{t:Nat}(hr:fn.results=#[.tmp t])(hv:look l t=some v)(h:R v K hs):cH [] w0 (bodyPostM (fz none) 0 P fn (fK w0 R)) .ret n l K hs:=yM (.inl rfl) (fun _ _ ha _=>Hb hr hv ha) h
def uU(D:Nat)(hh:hs=hs'++[ic D]){t:Nat}(hr:fn.results=#[.tmp t])(hv:look l t=some v)(h:R v K hs'):cH [np D] w0 (bodyPostM (fz none) 0 P fn (fK w0 R)) .ret n l K hs:=Qj D hh (.inl rfl) (fun _ _ ha _=>Hb hr hv ha) h
end ret
def pi(P:Program)(w0:World)(L:Nat)(vs:List Value)(K:PH)(hs:List PH)(R:Value->PH->List PH->Prop):Prop:=∀ w,aY w0 w K hs->∃ fn tmps assign body,(Instr.yield L vs.toArray).run P w=.ok (.round L fn tmps assign body) w/\RoundIn (fz none) 0 P L fn tmps assign body w (fK w0 R)
def vL(P:Program)(w0:World)(f:Nat)(cap:List Value)(xs:List (List Value))(Rd:PH->List PH->Prop):Prop:=
 ∀ (L:Nat) (St:Nat->PH->List PH->Prop) (Sp:PH->List PH->Prop),(∀ i K hs,St i K hs->Rd K hs) ->
  (∀ i vs K hs,xs[i]?=some vs->St i K hs->pi P w0 L vs K hs (fun v K' hs'=>(v=.bool true/\St (i+1) K' hs')\/(v=.bool false/\Sp K' hs'))) ->
  ∀ K hs,St 0 K hs->Ct P w0 f (.func (.yield L) #[] #[]::cap) K hs (fun _ K' hs'=>St (ba xs) K' hs'\/Sp K' hs')
section it
variable {P:Program} {T:br} {w0:World} {r:Option Nat} {ds:List Deferred} {ops:Array Oper} {Q:Exit->Act->World->Prop} {rest rest':List Oper} {n:Nat} {l:Sl} {K:PH} {hs:List PH}
def tg{id:Nat}{o:List Oper}(h:iB P w0 r ds o.toArray Q o n l K hs):WX P w0 r ds (.region id o.toArray false) Q n l K hs:=fun a w ha hw=>wpIn_region_lit (h a w ha hw)
def iB.fin(h:WL P w0 ops (lC ds Q) rest n l K hs):iB P w0 r ds ops Q rest n l K hs:=fun a w ha hw=>EW rest a w (h a w ha hw)
def zw(P:Program)(r:Option Nat)(ops:Array Oper)(Q:Exit->Act->World->Prop)(rest2:List Oper):Exit->Act->World->Prop
 | .normal,a,w=>wpListIn (fz r) 0 P ops Q rest2 a w
 | _,_,_=>False
def iB.cut(k:Nat)(h:WL P w0 ops (lC ds (zw P r ops Q (rest.drop k))) (rest.take k) n l K hs):iB P w0 r ds ops Q rest n l K hs:=fun a w ha hw=>by
 have:=uc (r:=r) (Q:=zw P r ops Q (rest.drop k)) (Q':=Q) (rest.drop k) (fun a w h=>h) (fun c a w h=>h.elim) (rest.take k) a w (h a w ha hw)
 rwa [aaC] at this
def s9{rest2:List Oper}(h:iB P w0 r ds ops Q rest2 n l K hs):WQ w0 (lC ds (zw P r ops Q rest2)) .normal n l K hs:=fun a w ha hw=>⟨ha.defers,h a w ha hw⟩
def HN(ops:Array Oper)(n:Nat)(rest:List Oper)(l:Sl):Option (Nat×Nat×List Value×List Oper):=
 match rest with
 | o::r=>match ib ops l o.guard,o.dst,o.op with
  | some true,some d,.call { callee:=.value f,args,.. }=>match Nat.blt d n,ev l f,args.toList.mapM (ev l) with
   | true,some (.func (.yield L) first captured),some vs=>match first.toList with
    | []=>some (d,L,vs,r)
    | _=>none
   | _,_,_=>none
  | _,_,_=>none
 | []=>none
def te{d L:Nat}{vs:List Value}{R:Value->PH->List PH->Prop}(h0:HN ops n rest l=some (d,L,vs,rest'))(hc:pi P w0 L vs K hs R)(hk:∀ v K' hs',R v K' hs'->iB P w0 r ds ops Q rest' n ((d,v)::l) K' hs'):iB P w0 r ds ops Q rest n l K hs:=by
 unfold HN at h0
 split at h0
 ·rename_i o rr
  split at h0
  ·rename_i d' f args ats hg hd hop
   split at h0
   ·rename_i L' first captured vs' hb hf hvs
    split at h0
    ·rename_i hfi;simp only[aad,aai] at h0;obtain ⟨rfl,rfl,rfl,rfl⟩:=h0;have hfi':first=#[]:=by cases first;simp_all
     subst hfi';intro a w ha hw;have h1:=jl ha hg;have h6:=uJ ha _ _ hvs
     have h7:args.map a.eval=vs'.toArray:=by
      apply Array.ext'
      simpa using h6
     obtain ⟨fn,tmps,assign,body,hy,hR⟩:=hc w hw;unfold wpListIn;rw[aab (show Region.wanted o (yielded ops (wd ds a).tmps)=true from h1)];refine ⟨fun _ _=>trivial,?_⟩;have e1:o.semAt (fz r).round (wd ds a).eval=execOp a.eval o:=Oper.semAt_eq _ _ _ (fun c hh=>by rw[hop] at hh;cases hh)
     have e2:(execOp a.eval o).run P w=.ok (.round L' fn tmps assign body) w:=by
      simp only[execOp,hop];simp[resolve,h7,ha.ev hf,Deferred.ofValue,invoke,hy]
     rw[e1,e2];refine ⟨by simp[fz],RoundIn.mono (R:=fK w0 R) hR fun e w' he=>?_⟩;obtain ⟨v,K',hs',rfl,hr,hs2⟩:=he;simp only[<-qv,hd];exact hk v K' hs' hr _ w' (ha.put hb) hs2
    simp at h0
   simp at h0
  simp at h0
 simp at h0
def prm:List Nat->List Value->Sl->Sl
 | t::ts,v::vs,l=>prm ts vs ((t,v)::l)
 | _,_,l=>l
theorem Ag.prm:∀ (ts:List Nat) (vs:List Value) {l:Sl} {a:Act} (h:Ag n l a) (ht:∀ t∈ts,t<n),Ag n (prm ts vs l) { tmps:=(ts.zip vs).foldl (fun tmps (x:Nat×Value)=>tmps.setIfInBounds x.1 x.2) a.tmps,defers:=[] }
 | [],vs,l,a,h,_=>⟨by simpa using h.size,rfl,by simpa[En.prm] using h.slot⟩
 | t::ts,[],l,a,h,_=>⟨by simpa using h.size,rfl,by simpa[En.prm] using h.slot⟩
 | t::ts,v::vs,l,a,h,ht=>by
  have h1:=h.put (d:=t) (v:=v) (Nat.ble_eq_true_of_le (ht t ST));have h2:=Ag.prm ts vs h1 (fun x hx=>ht x (by simp[hx]));simpa[En.prm,Act.put] using h2
def rQ(w0:World)(St:Nat->PH->List PH->Prop)(Jm:Code->PH->List PH->Prop)(t u:PH)(i:Nat):Exit->Act->World->Prop
 | .normal,_,w=>∃ K hs,aY w0 w K (hs++[t,u])/\St (i+1) K hs
 | .ret,_,w=>∃ K hs,aY w0 w K (hs++[t,u])/\Jm .ret K hs
 | .exit id,_,w=>∃ K hs,aY w0 w K (hs++[t,u])/\Jm (.exit id) K hs
 | _,_,_=>False
def aQ(P:Program)(w0:World)(L n:Nat)(body:Code)(St:Nat->PH->List PH->Prop)(Jm:Code->PH->List PH->Prop)(t u:PH)(i:Nat)(a:Act)(w:World):Prop:=
 ∃ l' K' hs',Ag n l' a/\aY w0 w K' (hs'++[t,u])/\∀ u,WX P w0 (some L) [] body (rQ w0 St Jm t u i) n l' K' (hs'++[t,u])
def ym{n:Nat}{l:Sl}{a:Act}(h:Ag n l a):wd [] a=a:=by cases a;have:=h.defers;simp only at this;subst this;rfl
def ta{L:Nat}{body:Code}{St:Nat->PH->List PH->Prop}{Jm:Code->PH->List PH->Prop}{t u:PH}{i:Nat}{hs':List PH}(hh:hs=hs'++[t,u])(h:∀ u,WX P w0 (some L) [] body (rQ w0 St Jm t u i) n l K (hs'++[t,u])):
  cH [] w0 (Exit.then (aQ P w0 L n body St Jm t u i) (fun _ _ _=>False)) .normal n l K hs:=fun a w ha hw=>by
 subst hh;rw[ym ha];exact ⟨l,K,hs',ha,hw,h⟩
def sW{St:Nat->PH->List PH->Prop}{Jm:Code->PH->List PH->Prop}{t u:PH}{i:Nat}{hs':List PH}(hh:hs=hs'++[t,u])(h:St (i+1) K hs'):cH [] w0 (rQ w0 St Jm t u i) .normal n l K hs:=fun a w ha hw=>by
 subst hh;exact ⟨K,hs',hw,h⟩
def Hl{St:Nat->PH->List PH->Prop}{Jm:Code->PH->List PH->Prop}{t u:PH}{i:Nat}{hs':List PH}(hh:hs=hs'++[t,u])(h:Jm .ret K hs'):cH [] w0 (rQ w0 St Jm t u i) .ret n l K hs:=fun a w ha hw=>by
 subst hh;exact ⟨K,hs',hw,h⟩
def gX{α:Type}(hs:List α)(t u:α):hs++[t,u]=(hs++[t])++[u]:=by simp
def zJ{g:Operand}{ps:Array Tmp}{assign body:Code}{f:Nat}(cap:List Value)(xs:List (List Value))(Rd:PH->List PH->Prop)(hg:ev l g=some (.func (.func f) #[] cap.toArray))(it:vL P w0 f cap xs Rd)(hcal:jN P f=true)
  (hps:∀ vs∈xs,ba vs=ps.size) (hpn:(ps.toList.all fun t=>Nat.blt t n)=true) (St:Nat->PH->List PH->Prop) (Jm:Code->PH->List PH->Prop) (h0:St 0 K hs) (hRd:∀ i K hs t u,St i K hs->Rd K (hs++[t,u]))
  (round:∀ L i vs K hs t u,xs[i]?=some vs->St i K hs->WX P w0 (some L) [] assign (Exit.then (aQ P w0 L n body St Jm t u i) (fun _ _ _=>False)) n (prm ps.toList vs l) K (hs++[t,u]))
  (done:∀ D K' hs',St (ba xs) K' hs'->cH (np D::ds) w0 Q .normal n l K' (hs'++[ic D]))
  (stop:∀ D c K' hs',Jm c K' hs'->WX P w0 none (np D::ds) c Q n l K' (hs'++[ic D])):WX P w0 none ds (.rangeFunc g ps assign body) Q n l K hs:=by
 intro a w ha hw;refine wpIn_rangeFunc ?_;intro fn _;obtain ⟨rec,hrec⟩:∃ rec:LoopState->Option Code->Loop,rec=fun st pe=>{ state:=st,pending:=pe,fn,tmps:=a.tmps,params:=ps,assign,body,defers:=w.heap.size }:=⟨_,rfl⟩;obtain ⟨D,hD⟩:=bC w.heap.size;obtain ⟨W1,hW1⟩:∃ W1,(w.alloc (.deferred (some []))).alloc (.loop (rec .ready none))=W1:=⟨_,rfl⟩
 have hS1:aY w0 W1 K (hs++[ic D,sg (D+1) (.loop (rec .ready none))]):=by
  have h1:=(hw.alloc (.deferred (some []))).alloc (.loop (rec .ready none));rw[World.size_alloc,<-hD,hW1] at h1;refine h1.perm ?_;rw[gX];exact ((abv _ _).symm.cons _).trans (abv _ _).symm
 refine ⟨D+1,[np D],W1,{ target:=.fn (.func f) cap.toArray,args:=#[.func (.yield (D+1)) #[] #[]] },W1,f,#[.func (.yield (D+1)) #[] #[]]++cap.toArray,W1,?_,?_,?_,?_,fun h=>by simp[fz] at h,?_⟩
 ·rw[<-hW1,hrec,hD];exact run_enterLoop_outer _ _ _ _ _
 ·simp only[resolve,tj ha hg];simp[Deferred.ofValue]
  rfl
 ·intro f' _;trivial
 ·have hcal':=hcal;unfold jN at hcal';cases hfn:P.funcs[f]? with
  | none=>simp[hfn] at hcal'
  | some fn=>
   simp only[hfn,aaJ,abX] at hcal';have hbn:¬fn.body=none:=fun e=>by simp[e] at hcal'
   simp_all [invoke,callFunc]
 have hargs:(#[Value.func (.yield (D+1)) #[] #[]]++cap.toArray:Array Value)=(Value.func (.yield (D+1)) #[] #[]::cap).toArray:=by simp
 rw[hargs]
 have key:=it (D+1) (fun i K hs=>∃ hs',hs=hs'++[ic D,sg (D+1) (.loop (rec .ready none))]/\St i K hs') (fun K hs=>∃ c hs',hs=hs'++[ic D,sg (D+1) (.loop (rec .done (some c)))]/\Jm c K hs')
  (by grind) ?_ K _ ⟨hs,rfl,h0⟩
 ·refine (callsIn_wide.2 (key.2 _ hS1)).mono ?_;rintro e w2 ⟨v,K2,hs2,rfl,hh,hw2⟩;rcases hh with ⟨hs',rfl,hst⟩|⟨c,hs',rfl,hjm⟩
  ·rw[gX] at hw2;have h1:=run_endLoop (P:=P) hw2.last (by rw[hrec];simp);rw[hrec] at h1;exact ⟨none,_,h1,done D K2 hs' hst a _ ha (hw2.putLast _).dropLast⟩
  rw[gX] at hw2;have h1:=run_endLoop (P:=P) hw2.last (by rw[hrec];simp);rw[hrec] at h1;exact ⟨some c,_,h1,stop D c K2 hs' hjm a _ ha (hw2.putLast _).dropLast⟩
 rintro i vs K1 hs1 hvs ⟨hs',rfl,hst⟩ w1 hw1;have hl1:w1.heap[D+1]?=some (.loop (rec .ready none)):=by rw[gX] at hw1;exact hw1.last
 have hsz:vs.toArray.size=(rec .ready none).params.size:=by grind
 have hy:=run_yield (P:=P) hl1 hsz;refine ⟨_,_,_,_,hy,roundIn_of_wpIn (F:=fz none) trivial ?_⟩
 have hA:Ag n (prm ps.toList vs l) { tmps:=((rec .ready none).params.zip vs.toArray).foldl (fun tmps (t,a)=>tmps.setIfInBounds t a) (rec .ready none).tmps,defers:=[] }:=by
  have h1:=Ag.prm ps.toList vs ha (fun t ht=>acd (aa6.1 hpn t ht));rw[hrec]
  have e1:(ps.zip vs.toArray).foldl (fun tmps (x:Nat×Value)=>tmps.setIfInBounds x.1 x.2) a.tmps=(ps.toList.zip vs).foldl (fun tmps (x:Nat×Value)=>tmps.setIfInBounds x.1 x.2) a.tmps:=by
   rw[<-Array.foldl_toList];simp
  simp_all
 have h2:=round (D+1) i vs K1 hs' (ic D) (sg (D+1) (.loop (rec .ready none))) hvs hst _ w1 hA hw1;rw[hrec] at h2 ⊢;refine wpIn_mono h2 ?_;intro e a3 w3 hq;cases e with
 | normal=>
  obtain ⟨l',K',hs3,hA3,hS3,hb⟩:=hq;rw[gX] at hS3;refine ⟨_,run_beginRound hS3.last I,?_⟩;have hS4:=hS3.putLast (.loop { rec .ready none with state:=.busy });rw[hrec] at hS4;have h5:=hb _ a3 _ hA3 (by rw[gX];exact hS4);rw[ym hA3] at h5;refine wpIn_mono h5 ?_;intro e a4 w4 hq4;cases e with
  | normal=>
   obtain ⟨K5,hs5,hS5,hst5⟩:=hq4;rw[gX] at hS5;refine ⟨_,_,run_endRound none hS5.last,_,K5,_,I,.inl ⟨I,hs5,I,hst5⟩,?_⟩;rw[gX];exact hS5.putLast _
  | ret=>
   obtain ⟨K5,hs5,hS5,hst5⟩:=hq4;rw[gX] at hS5;refine ⟨_,_,run_endRound (some .ret) hS5.last,_,K5,_,I,.inr ⟨I,.ret,hs5,I,hst5⟩,?_⟩;rw[gX];exact hS5.putLast _
  | exit id=>
   obtain ⟨K5,hs5,hS5,hst5⟩:=hq4;rw[gX] at hS5;refine ⟨_,_,run_endRound (some (.exit id)) hS5.last,_,K5,_,I,.inr ⟨I,.exit id,hs5,I,hst5⟩,?_⟩;rw[gX];exact hS5.putLast _
  | goto l=>exact hq4.elim
  | panic ch=>exact hq4.elim
  | outgrown=>exact hq4.elim
 | exit id=>exact hq.elim
 | goto l=>exact hq.elim
 | ret=>exact hq.elim
 | panic ch=>exact hq.elim
 | outgrown=>exact hq.elim
end it
end
section
attribute [local irreducible] Code.wp wpList Calls
def fk{κ:Type}[DecidableEq κ](k:κ):List (κ×Value)->Nat->Option (Nat×Value)
 | [],_=>none
 | (k',v)::m,i=>if k=k' then some (i,v) else fk k m (i+1)
structure ga (P:Program) (kt:Nat) {κ:Type} [DecidableEq κ] (enc:κ->Value):Prop where
 chk:∀ e k w,(Instr.checkKey e 10000 kt (enc k)).run P w=.ok () w
 fnd:∀ (k:κ) (es:List MapEntry) (m:List (κ×Value)) w,es.map (fun e=>(e.key,e.val))=m.map (fun x=>(enc x.1,x.2))->(Instr.findKey kt (enc k) es).run P w=.ok (fk k m 0) w
 sam:∀ k,Instr.sameBits 10000 (enc k) (enc k)=true
theorem Gf{P:Program}{kt:Nat}{d:TypeDesc}{κ:Type}[DecidableEq κ]{enc:κ->Value}(h:∀ a b,Instr.sameNow d (enc a) (enc b)=some (decide (a=b)))(k:κ):∀ (es:List MapEntry) (m:List (κ×Value)) (i:Nat),
  es.map (fun e=>(e.key,e.val))=m.map (fun x=>(enc x.1,x.2))->Instr.findNow d (enc k) es i=some (fk k m i)
 | [],[],i,_=>rfl
 | [],_::_,i,h0=>by simp at h0
 | _::_,[],i,h0=>by simp at h0
 | e::es,(k',v)::m,i,h0=>by
  simp only[aao,List.cons.injEq,aai] at h0;obtain ⟨⟨h1,h2⟩,h3⟩:=h0;simp only[Instr.findNow,h1,h,fk]
  by_cases hk:k=k'
  ·simp[hk,h2]
  simp[hk,Gf (P:=P) (kt:=kt) h k es m (i+1) h3]
def ga.ofNow{P:Program}{kt:Nat}{d:TypeDesc}{κ:Type}[DecidableEq κ]{enc:κ->Value}(hu:P.underlying kt=some d)(h:∀ a b,Instr.sameNow d (enc a) (enc b)=some (decide (a=b)))
  (hc:∀ e k w,(Instr.checkKey e 10000 kt (enc k)).run P w=.ok () w) (hs:∀ k,Instr.sameBits 10000 (enc k) (enc k)=true):ga P kt enc:=
 ⟨hc,fun k es m w h0=>by unfold Instr.findKey;rw[Sem.run_bind,run_underlying hu];simp[Result.andThen,Gf (P:=P) (kt:=kt) h k es m 0 h0],hs⟩
def yH{P:Program}{kt:Nat}{kk:IntKind}(hu:P.underlying kt=some (.int kk)):ga P kt (κ:=Int) (fun n=>.int kk n):=
 ga.ofNow hu (fun a b=>by simp only[Instr.sameNow,if_true];rfl) (fun e k w=>by
  rw[show (10000:Nat)=9999+1 from rfl];unfold Instr.checkKey;rw[Sem.run_bind,run_underlying hu]
  rfl) (fun k=>by simp[Instr.sameBits])
theorem Gg{P:Program}{kt:Nat}{κ:Type}[DecidableEq κ]{enc:κ->Value}(h:∀ a b w,(Op.equal kt (enc a) (enc b)).run P w=.ok (decide (a=b)) w)(k:κ)(w:World):∀ (es:List MapEntry) (m:List (κ×Value)) (i:Nat),
  es.map (fun e=>(e.key,e.val))=m.map (fun x=>(enc x.1,x.2))->(Instr.findAsking kt (enc k) es i).run P w=.ok (fk k m i) w
 | [],[],i,_=>rfl
 | [],_::_,i,h0=>by simp at h0
 | _::_,[],i,h0=>by simp at h0
 | e::es,(k',v)::m,i,h0=>by
  simp only[aao,List.cons.injEq,aai] at h0;obtain ⟨⟨h1,h2⟩,h3⟩:=h0;simp only[Instr.findAsking,h1];rw[Sem.run_bind,h];simp only[Result.andThen,fk]
  by_cases hk:k=k'
  ·simp[hk,h2]
  simp[hk,Gg h k w es m (i+1) h3]
def ga.ofAgg{P:Program}{kt:Nat}{d:TypeDesc}{κ:Type}[DecidableEq κ]{enc:κ->Value}(hu:P.underlying kt=some d)(hn:∀ a b,Instr.sameNow d (enc a) (enc b)=none)(h:∀ a b w,(Op.equal kt (enc a) (enc b)).run P w=.ok (decide (a=b)) w)
  (hc:∀ e k w,(Instr.checkKey e 10000 kt (enc k)).run P w=.ok () w) (hs:∀ k,Instr.sameBits 10000 (enc k) (enc k)=true):ga P kt enc:=
 ⟨hc,fun k es m w h0=>by
  unfold Instr.findKey;rw[Sem.run_bind,run_underlying hu];simp only[Result.andThen];cases es with
  | nil=>
   cases m with
   | nil=>rfl
   | cons x m=>simp at h0
  | cons e es=>
   have e1:Instr.findNow d (enc k) (e::es) 0=none:=by
    cases m with
    | nil=>simp at h0
    | cons x m=>
     simp_all [Instr.findNow]
   simp only[e1];exact Gg h k w _ m 0 h0,hs⟩
def dG{κ ν:Type}(enc:κ->Value)(encv:ν->Value)(h:PH)(b:Nat)(m:List (κ×ν)):Prop:=
 ∃ es clock,h=sg b (.map es clock)/\es.toList.map (fun e=>(e.key,e.val))=m.map (fun x=>(enc x.1,encv x.2))/\(es.toList.map (·.born)).Pairwise (· < ·)/\∀ e∈es.toList,e.born<clock
def aK{κ ν:Type}[DecidableEq κ](k:κ):List (κ×ν)->Option ν
 | []=>none
 | (k',v)::m=>if k=k' then some v else aK k m
def cG{κ ν:Type}[DecidableEq κ](k:κ)(v:ν):List (κ×ν)->List (κ×ν)
 | []=>[(k,v)]
 | (k',v')::m=>if k=k' then (k,v)::m else (k',v')::cG k v m
def eC{κ ν:Type}[DecidableEq κ](k:κ):List (κ×ν)->List (κ×ν)
 | []=>[]
 | (k',v')::m=>if k=k' then m else (k',v')::eC k m
theorem lH{κ ν:Type}[DecidableEq κ](k j:κ)(v:ν):∀ m:List (κ×ν),aK j (cG k v m)=if j=k then some v else aK j m
 | []=>by rfl
 | (k',v')::m=>by
  have ih:=lH k j v m
  by_cases h:k=k'
  ·subst h
   by_cases hj:j=k <;> simp[cG,aK,hj]
  by_cases hj:j=k'
  ·subst hj;have:¬j=k:=fun e=>h e.symm;simp[cG,aK,h,this]
  simp[cG,aK,h,hj,ih]
theorem rI{κ ν:Type}[DecidableEq κ](k:κ)(v:ν):∀ m:List (κ×ν),ba (cG k v m)=if (aK k m).isSome then ba m else ba m+1
 | []=>by rfl
 | (k',v')::m=>by
  have ih:=rI k v m
  grind [cG,aK]
theorem tR{κ ν:Type}[DecidableEq κ](k:κ)(v:ν):∀ m:List (κ×ν),(cG k v m).map (·.1)=if (aK k m).isSome then m.map (·.1) else m.map (·.1)++[k]
 | []=>by rfl
 | (k',v')::m=>by
  have ih:=tR k v m
  grind [cG,aK]
theorem iY{κ ν:Type}[DecidableEq κ]{k:κ}{v:ν}:∀ {m:List (κ×ν)},aK k m=some v->(k,v)∈m
 | [],h=>by simp[aK] at h
 | (k',v')::m,h=>by
  simp only[aK] at h
  split at h
  ·rename_i e;subst e;simp only[aad] at h;subst h;simp
  exact aaQ _<|iY h
theorem iC{κ ν:Type}[DecidableEq κ]{k:κ}:∀ {m:List (κ×ν)},aK k m=none↔k∉m.map (·.1)
 | []=>by simp[aK]
 | (k',v')::m=>by
  have ih:=iC (k:=k) (m:=m)
  by_cases h:k=k' <;> simp_all [aK]
theorem sL{κ ν:Type}[DecidableEq κ]{encv:ν->Value}(k:κ):∀ (m:List (κ×ν)) (i:Nat),(fk k (m.map fun x=>(x.1,encv x.2)) i).map (·.2)=(aK k m).map encv
 | [],i=>rfl
 | (k',v)::m,i=>by
  by_cases h:k=k'
  ·simp[fk,aK,h]
  simp[fk,aK,h,sL k m (i+1)]
theorem px{κ:Type}[DecidableEq κ](k:κ):∀ (m:List (κ×Value)) (i:Nat),fk k m i=(fk k m 0).map fun x=>(i+x.1,x.2)
 | [],i=>rfl
 | (k',v)::m,i=>by
  by_cases h:k=k'
  ·simp[fk,h]
  simp only[fk,h,if_false];rw[px k m (i+1),px k m (0+1)];cases fk k m 0 with
  | none=>rfl
  | some x=>simp;omega
def dG.empty{κ ν:Type}{enc:κ->Value}{encv:ν->Value}(b c:Nat):dG (κ:=κ) (ν:=ν) enc encv (sg b (.map #[] c)) b []:=⟨#[],c,rfl,rfl,ST,ST⟩
section look
variable {κ ν:Type} [DecidableEq κ] {enc:κ->Value} {encv:ν->Value} {P:Program} {h:PH} {b:Nat} {m:List (κ×ν)}
def ro(ok:Bool)(v:Value)(is:Bool):Value:=cond ok (.tuple #[v,.bool is]) v
theorem dG.map(hm:dG enc encv h b m):∃ es clock,h=sg b (.map es clock)/\es.toList.map (fun e=>(e.key,e.val))=(m.map fun x=>(x.1,encv x.2)).map (fun x=>(enc x.1,x.2)):=by
 obtain ⟨es,c,h1,h2,_⟩:=hm;exact ⟨es,c,h1,by rw[h2];simp⟩
def kC{w:World}{es:Array MapEntry}{c:Nat}(h:w.heap[b]?=some (.map es c)):(getObj b).run P w=.ok (.map es c) w:=by simp[getObj,Sem.run,h]
def wz{t kt et:Nat}{z:Value}(hu:P.underlying t=some (.map kt et))(hK:ga P kt enc)(hz:(P.info? et).bind (·.zero)=some z)(hm:dG enc encv h b m){w:World}(hw:∀ b o,h b=some o->w.heap[b]?=some o)(k:κ)(ok:Bool):
  (Instr.lookup t (.map (some b)) (enc k) ok).run P w=.ok (ro ok (match aK k m with|some v=>encv v|none=>z) (aK k m).isSome) w:=by
 obtain ⟨es,c,rfl,h2⟩:=hm.map;have hb:=hw b (.map es c) ST;have hf:=hK.fnd k es.toList _ w h2;have hg:=sL (encv:=encv) k m 0;obtain ⟨i,hi,hz'⟩:=ach.1 hz;unfold Instr.lookup;simp only[Sem.run_bind,run_underlying hu,Result.andThen,kC hb,Sem.run_pure,hK.chk,hf];cases e:fk k (m.map fun x=>(x.1,encv x.2)) 0 with
 | none=>
  rw[e] at hg;have hn:aK k m=none:=by cases h3:aK k m with|none=>rfl|some v=>simp[h3] at hg
  simp only[hn];have:(zeroValue et).run P w=.ok z w:=by simp[zeroValue,typeInfo,hi,hz']
  rw[Sem.run_bind,this];cases ok <;> rfl
 | some x=>
  rw[e] at hg
  obtain ⟨v,hv,hx⟩:∃ v,aK k m=some v/\x.2=encv v:=by
   cases h3:aK k m with
   | none=>simp[h3] at hg
   | some v=>simp[h3] at hg;exact ⟨v,I,hg⟩
  simp only[hv,hx];cases ok <;> rfl
def Ig{t kt et:Nat}{z:Value}(hu:P.underlying t=some (.map kt et))(hK:ga P kt enc)(hz:(P.info? et).bind (·.zero)=some z){w:World}(k:κ)(ok:Bool):
  (Instr.lookup t (.map none) (enc k) ok).run P w=.ok (ro ok z false) w:=by
 have hf:=hK.fnd k [] [] w rfl;obtain ⟨i,hi,hz'⟩:=ach.1 hz;unfold Instr.lookup;simp only[Sem.run_bind,run_underlying hu,Result.andThen,Sem.run_pure,hK.chk,show (#[]:Array MapEntry).toList=[] from rfl,hf,fk];have:(zeroValue et).run P w=.ok z w:=by simp[zeroValue,typeInfo,hi,hz']
 rw[this];cases ok <;> rfl
def kQ(k v:Value)(c:Nat):Option (Nat×Value)->List MapEntry->List MapEntry
 | some (i,_),es=>es.modify i fun e=>{ e with key:=k,val:=v }
 | none,es=>es++[{ key:=k,val:=v,born:=c }]
theorem ud(k:κ)(v:ν)(c:Nat):∀ (es:List MapEntry) (m:List (κ×ν)),es.map (fun e=>(e.key,e.val))=m.map (fun x=>(enc x.1,encv x.2)) ->
  (kQ (enc k) (encv v) c (fk k (m.map fun x=>(x.1,encv x.2)) 0) es).map (fun e=>(e.key,e.val))=(cG k v m).map (fun x=>(enc x.1,encv x.2))
 | [],[],_=>rfl
 | [],_::_,h0=>by simp at h0
 | _::_,[],h0=>by simp at h0
 | e::es,(k',v')::m,h0=>by
  simp only[aao,List.cons.injEq,aai] at h0;obtain ⟨⟨h1,h2⟩,h3⟩:=h0;have ih:=ud k v c es m h3
  by_cases hk:k=k'
  ·simp[fk,cG,hk,kQ,h3]
  simp only[aao,fk,cG,hk,if_false];rw[px];cases hf:fk k (m.map fun x=>(x.1,encv x.2)) 0 with
  | none=>
   simp_all [kQ]
  | some x=>
   grind [kQ]
def wU(k v:Value)(c:Nat)(f:Option (Nat×Value))(es:List MapEntry)(h:(es.map (·.born)).Pairwise (· < ·))(hc:∀ e∈es,e.born<c):
  ((kQ k v c f es).map (·.born)).Pairwise (· < ·)/\∀ e∈kQ k v c f es,e.born<(match f with|some _=>c|none=>c+1):=by
 cases f with
 | none=>
  refine ⟨?_,?_⟩
  ·simp only[kQ,aba,aao,ab3]
   grind
  intro e he;simp only[kQ,aal,aaK] at he
  grind
 | some x=>
  obtain ⟨i,x⟩:=x
  have e1:(es.modify i fun e=>{ e with key:=k,val:=v }).map (·.born)=es.map (·.born):=by
   clear h hc
   induction es generalizing i with
   | nil=>simp
   | cons e es ih=>
    grind
  refine ⟨by simp only[kQ];rw[e1];exact h,?_⟩;intro e he;simp only[kQ] at he;have:e.born∈(es.modify i fun e=>{ e with key:=k,val:=v }).map (·.born):=aak.2 ⟨e,he,rfl⟩
  grind
def yI{es:List MapEntry}{m:List (κ×Value)}(k:κ){i:Nat}{v:Value}(h0:es.map (fun e=>(e.key,e.val))=m.map (fun x=>(enc x.1,x.2)))(hf:fk k m 0=some (i,v)):(es[i]?).map (·.key)=some (enc k):=by
 induction m generalizing es i v with
 | nil=>simp[fk] at hf
 | cons x m ih=>
  obtain ⟨k',v'⟩:=x;cases es with
  | nil=>simp at h0
  | cons e es=>
   simp only[aao,List.cons.injEq,aai] at h0;obtain ⟨⟨h1,h2⟩,h3⟩:=h0
   by_cases hk:k=k'
   ·simp only[fk,hk,if_true,aad,aai] at hf
    grind
   simp only[fk,hk,if_false] at hf;rw[px] at hf;cases hf2:fk k m 0 with
   | none=>simp[hf2] at hf
   | some y=>
    grind
def Il{w0:World}{K:PH}{hs:List PH}{t kt et i:Nat}(hu:P.underlying t=some (.map kt et))(hK:ga P kt enc)(hm:dG enc encv h b m){w:World}(s:aY w0 w K hs)(hi:hs[i]?=some h)(k:κ)(v:ν):
  ∃ h' w',dG enc encv h' b (cG k v m)/\(Instr.mapUpdate t (.map (some b)) (enc k) (encv v)).run P w=.ok () w'/\aY w0 w' K (hs.set i h'):=by
 obtain ⟨es,c,rfl,h2,h3,h4⟩:=hm;have h2':es.toList.map (fun e=>(e.key,e.val))=(m.map fun x=>(x.1,encv x.2)).map (fun x=>(enc x.1,x.2)):=by rw[h2];simp
 have hb:w.heap[b]?=some (.map es c):=s.own i _ hi b _ ST;have hf:=hK.fnd k es.toList _ w h2';have e1:=ud (enc:=enc) (encv:=encv) k v c es.toList m h2;have e2:=wU (enc k) (encv v) c (fk k (m.map fun x=>(x.1,encv x.2)) 0) es.toList h3 h4;have hset:∀ o:Obj,(setObj b o).run P w=.ok () (w.putObj b o):=fun o=>by simp[setObj,Sem.run,hb,World.putObj]
 unfold Instr.mapUpdate;simp only[Sem.run_bind,run_underlying hu,Result.andThen,kC hb,Sem.run_pure,hK.chk,hf];cases hk:fk k (m.map fun x=>(x.1,encv x.2)) 0 with
 | none=>
  rw[hk] at e1 e2;simp only[kQ] at e1 e2;refine ⟨sg b (.map (es.push { key:=enc k,val:=encv v,born:=c }) (c+1)),_,⟨_,_,I,by rw[acy];exact e1,by rw[acy];exact e2.1,by rw[acy];exact e2.2⟩,hset _,s.putObj hi _⟩
 | some x=>
  obtain ⟨j,x⟩:=x;rw[hk] at e1 e2;simp only[kQ] at e1 e2;have hkey:=yI (enc:=enc) k h2' hk;have hkey':((es[j]?).map (·.key)).getD (enc k)=enc k:=by rw[<-abM,hkey];rfl
  have hst:(Instr.keyThatStays (enc k) (enc k)).run P w=.ok (enc k) w:=by unfold Instr.keyThatStays;simp[hK.sam]
  refine ⟨sg b (.map (es.modify j fun e=>{ e with key:=enc k,val:=encv v }) c),w.putObj b (.map (es.modify j fun e=>{ e with key:=enc k,val:=encv v }) c),⟨_,_,I,by rw[abw];exact e1,by rw[abw];exact e2.1,by rw[abw];exact e2.2⟩,?_,s.putObj hi _⟩
  simp_all
def Bm{t kt et ty:Nat}(hu:P.underlying t=some (.map kt et))(hm:dG enc encv h b m){w:World}(hw:∀ b o,h b=some o->w.heap[b]?=some o):(Builtin.len_ #[t] ty #[.map (some b)]).run P w=.ok (.int .i64 (ba m)) w:=by
 obtain ⟨es,c,rfl,h2,_⟩:=hm;have hb:=hw b (.map es c) ST;have hl:es.size=ba m:=by have:=congrArg List.length h2;simpa using this
 unfold Builtin.len_;simp[Sem.run_bind,run_underlying hu,Result.andThen,kC hb,hl,goInt]
end look
section rules
variable {P:Program} {T:br} {w0:World} {ops:Array Oper} {Q:Exit->Act->World->Prop} {rest rest':List Oper} {n:Nat} {l l':Sl} {K:PH} {hs:List PH}
variable {κ ν:Type} [DecidableEq κ] {enc:κ->Value} {encv:ν->Value} {h:PH} {b:Nat} {m:List (κ×ν)}
def nm[hT:TabOK P T](k:Nat){d:Nat}{o:Oper}{v:Value}(h0:gB T ops n k rest l=some (d,o,rest',l'))(hv:∀ a w,Ag n l' a->aY w0 w K hs->(execOp a.eval o).run P w=.ok (.value v) w)
  (hk:WL P w0 ops Q rest' n ((d,v)::l') K hs):WL P w0 ops Q rest n l K hs:=by
 unfold gB at h0
 split at h0
 ·rename_i o' r l2 ho
  split at h0
  ·rename_i d' hd;cases hb:Nat.blt d' n with
   | false=>simp[hb] at h0
   | true=>
    simp only[hb,cond_true,aad,aai] at h0;obtain ⟨rfl,rfl,rfl,rfl⟩:=h0;exact WL.at' ho fun hg=>WL.val (R:=fun u K' hs'=>u=v/\K'=K/\hs'=hs) hd hb hg (fun A w ha hw=>⟨v,w,K,hs,hv A w ha hw,hw,I,I,I⟩) (fun u K' hs' ⟨h1,h2,h3⟩=>by subst h1;subst h2;subst h3;exact hk)
  simp at h0
 simp at h0
def qY(T:br)(ops:Array Oper)(n k:Nat)(rest:List Oper)(l:Sl):Option (Oper×List Oper×Sl):=
 match fc T ops n k rest l with
 | some (o,r,l')=>match o.dst with
  | none=>some (o,r,l')
  | some _=>none
 | none=>none
def vQ[hT:TabOK P T](k:Nat){o:Oper}{R:PH->List PH->Prop}(h0:qY T ops n k rest l=some (o,rest',l'))(hv:∀ a w,Ag n l' a->aY w0 w K hs->∃ w' K' hs',(execOp a.eval o).run P w=.ok .skip w'/\aY w0 w' K' hs'/\R K' hs')
  (hk:∀ K' hs',R K' hs'->WL P w0 ops Q rest' n l' K' hs'):WL P w0 ops Q rest n l K hs:=by
 unfold qY at h0
 split at h0
 ·rename_i o' r l2 ho
  split at h0
  ·rename_i hd;simp only[aad,aai] at h0;obtain ⟨rfl,rfl,rfl⟩:=h0;refine WL.at' ho fun hg=>?_;intro a w ha hw;obtain ⟨w',K',hs',hrun,hw',hR⟩:=hv a w ha hw;have h1:=jl ha hg;unfold wpList;rw[aab h1];refine .inl ?_;unfold Oper.wp;rw[hrun];simp only[Oper.upon,hd,Act.put];exact hk K' hs' hR _ _ ha hw'
  simp at h0
 simp at h0
def pc[hT:TabOK P T](k:Nat){d:Nat}{o:Oper}{R:Value->PH->List PH->Prop}(h0:gB T ops n k rest l=some (d,o,rest',l'))(hv:∀ a w,Ag n l' a->aY w0 w K hs->∃ v w' K' hs',(execOp a.eval o).run P w=.ok (.value v) w'/\aY w0 w' K' hs'/\R v K' hs')
  (hk:∀ v K' hs',R v K' hs'->WL P w0 ops Q rest' n ((d,v)::l') K' hs'):WL P w0 ops Q rest n l K hs:=by
 unfold gB at h0
 split at h0
 ·rename_i o' r l2 ho
  split at h0
  ·rename_i d' hd;cases hb:Nat.blt d' n with
   | false=>simp[hb] at h0
   | true=>
    simp only[hb,cond_true,aad,aai] at h0;obtain ⟨rfl,rfl,rfl,rfl⟩:=h0;exact WL.at' ho fun hg=>WL.val hd hb hg hv hk
  simp at h0
 simp at h0
def aY.inn{w:World}(s:aY w0 w K hs)(hm:In K hs h):∀ b o,h b=some o->w.heap[b]?=some o:=fun b o hb=>s.block hm hb
def yR(T:br)(ops:Array Oper)(n k:Nat)(rest:List Oper)(l:Sl):Option (Nat×Oper×List Oper×Sl):=
 match gB T ops n k rest l with
 | some (d,o,r,l')=>match o.op with
  | .makeMap _ none=>some (d,o,r,l')
  | _=>none
 | none=>none
def Js{k d:Nat}{o:Oper}(h:yR T ops n k rest l=some (d,o,rest',l')):gB T ops n k rest l=some (d,o,rest',l')/\∃ t,o.op=.makeMap t none:=by
 unfold yR at h
 grind
def rk[hT:TabOK P T](k:Nat){d:Nat}{o:Oper}(h0:yR T ops n k rest l=some (d,o,rest',l'))(hk:∀ b,WL P w0 ops Q rest' n ((d,.map (some b))::l') K (sg b (.map #[] 0)::hs)):WL P w0 ops Q rest n l K hs:=by
 obtain ⟨h1,t,hop⟩:=Js h0;refine pc k (R:=fun v K' hs'=>∃ b,v=.map (some b)/\K'=K/\hs'=sg b (.map #[] 0)::hs) h1 (fun a w ha hw=>⟨.map (some w.heap.size),w.alloc (.map #[] 0),K,_,?_,hw.alloc _,w.heap.size,I,I,I⟩) ?_
 ·simp_all [execOp,Instr.makeMap]
 rintro v K' hs' ⟨b,rfl,rfl,rfl⟩;exact hk b
def sX(T:br)(ops:Array Oper)(n k:Nat)(rest:List Oper)(l:Sl):Option (Nat×Oper×Nat×Value×Value×Bool×List Oper×Sl):=
 match gB T ops n k rest l with
 | some (d,o,r,l')=>match o.op with
  | .lookup t x y ok=>match ev l' x,ev l' y with
   | some u,some v=>some (d,o,t,u,v,ok,r,l')
   | _,_=>none
  | _=>none
 | none=>none
def Ce{k d t:Nat}{o:Oper}{u v:Value}{ok:Bool}(h:sX T ops n k rest l=some (d,o,t,u,v,ok,rest',l')):gB T ops n k rest l=some (d,o,rest',l')/\∃ x y,o.op=.lookup t x y ok/\ev l' x=some u/\ev l' y=some v:=by
 unfold sX at h
 grind
def jJ[hT:TabOK P T](k:Nat){d t kt et:Nat}{o:Oper}{z v:Value}{ok:Bool}(j:κ)(h0:sX T ops n k rest l=some (d,o,t,.map (some b),v,ok,rest',l'))(hu:P.underlying t=some (.map kt et))(hz:(P.info? et).bind (·.zero)=some z)(hK:ga P kt enc)(hv:v=enc j)(hin:In K hs h)(hm:dG enc encv h b m)
  (hk:WL P w0 ops Q rest' n ((d,ro ok (match aK j m with|some v=>encv v|none=>z) (aK j m).isSome)::l') K hs):WL P w0 ops Q rest n l K hs:=by
 obtain ⟨h1,x,y,hop,hx,hy⟩:=Ce h0;subst hv;refine nm k h1 (fun a w ha hw=>?_) hk;have:=wz (P:=P) hu hK hz hm (hw.inn hin) j ok;simp only[execOp,hop,ha.ev hx,ha.ev hy];simp[this]
def HY[hT:TabOK P T](k:Nat){d t kt et:Nat}{o:Oper}{z v:Value}{ok:Bool}(j:κ)(h0:sX T ops n k rest l=some (d,o,t,.map none,v,ok,rest',l'))(hu:P.underlying t=some (.map kt et))(hz:(P.info? et).bind (·.zero)=some z)(hK:ga P kt enc)(hv:v=enc j)
  (hk:WL P w0 ops Q rest' n ((d,ro ok z false)::l') K hs):WL P w0 ops Q rest n l K hs:=by
 obtain ⟨h1,x,y,hop,hx,hy⟩:=Ce h0;subst hv;refine nm k h1 (fun a w ha hw=>?_) hk;have:=Ig (P:=P) (w:=w) hu hK hz j ok;simp only[execOp,hop,ha.ev hx,ha.ev hy];simp[this]
def vn(T:br)(ops:Array Oper)(n k:Nat)(rest:List Oper)(l:Sl):Option (Oper×Nat×Value×Value×Value×List Oper×Sl):=
 match qY T ops n k rest l with
 | some (o,r,l')=>match o.op with
  | .mapUpdate t x y z=>match ev l' x,ev l' y,ev l' z with
   | some u,some v,some w=>some (o,t,u,v,w,r,l')
   | _,_,_=>none
  | .insert t x y z=>match ev l' x,ev l' y,ev l' z with
   | some u,some v,some w=>some (o,t,u,v,w,r,l')
   | _,_,_=>none
  | _=>none
 | none=>none
def B7{k t:Nat}{o:Oper}{u v y:Value}(h:vn T ops n k rest l=some (o,t,u,v,y,rest',l')):qY T ops n k rest l=some (o,rest',l')/\∀ a,Ag n l' a->execOp a.eval o=(do Instr.mapUpdate t u v y;pure .skip):=by
 unfold vn at h
 split at h
 ·rename_i o' r l2 ho
  split at h
  ·rename_i t' x1 x2 x3 hop
   split at h
   ·rename_i u' v' y' h1 h2 h3;simp only[aad,aai] at h;obtain ⟨rfl,rfl,rfl,rfl,rfl,rfl,rfl⟩:=h;exact ⟨ho,fun a ha=>by simp only[execOp,hop,ha.ev h1,ha.ev h2,ha.ev h3]⟩
   simp at h
  ·rename_i t' x1 x2 x3 hop
   split at h
   ·rename_i u' v' y' h1 h2 h3;simp only[aad,aai] at h;obtain ⟨rfl,rfl,rfl,rfl,rfl,rfl,rfl⟩:=h;exact ⟨ho,fun a ha=>by simp only[execOp,hop,ha.ev h1,ha.ev h2,ha.ev h3]⟩
   simp at h
  simp at h
 simp at h
def rj[hT:TabOK P T](k i:Nat){t kt et:Nat}{o:Oper}{v y:Value}(j:κ)(x:ν)(h0:vn T ops n k rest l=some (o,t,.map (some b),v,y,rest',l'))(hi:hs[i]?=some h)(hu:P.underlying t=some (.map kt et))(hK:ga P kt enc)(hv:v=enc j)(hy:y=encv x)(hm:dG enc encv h b m)
  (hk:∀ h',dG enc encv h' b (cG j x m)->WL P w0 ops Q rest' n l' K (hs.set i h')):WL P w0 ops Q rest n l K hs:=by
 obtain ⟨h1,h2⟩:=B7 h0;subst hv hy;refine vQ k (R:=fun K' hs'=>∃ h',dG enc encv h' b (cG j x m)/\K'=K/\hs'=hs.set i h') h1 (fun a w ha hw=>?_) ?_
 ·obtain ⟨h',w',g1,g2,g3⟩:=Il (P:=P) (t:=t) (et:=et) (i:=i) hu hK hm hw hi j x;refine ⟨w',K,_,?_,g3,h',g1,I,I⟩;rw[h2 a ha,Sem.run_bind,g2]
  rfl
 rintro K' hs' ⟨h',g1,rfl,rfl⟩;exact hk h' g1
def He(T:br)(ops:Array Oper)(n k:Nat)(rest:List Oper)(l:Sl):Option (Nat×Oper×Nat×Value×List Oper×Sl):=
 match gB T ops n k rest l with
 | some (d,o,r,l')=>match o.op with
  | .call { callee:=.builtin .len,args,argTypes }=>match args.toList,argTypes.toList with
   | [x],[t]=>match ev l' x with
    | some u=>some (d,o,t,u,r,l')
    | none=>none
   | _,_=>none
  | _=>none
 | none=>none
def HV[hT:TabOK P T](k:Nat){d t kt et:Nat}{o:Oper}(h0:He T ops n k rest l=some (d,o,t,.map (some b),rest',l'))(hu:P.underlying t=some (.map kt et))(hin:In K hs h)(hm:dG enc encv h b m)
  (hk:WL P w0 ops Q rest' n ((d,.int .i64 (ba m))::l') K hs):WL P w0 ops Q rest n l K hs:=by
 unfold He at h0
 split at h0
 ·rename_i d' o' r l2 ho
  split at h0
  ·rename_i args argTypes hop
   split at h0
   ·rename_i x t' e1 e2
    split at h0
    ·rename_i u hx;simp only[aad,aai] at h0;obtain ⟨rfl,rfl,rfl,rfl,rfl,rfl⟩:=h0;have a1':args=#[x]:=by cases args;simp_all
     have a2':argTypes=#[t']:=by cases argTypes;simp_all
     subst a1' a2';refine nm k ho (fun a w ha hw=>?_) hk;have:=Bm (P:=P) (ty:=o'.type) (encv:=encv) hu hm (hw.inn hin);simp only[execOp,hop];simp[resolve,invoke,builtin,ha.ev hx,this]
    simp at h0
   simp at h0
  simp at h0
 simp at h0
end rules
section opn
variable {P:Program} {T:br} {w0:World} {ops:Array Oper} {Q:Exit->Act->World->Prop} {plan plan':List Nat} {z:Nat} {listed listed':Array Bool} {n:Nat} {l l':Sl} {K K0:PH} {hs A:List PH}
variable {κ ν:Type} [DecidableEq κ] {enc:κ->Value} {encv:ν->Value} {h:PH} {b:Nat} {m:List (κ×ν)}
def uZ(T:br)(ops:Array Oper)(n z k:Nat)(plan:List Nat)(L:Array Bool)(l:Sl):Option (Nat×Oper×List Nat×Array Bool×Sl):=
 match mN T ops n z k plan L l with
 | some (p,o,r,L',l')=>match Nat.beq (p % 2) 0,Nat.beq (p / 2) z,cond (Nat.blt z ops.size) (Region.waitsFor .any ops z (p / 2)) true,ib ops l' o.guard,o.dst with
  | true,false,true,some true,some d=>match Nat.blt d n with
   | true=>some (d,o,r,L'.setIfInBounds (p / 2) true,l')
   | false=>none
  | _,_,_,_,_=>none
 | none=>none
def Hv[hT:TabOK P T](hsel:Region.noSelect ops=true)(k:Nat){d:Nat}{o:Oper}{v:Value}(h0:uZ T ops n z k plan listed l=some (d,o,plan',listed',l'))(hv:∀ a w,Ag n l' a->fo K0 A w->(execOp a.eval o).run P w=.ok (.value v) w)
  (hk:WA P w0 ops Q K0 A z plan' listed' n ((d,v)::l') K hs):WA P w0 ops Q K0 A z plan listed n l K hs:=by
 unfold uZ at h0
 split at h0
 ·rename_i p o r L' l2 hh
  split at h0
  ·rename_i dd hp hz hwf hg hd
   split at h0
   ·rename_i hb;simp only[aad,aai] at h0;obtain ⟨rfl,rfl,rfl,rfl,rfl⟩:=h0;obtain ⟨g1,g2⟩:=mD hh;refine WA.pures hsel k g1 ?_;have hp2:p=2*(p / 2):=by have:=aaM hp;omega
    rw[hp2];refine WA.look g2 hsel hz hd hb (fun A' ha=>.inl ⟨jl ha hg,fun w hw=>?_⟩) hk;obtain ⟨L,hcl,hun,hst⟩:=hw;exact hv A' w ha (hst (qb hcl hun hwf))
   simp at h0
  simp at h0
 simp at h0
def fo.inn{w:World}(s:fo K A w)(hm:In K A h):∀ b o,h b=some o->w.heap[b]?=some o:=by
 rcases hm with rfl|⟨i,hi⟩
 ·exact s.1
 exact s.2 h<|aap hi
def GZ(T:br)(ops:Array Oper)(n z k:Nat)(plan:List Nat)(L:Array Bool)(l:Sl):Option (Nat×Oper×Nat×Value×Value×Bool×List Nat×Array Bool×Sl):=
 match uZ T ops n z k plan L l with
 | some (d,o,r,L',l')=>match o.op with
  | .lookup t x y ok=>match ev l' x,ev l' y with
   | some u,some v=>some (d,o,t,u,v,ok,r,L',l')
   | _,_=>none
  | _=>none
 | none=>none
def vE[hT:TabOK P T](hsel:Region.noSelect ops=true)(k:Nat){d t kt et:Nat}{o:Oper}{zv v:Value}{ok:Bool}(j:κ)(h0:GZ T ops n z k plan listed l=some (d,o,t,.map (some b),v,ok,plan',listed',l'))(hu:P.underlying t=some (.map kt et))(hz:(P.info? et).bind (·.zero)=some zv)(hK:ga P kt enc)(hv:v=enc j)(hin:In K0 A h)(hm:dG enc encv h b m)
  (hk:WA P w0 ops Q K0 A z plan' listed' n ((d,ro ok (match aK j m with|some v=>encv v|none=>zv) (aK j m).isSome)::l') K hs):WA P w0 ops Q K0 A z plan listed n l K hs:=by
 unfold GZ at h0
 split at h0
 ·rename_i d' o' r L' l2 ho
  split at h0
  ·rename_i t' x y ok' hop
   split at h0
   ·rename_i u' v' hx hy;simp only[aad,aai] at h0;obtain ⟨rfl,rfl,rfl,rfl,rfl,rfl,rfl,rfl,rfl⟩:=h0;subst hv;refine Hv hsel k ho (fun a w ha hw=>?_) hk;have:=wz (P:=P) hu hK hz hm (hw.inn hin) j ok';simp only[execOp,hop,ha.ev hx,ha.ev hy];simp[this]
   simp at h0
  simp at h0
 simp at h0
end opn
end
section
attribute [local irreducible] Code.wp wpList Calls
def aH.pre{h:PH}{ao:Option Addr}{n cap size:Nat}{xs:List Value}(x:aH h ao n cap size xs)(m:Nat)(hm:m<=n):aH h ao m cap size (xs.take (m*size)):=by
 obtain ⟨h1,h2,h3⟩:=x;have:m*size<=n*size:=aaY _ hm;refine ⟨by simp;omega,qo,fun j u hu=>?_⟩
 grind
section rules
variable {P:Program} {T:br} {w0:World} {ops:Array Oper} {Q:Exit->Act->World->Prop} {rest rest':List Oper} {n:Nat} {l l':Sl} {K:PH} {hs:List PH}
def vH(T:br)(ops:Array Oper)(n k:Nat)(rest:List Oper)(l:Sl):Option (Nat×Oper×Builtin×Nat×Nat×Value×Value×List Oper×Sl):=
 match gB T ops n k rest l with
 | some (d,o,r,l')=>match o.op with
  | .call { callee:=.builtin b,args,argTypes }=>match args.toList,argTypes.toList with
   | [x,y],[t,u]=>match ev l' x,ev l' y with
    | some vx,some vy=>some (d,o,b,t,u,vx,vy,r,l')
    | _,_=>none
   | _,_=>none
  | _=>none
 | none=>none
def CB{k d t u:Nat}{o:Oper}{b:Builtin}{vx vy:Value}(h:vH T ops n k rest l=some (d,o,b,t,u,vx,vy,rest',l')):
  gB T ops n k rest l=some (d,o,rest',l')/\∀ a w,Ag n l' a->∃ cs,(execOp a.eval o).run P w=(builtin b #[t,u] o.type cs #[vx,vy]).run P w:=by
 unfold vH at h
 split at h
 ·rename_i d' o' r l2 ho
  split at h
  ·rename_i b' args argTypes hop
   split at h
   ·rename_i x y t' u' e1 e2
    split at h
    ·rename_i vx' vy' hx hy;simp only[aad,aai] at h;obtain ⟨rfl,rfl,rfl,rfl,rfl,rfl,rfl,rfl,rfl⟩:=h;have a1':args=#[x,y]:=by cases args;simp_all
     have a2':argTypes=#[t',u']:=by cases argTypes;simp_all
     subst a1' a2';refine ⟨ho,fun a w ha=>⟨#[x,y].map fun|.const _=>true|_=>false,?_⟩⟩;simp only[execOp,hop];simp[resolve,invoke,ha.ev hx,ha.ev hy]
     rfl
    simp at h
   simp at h
  simp at h
 simp at h
def zQ[hT:TabOK P T](k i:Nat){d t u b off ty nd cd ns csrc:Nat}{o:Oper}{si:eU}{aos:Option Addr}{h2:PH}{c:Array Value}{xs:List Value}(m:Nat)
  (h0:vH T ops n k rest l=some (d,o,.copy,t,u,.slice (some ⟨b,off,none⟩) nd cd,.slice aos ns csrc,rest',l')) (hsi:asc T.sls t=some si) (hi:hs[i]?=some (pt b c ty)) (hin:In K hs h2) (x:aH h2 aos ns csrc si.size xs)
  (hm:m=min ns nd) (h1:∀ u∈xs.take (m*si.size),u.oneCell'=true) (hf:off+m*si.size<=c.size)
  (hk:WL P w0 ops Q rest' n ((d,.int .i64 (m:Int))::l') K (hs.set i (pt b (c.toList.take off++xs.take (m*si.size)++c.toList.drop (off+m*si.size)).toArray ty))):WL P w0 ops Q rest n l K hs:=by
 obtain ⟨ho,hex⟩:=CB h0;refine pc k (R:=fun v K' hs'=>v=.int .i64 (m:Int)/\K'=K/\hs'=hs.set i (pt b (c.toList.take off++xs.take (m*si.size)++c.toList.drop (off+m*si.size)).toArray ty)) ho (fun a w ha hw=>?_) ?_
 ·obtain ⟨cs,he⟩:=hex a w ha;obtain ⟨g1,ii,g2,g3,g4,g5⟩:=hT.sl hsi;have hb:w.heap[b]?=some (.cells c ty (0,0)):=hw.own i _ hi b _ ST;have x2:=x.pre m qo
  have hfc:(Builtin.firstCells si.size m (.slice aos ns csrc)).run P w=.ok (xs.take (m*si.size)).toArray w:=by
   have:=vX (P:=P) hw hin x2;cases aos <;> exact this
  have hlen:ba (xs.take (m*si.size))=m*si.size:=x2.1;have hst:=run_storeCells_at P b off ty (xs.take (m*si.size)) 0 c w hb qo (by intro u hu;exact h1 u hu);simp only[aa7,hlen] at hst;refine ⟨_,_,K,_,?_,hw.setRow hi _,I,I,I⟩;rw[he];simp only[builtin]
  simp_all [run_underlying,Builtin.copy_,Builtin.lenOf,sizeOf,typeInfo,goInt]
 rintro v K' hs' ⟨rfl,rfl,rfl⟩;exact hk
def oZ[hT:TabOK P T](k:Nat){d:Nat}{si:eU}{ao:Option Addr}{n1 c1:Nat}{lo hi:Option Int}(L N:Nat)
  (h0:qS T ops n k rest l=some (d,si,(ao,n1,c1),lo,hi,rest',l')) (hL:lo.getD 0=(L:Int)) (hH:hi.getD n1=((L+N:Nat):Int)) (hN:L+N<=c1)
  (hk:WL P w0 ops Q rest' n ((d,.slice (ez ao c1 L si.size) N (c1-L))::l') K hs):WL P w0 ops Q rest n l K hs:=by
 obtain ⟨o,ho,hd,hb,hrun⟩:=ub (P:=P) L (L+N) h0 hL hH qo hN;refine WL.at' ho fun hg=>WL.val (R:=fun u K' hs'=>u=.slice (ez ao c1 L si.size) N (c1-L)/\K'=K/\hs'=hs) hd hb hg (fun A w ha hw=>⟨_,w,K,hs,hrun A w ha,hw,?_,I,I⟩) ?_
 ·simp
 rintro u K' hs' ⟨rfl,rfl,rfl⟩;exact hk
def Ff{g off c L size:Nat}(h:L<c):ez (some ⟨g,off,none⟩) c L size=some ⟨g,off+L*size,none⟩:=by
 rw[ez,aaa qo];simp[bz]
def qA{ao:Option Addr}{c size:Nat}:ez ao c 0 size=ao:=by
 simp[ez,Addr.add]
end rules
section ext
variable {P:Program} {T:br} {w0:World} {ops:Array Oper} {Q:Exit->Act->World->Prop} {rest rest':List Oper} {n:Nat} {l l':Sl} {K:PH} {hs:List PH}
def clx [hT : TabOK P T] (k : Nat) {d g : Nat} {vs : List Value} {fn : Func} {e : Array Value -> Sem Value} {v : Value} (h0 : clAt T ops n k rest l = some (d, g, vs, rest', l')) (hf : P.funcs[g]? = some fn) (hname : (fn.name == "runtime.NumGoroutine") = false)
  (hb:fn.body.isNone=true) (hn:Extern.findNext fn=none) (he:Extern.find fn=some e) (hv:∀ w,aY w0 w K hs->(e vs.toArray).run P w=.ok v w)
  (hk:WL P w0 ops Q rest' n ((d,v)::l') K hs):WL P w0 ops Q rest n l K hs:=by
 unfold clAt at h0
 split at h0
 ·rename_i o r l2 ho
  split at h0
  ·rename_i d' f args ats hd hop
   split at h0
   ·rename_i g' first captured vs' hb' hf' hvs
    simp only[aad,aai] at h0;obtain ⟨rfl,rfl,rfl,rfl,rfl⟩:=h0;refine WL.at' ho fun hg=>WL.val (R:=fun u K' hs'=>u=v/\K'=K/\hs'=hs) hd hb' hg (fun A w ha hw=>⟨v,w,K,hs,?_,hw,I,I,I⟩) (fun u K' hs' ⟨h1,h2,h3⟩=>by subst h1;subst h2;subst h3;exact hk);have h6:=uJ ha _ _ hvs
    have h7:args.map A.eval=vs'.toArray:=by
     apply Array.ext'
     simpa using h6
    have h8:=run_callFunc_extern (P:=P) hf hname hb hn he (first.toList++(vs'++captured.toList)).toArray w;rw[hv w hw] at h8
    have h9:(first.toList++(vs'++captured.toList)).toArray=first++(vs'.toArray++captured):=by
     simp
    rw[h9] at h8;simp only[execOp,hop];simp[resolve,h7,ha.ev hf',Deferred.ofValue,invoke,h8,Result.andThen]
   simp at h0
  simp at h0
 simp at h0
end ext
section three
variable {P:Program} {T:br} {w0:World} {ops:Array Oper} {Q:Exit->Act->World->Prop} {rest rest':List Oper} {n:Nat} {l l':Sl} {K:PH} {hs:List PH}
def GI(T:br)(ops:Array Oper)(n k:Nat)(rest:List Oper)(l:Sl):Option (Nat×Oper×eU×(Option Addr×Nat×Nat)×Option Int×Int×Int×List Oper×Sl):=
 match gB T ops n k rest l with
 | some (d,o,r,l')=>match o.op with
  | .slice t x none (some hi) (some mx)=>match asc T.sls t,ev l' x,ev l' hi,ev l' mx with
   | some si,some (.slice a1 n1 c1),some (.int _ j),some (.int _ m)=>some (d,o,si,(a1,n1,c1),none,j,m,r,l')
   | _,_,_,_=>none
  | .slice t x (some lo) (some hi) (some mx)=>match asc T.sls t,ev l' x,ev l' lo,ev l' hi,ev l' mx with
   | some si,some (.slice a1 n1 c1),some (.int _ i),some (.int _ j),some (.int _ m)=>some (d,o,si,(a1,n1,c1),some i,j,m,r,l')
   | _,_,_,_,_=>none
  | _=>none
 | none=>none
def G7[hT:TabOK P T](k:Nat){d:Nat}{o:Oper}{si:eU}{ao:Option Addr}{n1 c1:Nat}{lo:Option Int}{hi mx:Int}(L N M:Nat)(h0:GI T ops n k rest l=some (d,o,si,(ao,n1,c1),lo,hi,mx,rest',l'))
  (hL:lo.getD 0=(L:Int)) (hH:hi=((L+N:Nat):Int)) (hM:mx=(M:Int)) (hN:L+N<=M) (hc:M<=c1)
  (hk:WL P w0 ops Q rest' n ((d,.slice (ez ao M L si.size) N (M-L))::l') K hs):WL P w0 ops Q rest n l K hs:=by
 unfold GI at h0
 split at h0
 ·rename_i d' o' r l2 ho;have c1':((M:Nat):Int)<=((c1:Nat):Int):=qo
  have t1:(((L:Nat):Int)+((N:Nat):Int)).toNat=L+N:=qo
  have t2:(((L:Nat):Int)+((N:Nat):Int))<=((M:Nat):Int):=qo
  have t3:0<=((L:Nat):Int)+((N:Nat):Int):=qo
  split at h0
  ·rename_i t x hi' mx' hop
   split at h0
   ·rename_i si' a1 m1 k1 kk jj kk2 mm hsi hx h2' h3';simp only[aad,aai] at h0;obtain ⟨rfl,rfl,rfl,⟨rfl,rfl,rfl⟩,rfl,rfl,rfl,rfl,rfl⟩:=h0;subst hH hM;simp only[abm] at hL;obtain rfl:L=0:=qo
    obtain ⟨h1,im,h2,h3,h4,h5⟩:=hT.sl hsi;refine nm k ho (fun a w ha hw=>?_) hk;have q1:N<=M:=qo
    have q2:((N:Nat):Int)<=((M:Nat):Int):=qo
    simp only[execOp,hop,ha.ev hx];simp[Instr.sliceAt,Instr.slice,Instr.sliceBounds,Instr.sliceBound,asIntOf,run_underlying h1,ha.ev h2',ha.ev h3',sizeOf,typeInfo,h2,h4,ez,hc,q1,q2]
   simp at h0
  ·rename_i t x lo' hi' mx' hop
   split at h0
   ·rename_i si' a1 m1 k1 kk0 ii kk jj kk2 mm hsi hx h1' h2' h3';simp only[aad,aai] at h0;obtain ⟨rfl,rfl,rfl,⟨rfl,rfl,rfl⟩,rfl,rfl,rfl,rfl,rfl⟩:=h0;subst hH hM;simp only[aaZ] at hL;subst hL;obtain ⟨h1,im,h2,h3,h4,h5⟩:=hT.sl hsi;refine nm k ho (fun a w ha hw=>?_) hk;simp only[execOp,hop,ha.ev hx];simp[Instr.sliceAt,Instr.slice,Instr.sliceBounds,Instr.sliceBound,asIntOf,run_underlying h1,ha.ev h1',ha.ev h2',ha.ev h3',sizeOf,typeInfo,h2,h4,ez,hc];rw[aab qo,t1]
    simp
   simp at h0
  simp at h0
 simp at h0
end three
def aZ.pre{h:PH}{ao:Option Addr}{n cap e size:Nat}{xs:List Value}(o:aZ h ao n cap e size xs)(m:Nat)(hm:m<=n):aZ h ao m cap e size (xs.take (m*size)):=by
 obtain ⟨h1,h2,h3,h4⟩:=o;have:m*size<=n*size:=aaY _ hm;refine ⟨by simp;omega,qo,h3,?_⟩
 grind
section openc
variable {P:Program} {T:br} {w0:World} {ops:Array Oper} {Q:Exit->Act->World->Prop} {plan plan':List Nat} {z:Nat} {listed listed':Array Bool} {n:Nat} {l l':Sl} {K K0:PH} {hs A:List PH}
def q9[hT:TabOK P T](hsel:Region.noSelect ops=true)(k:Nat){d d':Nat}{o:Oper}{si:eU}{ao:Option Addr}{n1 c1:Nat}{lo hi:Option Int}(L N:Nat)
  (h0:mV T ops n z k plan listed l=some (d,o,plan',listed',l')) (h1:qS T ops n 0 [o] l'=some (d',si,(ao,n1,c1),lo,hi,[],l')) (hL:lo.getD 0=(L:Int)) (hH:hi.getD n1=((L+N:Nat):Int)) (hN:L+N<=c1)
  (hk:WA P w0 ops Q K0 A z plan' listed' n ((d,.slice (ez ao c1 L si.size) N (c1-L))::l') K hs):WA P w0 ops Q K0 A z plan listed n l K hs:=by
 obtain ⟨o',ho,hd,hb,hrun⟩:=ub (P:=P) L (L+N) h1 hL hH qo hN
 have ho':o'=o:=by
  have e:jT T ops n 0 [o] l'=some ([o],l'):=rfl
  grind [fc]
 grind [nR]
end openc
end
section
def eO{α:Type}(R:List Value->α->Prop):List (List Value)->List α->Prop
 | [],[]=>True
 | c::cs,x::xs=>R c x/\eO R cs xs
 | _,_=>False
section al
variable {α:Type} {R R':List Value->α->Prop}
theorem eO.imp(h:∀ c x,R c x->R' c x):∀ {cs:List (List Value)} {xs:List α},eO R cs xs->eO R' cs xs
 | [],[],_=>trivial
 | _::_,_::_,g=>⟨h _ _ g.1,eO.imp h g.2⟩
 | [],_::_,g=>g.elim
 | _::_,[],g=>g.elim
theorem eO.len:∀ {cs:List (List Value)} {xs:List α},eO R cs xs->ba cs=ba xs
 | [],[],_=>rfl
 | _::_,_::_,g=>by simp[eO.len g.2]
 | [],_::_,g=>g.elim
 | _::_,[],g=>g.elim
theorem eO.get:∀ {cs:List (List Value)} {xs:List α} {i:Nat} {x:α},eO R cs xs->xs[i]?=some x->∃ c,cs[i]?=some c/\R c x
 | [],[],i,x,_,h=>by simp at h
 | c::cs,y::xs,0,x,g,h=>by simp at h;subst h;exact ⟨c,ST,g.1⟩
 | c::cs,y::xs,i+1,x,g,h=>by
  obtain ⟨d,h1,h2⟩:=eO.get (i:=i) g.2 (by simpa using h);exact ⟨d,by simpa using h1,h2⟩
 | [],_::_,_,_,g,_=>g.elim
 | _::_,[],_,_,g,_=>g.elim
theorem eO.append:∀ {cs ds:List (List Value)} {xs ys:List α},eO R cs xs->eO R ds ys->eO R (cs++ds) (xs++ys)
 | [],_,[],_,_,h=>h
 | _::_,_,_::_,_,g,h=>⟨g.1,eO.append g.2 h⟩
 | [],_,_::_,_,g,_=>g.elim
 | _::_,_,[],_,g,_=>g.elim
theorem eO.drop:∀ (k:Nat) {cs:List (List Value)} {xs:List α},eO R cs xs->eO R (cs.drop k) (xs.drop k)
 | 0,_,_,h=>h
 | k+1,[],[],_=>trivial
 | k+1,_::_,_::_,g=>eO.drop k g.2
 | k+1,[],_::_,g=>g.elim
 | k+1,_::_,[],g=>g.elim
theorem eO.take:∀ (k:Nat) {cs:List (List Value)} {xs:List α},eO R cs xs->eO R (cs.take k) (xs.take k)
 | 0,_,_,_=>trivial
 | k+1,[],[],_=>trivial
 | k+1,_::_,_::_,g=>⟨g.1,eO.take k g.2⟩
 | k+1,[],_::_,g=>g.elim
 | k+1,_::_,[],g=>g.elim
theorem eO.set{c:List Value}{y:α}(hc:R c y):∀ (k:Nat) {cs:List (List Value)} {xs:List α},eO R cs xs->eO R (cs.set k c) (xs.set k y)
 | _,[],[],_=>trivial
 | 0,_::_,_::_,g=>⟨hc,g.2⟩
 | k+1,_::_,_::_,g=>⟨g.1,eO.set hc k g.2⟩
 | _,[],_::_,g=>g.elim
 | _,_::_,[],g=>g.elim
theorem qq{size:Nat}:∀ {cs:List (List Value)} {i:Nat} {c:List Value},(∀ d∈cs,ba d=size)->cs[i]?=some c->∀ (j:Nat) v,c[j]?=some v->cs.flatten[i*size+j]?=some v
 | [],i,c,_,h,_,_,_=>by simp at h
 | d::cs,0,c,hl,h,j,v,hv=>by
  grind
 | d::cs,i+1,c,hl,h,j,v,hv=>by
  have hd:=hl d ST;rw[abD,ab4,show i*size+size+j=ba d+(i*size+j) from qo,aa9 qo,abx];exact qq (fun x hx=>hl x (by simp[hx])) (by simpa using h) j v hv
theorem qp{size:Nat}:∀ {cs:List (List Value)},(∀ d∈cs,ba d=size)->ba cs.flatten=ba cs*size
 | [],_=>by simp
 | d::cs,h=>by rw[abD,aaf,h d ST,qp (fun x hx=>h x (by simp[hx])),aaj,ab4];omega
theorem rW{size:Nat}:∀ (k:Nat) {cs:List (List Value)},(∀ d∈cs,ba d=size)->cs.flatten.drop (k*size)=(cs.drop k).flatten
 | 0,cs,_=>by simp
 | k+1,[],_=>by simp
 | k+1,d::cs,h=>by
  rw[abD,ab4,show k*size+size=ba d+k*size from by rw[h d ST];omega,<-aaO,List.drop_left,rW k (fun x hx=>h x (by simp[hx]))]
  simp
theorem qg{size:Nat}:∀ (k:Nat) {cs:List (List Value)},(∀ d∈cs,ba d=size)->cs.flatten.take (k*size)=(cs.take k).flatten
 | 0,cs,_=>by simp
 | k+1,[],_=>by simp
 | k+1,d::cs,h=>by
  simp_all [ab4,abO,aar,qg]
def bF(size:Nat)(R:List Value->α->Prop)(H:PH)(ao:Option Addr)(n cap:Nat)(xs:List α):Prop:=
 ∃ css:List (List Value),n=ba xs/\aH H ao n cap size css.flatten/\eO R css xs/\∀ d∈css,ba d=size
theorem bF.le{size:Nat}{H H':PH}{ao:Option Addr}{n cap:Nat}{xs:List α}(h:bF size R H ao n cap xs)(l:Le H H')(hR:∀ c x,R c x->R' c x):bF size R' H' ao n cap xs:=by
 obtain ⟨css,h1,h2,h3,h4⟩:=h;exact ⟨css,h1,h2.le l,h3.imp hR,h4⟩
theorem bF.nil(size:Nat)(H:PH)(ao:Option Addr)(cap:Nat):bF size R H ao 0 cap []:=⟨[],rfl,aH.nil H ao cap size,trivial,ST⟩
def bF.cells{size:Nat}{H:PH}{a:Addr}{n cap i:Nat}{xs:List α}{x:α}(h:bF size R H (some a) n cap xs)(hx:xs[i]?=some x):∃ c,R c x/\ba c=size/\∀ (j:Nat) v,c[j]?=some v->bR H ((a.add (i*size)).add j) v:=by
 obtain ⟨css,h1,h2,h3,h4⟩:=h;obtain ⟨c,hc,hr⟩:=h3.get hx;refine ⟨c,hr,h4 c (aap hc),fun j v hv=>?_⟩;obtain ⟨a',e,hcell⟩:=h2.2.2 _ v (qq h4 hc j v hv)
 grind [Addr.add]
def bF.isS{size:Nat}{H:PH}{ao:Option Addr}{n cap:Nat}{xs:List α}(h:bF size R H ao n cap xs):∃ vs,aH H ao n cap size vs:=by
 obtain ⟨css,_,h2,_⟩:=h;exact ⟨_,h2⟩
def bF.len{size:Nat}{H:PH}{ao:Option Addr}{n cap:Nat}{xs:List α}(h:bF size R H ao n cap xs):n=ba xs:=by
 obtain ⟨css,h1,_⟩:=h;exact h1
theorem bF.addr{size:Nat}{H:PH}{ao:Option Addr}{n cap:Nat}{xs:List α}(h:bF size R H ao n cap xs)(hn:0<n)(hs:0<size):∃ a,ao=some a:=by
 obtain ⟨css,_,h2,_⟩:=h;exact h2.addr hn hs
theorem bF.cut{size:Nat}{H:PH}{ao:Option Addr}{n cap:Nat}{xs:List α}(h:bF size R H ao n cap xs)(L:Nat)(hL:L<=n):bF size R H (ez ao cap L size) (n-L) (cap-L) (xs.drop L):=by
 obtain ⟨css,h1,h2,h3,h4⟩:=h;have hl:ba css=n:=by rw[h3.len,h1]
 refine ⟨css.drop L,by simp[h1],h2.cut L (n-L) qo ?_,h3.drop L,fun d hd=>h4 d (abe hd)⟩;rw[rW L h4];exact aar (by rw[qp (fun d hd=>h4 d (abe hd))];simp[hl])
def ej(size e:Nat)(R:List Value->α->Prop)(h:PH)(ao:Option Addr)(n cap:Nat)(xs:List α):Prop:=
 ∃ css:List (List Value),n=ba xs/\aZ h ao n cap e size css.flatten/\eO R css xs/\∀ d∈css,ba d=size
theorem ej.nil(size e:Nat):ej size e R em none 0 0 []:=⟨[],rfl,aZ.nil e size,trivial,ST⟩
def ej.slS{size e:Nat}{h:PH}{ao:Option Addr}{n cap:Nat}{xs:List α}(x:ej size e R h ao n cap xs):bF size R h ao n cap xs:=by
 obtain ⟨css,h1,h2,h3,h4⟩:=x;exact ⟨css,h1,h2.isS,h3,h4⟩
theorem ej.imp{size e:Nat}{h:PH}{ao:Option Addr}{n cap:Nat}{xs:List α}(hR:∀ c x,R c x->R' c x)(x:ej size e R h ao n cap xs):ej size e R' h ao n cap xs:=by
 obtain ⟨css,h1,h2,h3,h4⟩:=x;exact ⟨css,h1,h2,h3.imp hR,h4⟩
def ej.len{size e:Nat}{h:PH}{ao:Option Addr}{n cap:Nat}{xs:List α}(x:ej size e R h ao n cap xs):n=ba xs:=by
 obtain ⟨css,h1,_⟩:=x;exact h1
end al
section app
variable {P:Program} {T:br} {w0:World} {ops:Array Oper} {Q:Exit->Act->World->Prop} {rest rest':List Oper} {n:Nat} {l l':Sl} {K:PH} {hs:List PH} {α:Type} {R:List Value->α->Prop}
def nM[hT:TabOK P T](k i:Nat){d:Nat}{si:eU}{ao:Option Addr}{n1 c1 b:Nat}{h:PH}{xs:List α}(c:List Value)(x:α)(h0:mq T ops n k rest l=some (d,si,(ao,n1,c1),(some ⟨b,0,none⟩,1,1),rest',l'))
  (h2:hs[0]?=some (pt b c.toArray si.elem)) (hi:hs[i]?=some h) (o:ej si.size si.elem R h ao n1 c1 xs) (hc:R c x) (hl:ba c=si.size) (h1:∀ u∈c,u.oneCell'=true) (hz:si.zero.cells.size=si.size) (hsz:0<si.size) (hb:(n1+1)*si.bytes<=140737488355328) (h63:n1+1<=maxLen)
  (hk:∀ ao' cap' h',ej si.size si.elem R h' ao' (n1+1) cap' (xs++[x])->WL P w0 ops Q rest' n ((d,.slice ao' (n1+1) cap')::l') K (hs.set i h')):WL P w0 ops Q rest n l K hs:=by
 obtain ⟨css,q1,q2,q3,q4⟩:=o
 have xv:aH (pt b c.toArray si.elem) (some ⟨b,0,none⟩) 1 1 si.size c:=by
  simpa using (aZ.ofPt (b:=b) (c:=c.toArray) (e:=si.elem) (n:=1) (size:=si.size) (by simpa using hl) (by simp[maxLen])).isS
 refine app k i h0 hi q2 (.inr ⟨0,h2⟩) xv hz hsz h1 hb h63 fun ao' cap' h' o'=>hk ao' cap' h' ⟨css++[c],by simp[q1],by simpa using o',q3.append ⟨hc,trivial⟩,?_⟩
 grind
end app
def fp:List PH->PH
 | []=>em
 | h::l=>un h (fp l)
def Dj(h h':PH):Prop:=∀ b,h b=none\/h' b=none
def jw(l:List PH):Prop:=l.Pairwise Dj
theorem wY:∀ {l:List PH} {b:Nat} {o:Obj},fp l b=some o->∃ h∈l,h b=some o
 | [],b,o,h=>by simp[fp,em] at h
 | x::l,b,o,h=>by
  simp only[fp,un] at h;cases e:x b with
  | some o'=>rw[e] at h;simp only[aad] at h;subst h;exact ⟨x,ST,e⟩
  | none=>
   rw[e] at h;obtain ⟨y,h1,h2⟩:=wY h;exact ⟨y,by simp[h1],h2⟩
theorem yo:∀ {l:List PH} (d:jw l) {h:PH} (hm:h∈l) {b:Nat} {o:Obj},h b=some o->fp l b=some o
 | [],_,_,hm,_,_,_=>by cases hm
 | x::l,d,h,hm,b,o,hb=>by
  simp only[fp,un];rcases aau.1 hm with rfl|hm
  ·rw[hb]
  have h1:=(aaE.1 d).1 h hm b;cases e:x b with
  | none=>exact yo (aaE.1 d).2 hm hb
  | some o'=>
   simp_all
def KR{l:List PH}{b:Nat}(h:∀ x∈l,x b=none):fp l b=none:=by
 cases e:fp l b with
 | none=>rfl
 | some o=>grind [wY]
def aY.split{w0 w:World}{K:PH}{l hs:List PH}(s:aY w0 w K (fp l::hs))(d:jw l):aY w0 w K (l++hs):=by
 rw[aY.iff] at s ⊢;obtain ⟨⟨h1,h2,h3,h4,h5,h6⟩,h7⟩:=s;rw[aaE] at h7;refine ⟨⟨h1,h2,h3,h4,h5,fun h hm b o hb=>?_⟩,?_⟩
 ·rcases aal.1 hm with hm|hm
  ·exact h6 (fp l) ST b o<|yo d hm hb
  exact h6 h (by simp[hm]) b o hb
 rw[aby];refine ⟨d,h7.2,fun x hx y hy b=>?_⟩;cases e:x b with
 | none=>simp
 | some o=>
  rcases h7.1 y hy b with h|h
  all_goals grind [yo]
def aY.join{w0 w:World}{K:PH}(l:List PH){hs:List PH}(s:aY w0 w K (l++hs)):jw l/\aY w0 w K (fp l::hs):=by
 rw[aY.iff] at s ⊢;obtain ⟨⟨h1,h2,h3,h4,h5,h6⟩,h7⟩:=s;rw[aby] at h7;obtain ⟨d,h8,h9⟩:=h7;refine ⟨d,⟨h1,h2,h3,h4,h5,fun h hm b o hb=>?_⟩,?_⟩
 ·rcases aau.1 hm with rfl|hm
  ·obtain ⟨x,g1,g2⟩:=wY hb;exact h6 x (by simp[g1]) b o g2
  exact h6 h (by simp[hm]) b o hb
 rw[aaE];refine ⟨fun y hy b=>?_,h8⟩;cases e:y b with
 | none=>simp
 | some o=>
  refine .inl (KR fun x hx=>?_);rcases h9 x hx y hy b with h|h
  ·exact h
  rw[e] at h;cases h
section sj
variable {P:Program} {w0:World} {ops:Array Oper} {Q:Exit->Act->World->Prop} {rest:List Oper} {n:Nat} {l:Sl} {K:PH} {hs:List PH} {c:Code} {e:Exit} {r:Option Nat} {ds:List Deferred}
theorem WL.split{m:List PH}(d:jw m)(hk:WL P w0 ops Q rest n l K (m++hs)):WL P w0 ops Q rest n l K (fp m::hs):=fun a w ha hw=>hk a w ha (hw.split d)
theorem WC.split{m:List PH}(d:jw m)(hk:WC P w0 c Q n l K (m++hs)):WC P w0 c Q n l K (fp m::hs):=fun a w ha hw=>hk a w ha (hw.split d)
theorem WQ.split{m:List PH}(d:jw m)(hk:WQ w0 Q e n l K (m++hs)):WQ w0 Q e n l K (fp m::hs):=fun a w ha hw=>hk a w ha (hw.split d)
theorem WX.split{m:List PH}(d:jw m)(hk:WX P w0 r ds c Q n l K (m++hs)):WX P w0 r ds c Q n l K (fp m::hs):=fun a w ha hw=>hk a w ha (hw.split d)
theorem WL.join(m:List PH)(hk:jw m->WL P w0 ops Q rest n l K (fp m::hs)):WL P w0 ops Q rest n l K (m++hs):=fun a w ha hw=>hk (hw.join m).1 a w ha (hw.join m).2
theorem cH.join(m:List PH)(hk:jw m->cH ds w0 Q e n l K (fp m::hs)):cH ds w0 Q e n l K (m++hs):=fun a w ha hw=>hk (hw.join m).1 a w ha (hw.join m).2
theorem cH.drop{h:PH}(hk:cH ds w0 Q e n l K hs):cH ds w0 Q e n l K (h::hs):=fun a w ha hw=>hk a w ha hw.dropHead
def cH.drop1{h x:PH}(hk:cH ds w0 Q e n l K (h::hs)):cH ds w0 Q e n l K (h::x::hs):=fun a w ha hw=>hk a w ha (hw.perm (aaq x h hs)).dropHead
def WQ.drop1{h x:PH}(hk:WQ w0 Q e n l K (h::hs)):WQ w0 Q e n l K (h::x::hs):=fun a w ha hw=>hk a w ha (hw.perm (aaq x h hs)).dropHead
theorem WX.drop{h:PH}(hk:WX P w0 r ds c Q n l K hs):WX P w0 r ds c Q n l K (h::hs):=fun a w ha hw=>hk a w ha hw.dropHead
theorem cH.perm{hs':List PH}(p:hs.Perm hs')(hk:cH ds w0 Q e n l K hs'):cH ds w0 Q e n l K hs:=fun a w ha hw=>hk a w ha (hw.perm p)
theorem WX.perm{hs':List PH}(p:hs.Perm hs')(hk:WX P w0 r ds c Q n l K hs'):WX P w0 r ds c Q n l K hs:=fun a w ha hw=>hk a w ha (hw.perm p)
theorem WX.frz{h:PH}(hk:∀ K',Le K K'->Le h K'->WX P w0 r ds c Q n l K' hs):WX P w0 r ds c Q n l K (h::hs):=fun a w ha hw=>by
 obtain ⟨h1,h2,h3⟩:=hw.frz;exact hk _ h1 h2 a w ha h3
theorem WX.em(hk:WX P w0 r ds c Q n l K (En.em::hs)):WX P w0 r ds c Q n l K hs:=fun a w ha hw=>hk a w ha hw.addEm
end sj
def GY{P:Program}{w0:World}{ops:Array Oper}{Q:Exit->Act->World->Prop}{plan:List Nat}{z:Nat}{n:Nat}{l:Sl}{K K0:PH}{hs A:List PH}{L:Array Bool}(A':List PH)(hA:∀ h∈A',h∈hs)(hAA:∀ h∈A,h∈A')(hK:Le K0 K)(hk:WA P w0 ops Q K A' z plan L n l K hs):
  WL P w0 ops (fun e a w=>gK .any ops plan L=true->gm .any ops L->my P w0 ops Q K0 A z plan L e a w) [] n l K hs:=by
 intro a w ha hw;refine wpList_nil fun hp hc=>?_;have up:∀ L w,iT z (fo K A') L w->iT z (fo K0 A) L w:=fun L w h hz=>⟨fun b o hb=>(h hz).1 b o (hK b o hb),fun x hx=>(h hz).2 x (hAA x hx)⟩;have hst:iT z (fo K A') L w:=fun _=>fo.ofMem hw hA;exact ⟨up _ _ hst,zf up _ _ _ _ (hk hp hc a w ha hw hst)⟩
def fF{P:Program}{w0:World}{ops:Array Oper}{Q:Exit->Act->World->Prop}{plan:List Nat}{z:Nat}{n:Nat}{l:Sl}{K K0:PH}{hs A:List PH}{L:Array Bool}(hA:∀ h∈A,h∈hs)(hK:Le K0 K)(hk:WA P w0 ops Q K A z plan L n l K hs):
  WL P w0 ops (fun e a w=>gK .any ops plan L=true->gm .any ops L->my P w0 ops Q K0 A z plan L e a w) [] n l K hs:=GY A hA (fun _ h=>h) hK hk
section me
variable {P:Program} {T:br} {w0:World} {ops:Array Oper} {Q:Exit->Act->World->Prop} {plan plan':List Nat} {z:Nat} {listed listed':Array Bool} {n:Nat} {l l':Sl} {K K0:PH} {hs A:List PH}
def G3(T:br)(ops:Array Oper)(n z k:Nat)(plan:List Nat)(L:Array Bool)(l:Sl):Option (Nat×Oper×Nat×List (Nat×Value)×List Nat×Array Bool×Sl):=
 match mV T ops n z k plan L l with
 | some (d,o,r,L',l')=>match o.op with
  | .build t parts=>match parts.toList.mapM (fun x=>(ev l' x.2).map (fun v=>(x.1,v))) with
   | some vs=>some (d,o,t,vs,r,L',l')
   | none=>none
  | _=>none
 | none=>none
def me[hT:TabOK P T](hsel:Region.noSelect ops=true)(k:Nat){d t:Nat}{o:Oper}{vs:List (Nat×Value)}(v:Value)(h0:G3 T ops n z k plan listed l=some (d,o,t,vs,plan',listed',l'))(hv:∀ w,(Instr.build t vs.toArray).run P w=.ok v w)
  (hk:WA P w0 ops Q K0 A z plan' listed' n ((d,v)::l') K hs):WA P w0 ops Q K0 A z plan listed n l K hs:=by
 unfold G3 at h0
 split at h0
 ·rename_i d' o' r L' l2 hh
  split at h0
  ·rename_i t' parts hop
   split at h0
   ·rename_i vs' hvs;simp only[aad,aai] at h0;obtain ⟨rfl,rfl,rfl,rfl,rfl,rfl,rfl⟩:=h0;refine nR hsel k hh (fun a w ha=>?_) hk;have h6:=uu ha _ _ hvs
    have h7:(parts.map fun x=>(x.1,a.eval x.2))=vs'.toArray:=by
     apply Array.ext'
     simpa using h6
    simp_all [execOp]
   simp at h0
  simp at h0
 simp at h0
end me
end
section
section
variable {P:Program} {T:br} {w0:World} {ops:Array Oper} {Q:Exit->Act->World->Prop} {rest rest':List Oper} {n:Nat} {l l':Sl} {K:PH} {hs:List PH}
def HP{c:Code}(h:WC P w0 c (Exit.noGoto Q) n l K hs):WC P w0 (.scope c) Q n l K hs:=fun a w ha hw=>wp_scope_straight (h a w ha hw)
def zO{i:Nat}(h:WQ w0 Q .normal n l K hs):WC P w0 (.label i) Q n l K hs:=fun a w ha hw=>wp_label (h a w ha hw)
def HS(h:WQ w0 Q .ret n l K hs):WQ w0 (Exit.noGoto Q) .ret n l K hs:=h
def vq(T:br)(ops:Array Oper)(n k:Nat)(rest:List Oper)(l:Sl):Option (Nat×Oper×Nat×Value×Value×List Oper×Sl):=
 match gB T ops n k rest l with
 | some (d,o,r,l')=>match o.op with
  | .mapEntry t x y=>match ev l' x,ev l' y with
   | some u,some v=>some (d,o,t,u,v,r,l')
   | _,_=>none
  | _=>none
 | none=>none
def Cc{k d t:Nat}{o:Oper}{u v:Value}(h:vq T ops n k rest l=some (d,o,t,u,v,rest',l')):gB T ops n k rest l=some (d,o,rest',l')/\∀ a,Ag n l' a->execOp a.eval o=(do let x <- Instr.mapEntry t u v;pure (.value x)):=by
 unfold vq at h
 split at h
 ·rename_i d' o' r l2 ho
  split at h
  ·rename_i t' x y hop
   split at h
   ·rename_i u' v' hx hy;simp only[aad,aai] at h;obtain ⟨rfl,rfl,rfl,rfl,rfl,rfl,rfl⟩:=h;exact ⟨ho,fun a ha=>by simp only[execOp,hop,ha.ev hx,ha.ev hy]⟩
   simp at h
  simp at h
 simp at h
def uY(T:br)(ops:Array Oper)(n k:Nat)(rest:List Oper)(l:Sl):Option (Oper×Nat×Value×Value×Value×List Oper×Sl):=
 match qY T ops n k rest l with
 | some (o,r,l')=>match o.op with
  | .entryStore t x y z=>match ev l' x,ev l' y,ev l' z with
   | some u,some v,some w=>some (o,t,u,v,w,r,l')
   | _,_,_=>none
  | _=>none
 | none=>none
def Bv{k t:Nat}{o:Oper}{u v y:Value}(h:uY T ops n k rest l=some (o,t,u,v,y,rest',l')):qY T ops n k rest l=some (o,rest',l')/\∀ a,Ag n l' a->execOp a.eval o=(do Instr.entryStore t u v y;pure .skip):=by
 unfold uY at h
 split at h
 ·rename_i o' r l2 ho
  split at h
  ·rename_i t' x1 x2 x3 hop
   split at h
   ·rename_i u' v' y' h1 h2 h3;simp only[aad,aai] at h;obtain ⟨rfl,rfl,rfl,rfl,rfl,rfl,rfl⟩:=h;exact ⟨ho,fun a ha=>by simp only[execOp,hop,ha.ev h1,ha.ev h2,ha.ev h3]⟩
   simp at h
  simp at h
 simp at h
variable {κ:Type} [DecidableEq κ] {enc:κ->Value} {h:PH} {b:Nat} {m:List (κ×Value)}
def zY(enc:κ->Value)(h:PH)(b:Nat)(m:List (κ×Value))(k:κ)(c:Nat):Prop:=
 ∃ es z,h=sg b (.map (es.push { key:=enc k,val:=z,born:=c }) (c+1))/\dG enc id (sg b (.map es c)) b m
omit [DecidableEq κ] in
theorem dG.sg_eq{es:Array MapEntry}{c:Nat}(hm:dG enc (id:Value->Value) (sg b (.map es c)) b m):es.toList.map (fun e=>(e.key,e.val))=m.map (fun x=>(enc x.1,x.2))/\(es.toList.map (·.born)).Pairwise (· < ·)/\∀ e∈es.toList,e.born<c:=by
 obtain ⟨es',c',h1,h2,h3,h4⟩:=hm;have h5:(sg b (.map es c)) b=(sg b (.map es' c')) b:=by rw[h1]
 grind
def Sc[hT:TabOK P T](k i:Nat){d t kt et:Nat}{o:Oper}{z v:Value}(j:κ)(h0:vq T ops n k rest l=some (d,o,t,.map (some b),v,rest',l'))(hi:hs[i]?=some h)(hu:P.underlying t=some (.map kt et))(hz:(P.info? et).bind (·.zero)=some z)(hK:ga P kt enc)(hv:v=enc j)(hm:dG enc id h b m)
  (hno:aK j m=none) (hk:∀ h' c,zY enc h' b m j c->WL P w0 ops Q rest' n ((d,.tuple #[z,.int .i64 (c:Nat)])::l') K (hs.set i h')):WL P w0 ops Q rest n l K hs:=by
 obtain ⟨h1,h2⟩:=Cc h0;subst hv;refine pc k (R:=fun v K' hs'=>∃ h' c,zY enc h' b m j c/\v=.tuple #[z,.int .i64 (c:Nat)]/\K'=K/\hs'=hs.set i h') h1 (fun a w ha hw=>?_) ?_
 ·have hm0:=hm;obtain ⟨es,c,rfl,g2,g3,g4⟩:=hm;have hb:w.heap[b]?=some (.map es c):=hw.own i _ hi b _ ST;have hf:=hK.fnd j es.toList (m.map fun x=>(x.1,x.2)) w (by rw[g2];simp)
  have hfn:fk j (m.map fun x=>(x.1,x.2)) 0=none:=by
   have:=sL (encv:=(id:Value->Value)) j m 0;rw[hno] at this;simpa using this
  have hset:∀ o:Obj,(setObj b o).run P w=.ok () (w.putObj b o):=fun o=>by simp[setObj,Sem.run,hb,World.putObj]
  obtain ⟨iz,hiz,hz'⟩:=ach.1 hz;have hzz:(zeroValue et).run P w=.ok z w:=by simp[zeroValue,typeInfo,hiz,hz']
  refine ⟨.tuple #[z,.int .i64 (c:Nat)],w.putObj b (.map (es.push { key:=enc j,val:=z,born:=c }) (c+1)),K,hs.set i (sg b (.map (es.push { key:=enc j,val:=z,born:=c }) (c+1))),?_,hw.putObj hi _,_,c,⟨es,z,I,hm0⟩,I,I,I⟩;rw[h2 a ha];unfold Instr.mapEntry;simp only[Sem.run_bind,run_underlying hu,Result.andThen,kC hb,Sem.run_pure,hK.chk,hf,hfn,hzz,hset]
  rfl
 rintro v K' hs' ⟨h',c,g1,rfl,rfl,rfl⟩;exact hk h' c g1
omit [DecidableEq κ] in
theorem SA[hT:TabOK P T](k i:Nat){t:Nat}{o:Oper}{x y:Value}{c:Nat}{j:κ}(h0:uY T ops n k rest l=some (o,t,.map (some b),x,y,rest',l'))(hi:hs[i]?=some h)(hx:x=.int .i64 (c:Nat))(hm:zY enc h b m j c)
  (hk:∀ h',dG enc id h' b (m++[(j,y)])->WL P w0 ops Q rest' n l' K (hs.set i h')):WL P w0 ops Q rest n l K hs:=by
 obtain ⟨h1,h2⟩:=Bv h0;subst hx;refine vQ k (R:=fun K' hs'=>∃ h',dG enc id h' b (m++[(j,y)])/\K'=K/\hs'=hs.set i h') h1 (fun a w ha hw=>?_) ?_
 ·obtain ⟨es,z,rfl,hm0⟩:=hm;obtain ⟨g2,g3,g4⟩:=hm0.sg_eq;have hb:w.heap[b]?=some (.map (es.push { key:=enc j,val:=z,born:=c }) (c+1)):=hw.own i _ hi b _ ST;have hset:∀ o:Obj,(setObj b o).run P w=.ok () (w.putObj b o):=fun o=>by simp[setObj,Sem.run,hb,World.putObj]
  have hfi:(es.push { key:=enc j,val:=z,born:=c }).findIdx? (fun e=>(e.born:Int) == ((c:Nat):Int))=some es.size:=by
   grind
  have hmod:(es.push { key:=enc j,val:=z,born:=c }).modify es.size (fun e=>{ e with val:=y })=es.push { key:=enc j,val:=y,born:=c }:=by
   grind
  refine ⟨w.putObj b (.map (es.push { key:=enc j,val:=y,born:=c }) (c+1)),K,hs.set i (sg b (.map (es.push { key:=enc j,val:=y,born:=c }) (c+1))),?_,hw.putObj hi _,_,⟨es.push { key:=enc j,val:=y,born:=c },c+1,I,?_,?_,?_⟩,I,I⟩
  ·rw[h2 a ha];unfold Instr.entryStore;have hai:(asInt (.int .i64 (c:Nat))).run P w=.ok ((c:Nat):Int) w:=rfl;simp only[Sem.run_bind,kC hb,Result.andThen,hai,hfi,hmod,hset]
   rfl
  ·simp_all
  all_goals grind
 rintro K' hs' ⟨h',g1,rfl,rfl⟩;exact hk h' g1
end
attribute [local irreducible] Code.wp wpList Calls
def DL{size:Nat}{cs:List (List Value)}(h:∀ d∈cs,ba d=size){i:Nat}(hi:i<ba cs){v:List Value}(hv:ba v=size):
  cs.flatten.take (i*size)++v++cs.flatten.drop (i*size+ba v)=(cs.set i v).flatten:=by
 rw[qg i h,hv,show i*size+size=(i+1)*size from by rw[Nat.add_mul,Nat.one_mul],rW (i+1) h,List.set_eq_take_append_cons_drop,aab hi]
 simp
def Rv{P:Program}{T:br}{w0:World}{ops:Array Oper}{Q:Exit->Act->World->Prop}{rest rest':List Oper}{n:Nat}{l l':Sl}{K:PH}{hs:List PH}
  [hT:TabOK P T] (k:Nat) {d:Nat} {si:eU} {i j:Int} (N:Nat) (zs:Array Value) (h0:qL T ops n k rest l=some (d,si,i,j,rest',l')) (hi:i=(N:Int)) (hj:j=(N:Int)) (hz:si.zero.cells=zs) (hzl:zs.size=si.size) (hz0:0<si.size) (hr:N*si.bytes<=roomBytes) (hN0:0<N) (hN:N<=16777216) (hb2:si.bytes<=1024)
  (hk:∀ b,WL P w0 ops Q rest' n ((d,.slice (some ⟨b,0,none⟩) N N)::l') K (pt b (List.replicate N zs.toList).flatten.toArray si.elem::hs)):WL P w0 ops Q rest n l K hs:=by
 unfold qL at h0
 split at h0
 ·rename_i o r l2 ho
  split at h0
  ·rename_i d' t x y hd hop
   split at h0
   ·rename_i si' ii jj hb hsi hx hy;simp only[aad,aai] at h0;obtain ⟨rfl,rfl,rfl,rfl,rfl,rfl⟩:=h0;subst hi hj;obtain ⟨h1,im,h2,h3,h4,h5⟩:=hT.sl hsi
    refine WL.at' ho fun hg=>WL.val (R:=fun u K' hs'=>∃ b,u=.slice (some ⟨b,0,none⟩) N N/\K'=K/\hs'=pt b (List.replicate N zs.toList).flatten.toArray si'.elem::hs) hd hb hg
     (fun A w ha hw=>⟨.slice (some ⟨w.heap.size,0,none⟩) N N,_,K,_,?_,hw.alloc _,w.heap.size,rfl,rfl,rfl⟩) ?_
    ·have e1:IntKind.i64.wrap ((N:Nat):Int)=(N:Int):=by grind [IntKind.wrap,IntKind.bits]
     simp only[execOp,hop,ha.ev hx,ha.ev hy];rw[h5.symm] at hr hb2;have hm:im.bytes*N<=1024*16777216:=ab2 hb2 hN
     have c2:¬(281474976710656:Int)<(im.bytes:Int)*(N:Int):=by
      omega
     have c1:¬((N:Nat):Int)<0:=qo
     have c3:¬roomBytes<N*im.bytes:=qo
     have hzz:N≠0:=qo
     have hfl:∀ d∈List.replicate N zs.toList,ba d=si'.size:=fun d hd=>by simp_all
     have hlen:ba (List.replicate N zs.toList).flatten=N*si'.size:=by rw[qp hfl];simp
     have hz2:(Array.map (fun x=>zs[x % zs.size]!) (Array.range (N*si'.size)))=(List.replicate N zs.toList).flatten.toArray:=by
      apply Array.ext
      ·simp[hlen]
      intro i g1 g2;have g3:i<N*si'.size:=by simpa using g1
      have g4:i % si'.size<si'.size:=abz _ hz0;have g5:i / si'.size<N:=(Nat.div_lt_iff_lt_mul hz0).2 g3;have g6:=qq hfl (i:=i / si'.size) (c:=zs.toList) (by simp[g5]) (i % si'.size) (zs[i % si'.size]'qo) ST;rw[Nat.div_add_mod'] at g6
      simp_all
     have hz4:N*si'.size≠0:=Nat.mul_ne_zero hzz qo;simp[Instr.makeSlice,asInt,asIntOf,run_underlying h1,sizeOf,typeInfo,h2,h4,e1,c1,c2,c3,askRoom,newRow,zeroValue,h3,hz,hz4,hz2,pt]
    rintro u K' hs' ⟨b,rfl,rfl,rfl⟩;exact hk b
   simp at h0
  simp at h0
 simp at h0
def Ie{P:Program}{w0 w:World}{K:PH}{hs:List PH}(t ty e:TypeId)(i:TypeInfo)(z:Value)(ht:P.underlying t=some (.slice e))(hi:P.info? e=some i)(hz:i.zero=some z)
  (hzs:z.cells.size=i.size) (s0:aY w0 w K hs) {hv h2:PH} {ao ao2:Option Addr} {n cap m c2:Nat} {xs news:List Value} (hm1:In K hs hv) (o:aH hv ao n cap i.size xs) (hnone:ao=none->cap=0)
  (hm:In K hs h2) (x:aH h2 ao2 m c2 i.size news) (hsz:0<i.size) (hroom:¬n+m<=cap) (hb:(n+m)*i.bytes<=140737488355328) (h63:n+m<=maxLen):
  ∃ ao' cap' h' w',(Builtin.append_ #[t,t] ty #[.slice ao n cap,.slice ao2 m c2]).run P w=.ok (.slice ao' (n+m) cap') w'/\aZ h' ao' (n+m) cap' e i.size (xs++news)/\aY w0 w' K (h'::hs):=by
 have hlen:ba (xs++news)=(n+m)*i.size:=by rw[aaf,o.1,x.1,Nat.add_mul]
 have s:aY w0 w K (em::hs):=s0.addEm;have hm0:0<m:=by have:=o.2.1;omega
 obtain ⟨a2,rfl⟩:=x.addr hm0 hsz
 have hnews:∀ (j:Nat) v,news[j]?=some v->w.cell? (a2.add j)=some v:=fun j v hv=>by
  obtain ⟨a',ha,hc⟩:=x.2.2 j v hv;cases ha;exact s0.cell hm hc
 have grown:∀ old,old<n+m->aZ (pt w.heap.size (xs.toArray++news.toArray++Builtin.zeroCells z.cells (grownCap w (n+m) old e-(n+m))) e) (some ⟨w.heap.size,0,none⟩) (n+m) (grownCap w (n+m) old e) e i.size (xs++news) /\
   aY w0 (w.drew.alloc (.cells (xs.toArray++news.toArray++Builtin.zeroCells z.cells (grownCap w (n+m) old e-(n+m))) e)) K ((em::hs).set 0 (pt w.heap.size (xs.toArray++news.toArray++Builtin.zeroCells z.cells (grownCap w (n+m) old e-(n+m))) e)):=by
  intro old ho;have hge:=grownCap_ge w (n+m) old e;have hcm:grownCap w (n+m) old e<=maxLen:=grownCap_le_maxLen w (n+m) old e h63;refine ⟨⟨hlen,hge,hcm,.inr ⟨_,0,_,I,I,?_,?_⟩⟩,?_⟩
  ·simp only[acw,abL,size_zeroCells,hzs,o.1,x.1,<-Nat.add_mul,aaD]
   congr 1
   omega
  ·grind
  refine s.upd (i:=0) I I I I ST ?_ ?_ ?_
  ·intro b ob hb';simp only[pt,sg] at hb'
   split at hb'
   ·rename_i e1;subst e1;cases hb';exact heap_alloc_new w.drew _
   cases hb'
  ·intro b hb' _;exact RowKit.Below.heap_alloc w.drew _ b hb'
  simp
 cases ao with
 | none=>
  obtain rfl:=hnone rfl;obtain rfl:n=0:=by have:=o.2.1;omega
  obtain rfl:xs=[]:=aaX (by simpa using o.1);have hr:=run_append_nil (P:=P) w t ty e i z ht hi hz a2 m c2 news x.1 hnews hm0 (by simp only[maxLen] at h63;omega) (by simp only[aaD] at hb;omega)
  grind
 | some a=>
  have holds:∀ (k:Nat) u,xs[k]?=some u->w.cell? (a.add k)=some u:=fun k u hu=>by
   obtain ⟨a',ha,hc⟩:=o.2.2 k u hu;cases ha;exact s0.cell hm1 hc
  have hr:=run_append_grow (P:=P) w t ty e i z ht hi hz a n cap xs o.1 holds a2 m c2 news x.1 hnews qo (by simp only[maxLen] at h63;omega) (growslice_fits qo hb)
  grind
def zz{P:Program}{T:br}{w0:World}{ops:Array Oper}{Q:Exit->Act->World->Prop}{rest rest':List Oper}{n:Nat}{l l':Sl}{K:PH}{hs:List PH}
  [hT:TabOK P T] (k:Nat) {d:Nat} {si:eU} {ao ao2:Option Addr} {n1 c1 n2 c2:Nat} {hv h2:PH} {xs news:List Value} (h0:mq T ops n k rest l=some (d,si,(ao,n1,c1),(ao2,n2,c2),rest',l'))
  (hm1:In K hs hv) (o:aH hv ao n1 c1 si.size xs) (hnone:ao=none->c1=0) (hm:In K hs h2) (x:aH h2 ao2 n2 c2 si.size news) (hz:si.zero.cells.size=si.size) (hsz:0<si.size) (hroom:¬n1+n2<=c1)
  (hb:(n1+n2)*si.bytes<=140737488355328) (h63:n1+n2<=maxLen)
  (hk:∀ ao' cap' h',aZ h' ao' (n1+n2) cap' si.elem si.size (xs++news)->WL P w0 ops Q rest' n ((d,.slice ao' (n1+n2) cap')::l') K (h'::hs)):WL P w0 ops Q rest n l K hs:=by
 unfold mq at h0
 split at h0
 ·rename_i oo r l2 ho
  split at h0
  ·rename_i d' args argTypes hd hop
   split at h0
   ·rename_i x' y' t t' e1 e2
    split at h0
    ·rename_i si' a1 m1 k1 a2 m2 k2 hb' htt hsi hx hy;simp only[aad,aai] at h0;obtain ⟨rfl,rfl,⟨rfl,rfl,rfl⟩,⟨rfl,rfl,rfl⟩,rfl,rfl⟩:=h0;have htt':t=t':=aaM htt;subst htt';have a1':args=#[x',y']:=by cases args;simp_all
     have a2':argTypes=#[t,t]:=by cases argTypes;simp_all
     subst a1';subst a2';obtain ⟨g1,ii,g2,g3,g4,g5⟩:=hT.sl hsi
     refine WL.at' ho fun hg=>WL.val (R:=fun u K' hs'=>∃ ao' cap' h',u=.slice ao' (m1+m2) cap'/\aZ h' ao' (m1+m2) cap' si'.elem si'.size (xs++news)/\K'=K/\hs'=h'::hs) hd hb' hg
      (fun A w ha hw=>?_) ?_
     ·rw[<-g4] at o x hz hsz;rw[<-g5] at hb;obtain ⟨ao',cap',h',w',hr,ho',hs'⟩:=Ie (P:=P) t oo.type si'.elem ii si'.zero g1 g2 g3 hz hw hm1 o hnone hm x hsz hroom hb h63;refine ⟨_,w',K,_,?_,hs',ao',cap',h',I,by rw[<-g4];exact ho',I,I⟩;simp only[execOp,hop];simp[resolve,invoke,builtin,ha.ev hx,ha.ev hy,hr]
     rintro u K' hs' ⟨ao',cap',h',rfl,ho',rfl,rfl⟩;exact hk ao' cap' h' ho'
    simp at h0
   simp at h0
  simp at h0
 simp at h0
end
section
attribute [local irreducible] Code.wp wpList Calls
def nU(P:Program)(w0:World)(f:Nat)(cap:List Value){σ:Type}(step:σ->List Value->σ->Prop)(over:σ->Prop)(s0:σ)(Rd:PH->List PH->Prop):Prop:=
 ∀ (L:Nat) (St:σ->PH->List PH->Prop) (Sp:PH->List PH->Prop),(∀ s K hs,St s K hs->Rd K hs) ->
  (∀ s vs s' K hs fr,step s vs s'->St s K hs->pi P w0 L vs K (hs++fr) (fun v K' hs'=>∃ hs1,hs'=hs1++fr/\((v=.bool true/\St s' K' hs1)\/(v=.bool false/\Sp K' hs1)))) ->
  ∀ K hs,St s0 K hs->Ct P w0 f (.func (.yield L) #[] #[]::cap) K hs (fun _ K' hs'=>(∃ s,over s/\St s K' hs')\/Sp K' hs')
section it
variable {P:Program} {T:br} {w0:World} {r:Option Nat} {ds:List Deferred} {ops:Array Oper} {Q:Exit->Act->World->Prop} {rest rest':List Oper} {n:Nat} {l:Sl} {K:PH} {hs:List PH}
theorem pi.perm{L:Nat}{vs:List Value}{R:Value->PH->List PH->Prop}{hs':List PH}(p:hs.Perm hs')(h:pi P w0 L vs K hs' R):pi P w0 L vs K hs R:=fun w hw=>h w (hw.perm p)
def HQ{g:Operand}{ps:Array Tmp}{assign body:Code}{f:Nat}(cap:List Value){σ:Type}(step:σ->List Value->σ->Prop)(over:σ->Prop)(s0:σ)(Rd:PH->List PH->Prop)(hg:ev l g=some (.func (.func f) #[] cap.toArray))(it:nU P w0 f cap step over s0 Rd)(hcal:jN P f=true)
  (hps:∀ s vs s',step s vs s'->ba vs=ps.size) (hpn:(ps.toList.all fun t=>Nat.blt t n)=true) (St:σ->PH->List PH->Prop) (Jm:Code->PH->List PH->Prop) (h0:St s0 K hs) (hRd:∀ s K hs t u,St s K hs->Rd K (hs++[t,u]))
  (round:∀ L s vs s' K hs fr t u,step s vs s'->St s K hs->WX P w0 (some L) [] assign (Exit.then (aQ P w0 L n body (fun _ K hs=>∃ hs1,hs=hs1++fr/\St s' K hs1) (fun c K hs=>∃ hs1,hs=hs1++fr/\Jm c K hs1) t u 0) (fun _ _ _=>False)) n (prm ps.toList vs l) K ((hs++fr)++[t,u]))
  (done:∀ D s K' hs',over s->St s K' hs'->cH (np D::ds) w0 Q .normal n l K' (hs'++[ic D]))
  (stop:∀ D c K' hs',Jm c K' hs'->WX P w0 none (np D::ds) c Q n l K' (hs'++[ic D])):WX P w0 none ds (.rangeFunc g ps assign body) Q n l K hs:=by
 intro a w ha hw;refine wpIn_rangeFunc ?_;intro fn _;obtain ⟨rec,hrec⟩:∃ rec:LoopState->Option Code->Loop,rec=fun st pe=>{ state:=st,pending:=pe,fn,tmps:=a.tmps,params:=ps,assign,body,defers:=w.heap.size }:=⟨_,rfl⟩;obtain ⟨D,hD⟩:=bC w.heap.size;obtain ⟨W1,hW1⟩:∃ W1,(w.alloc (.deferred (some []))).alloc (.loop (rec .ready none))=W1:=⟨_,rfl⟩
 have hS1:aY w0 W1 K (hs++[ic D,sg (D+1) (.loop (rec .ready none))]):=by
  have h1:=(hw.alloc (.deferred (some []))).alloc (.loop (rec .ready none));rw[World.size_alloc,<-hD,hW1] at h1;refine h1.perm ?_;rw[gX];exact ((abv _ _).symm.cons _).trans (abv _ _).symm
 refine ⟨D+1,[np D],W1,{ target:=.fn (.func f) cap.toArray,args:=#[.func (.yield (D+1)) #[] #[]] },W1,f,#[.func (.yield (D+1)) #[] #[]]++cap.toArray,W1,?_,?_,?_,?_,fun h=>by simp[fz] at h,?_⟩
 ·rw[<-hW1,hrec,hD];exact run_enterLoop_outer _ _ _ _ _
 ·simp only[resolve,tj ha hg];simp[Deferred.ofValue]
  rfl
 ·intro f' _;trivial
 ·have hcal':=hcal;unfold jN at hcal';cases hfn:P.funcs[f]? with
  | none=>simp[hfn] at hcal'
  | some fn=>
   simp only[hfn,aaJ,abX] at hcal';have hbn:¬fn.body=none:=fun e=>by simp[e] at hcal'
   simp_all [invoke,callFunc]
 have hargs:(#[Value.func (.yield (D+1)) #[] #[]]++cap.toArray:Array Value)=(Value.func (.yield (D+1)) #[] #[]::cap).toArray:=by simp
 rw[hargs]
 have key:=it (D+1) (fun s K hs=>∃ hs',hs=hs'++[ic D,sg (D+1) (.loop (rec .ready none))]/\St s K hs') (fun K hs=>∃ c hs',hs=hs'++[ic D,sg (D+1) (.loop (rec .done (some c)))]/\Jm c K hs')
  (by grind) ?_ K _ ⟨hs,rfl,h0⟩
 ·refine (callsIn_wide.2 (key.2 _ hS1)).mono ?_;rintro e w2 ⟨v,K2,hs2,rfl,hh,hw2⟩;rcases hh with ⟨s,hov,hs',rfl,hst⟩|⟨c,hs',rfl,hjm⟩
  ·rw[gX] at hw2;have h1:=run_endLoop (P:=P) hw2.last (by rw[hrec];simp);rw[hrec] at h1;exact ⟨none,_,h1,done D s K2 hs' hov hst a _ ha (hw2.putLast _).dropLast⟩
  rw[gX] at hw2;have h1:=run_endLoop (P:=P) hw2.last (by rw[hrec];simp);rw[hrec] at h1;exact ⟨some c,_,h1,stop D c K2 hs' hjm a _ ha (hw2.putLast _).dropLast⟩
 rintro s vs s' K1 hs1 fr hvs ⟨hs',rfl,hst⟩ w1 hw1
 have pf:∀ (X:List PH) (t u:PH),(X++[t,u]++fr).Perm ((X++fr)++[t,u]):=fun X t u=>by
  rw[aax,aax];exact List.perm_append_comm.append_left X
 replace hw1:=hw1.perm (pf hs' _ _)
 have hl1:w1.heap[D+1]?=some (.loop (rec .ready none)):=by rw[gX] at hw1;exact hw1.last
 have hsz:vs.toArray.size=(rec .ready none).params.size:=by rw[hrec];simpa using hps s vs s' hvs
 have hy:=run_yield (P:=P) hl1 hsz;refine ⟨_,_,_,_,hy,roundIn_of_wpIn (F:=fz none) trivial ?_⟩
 have hA:Ag n (prm ps.toList vs l) { tmps:=((rec .ready none).params.zip vs.toArray).foldl (fun tmps (t,a)=>tmps.setIfInBounds t a) (rec .ready none).tmps,defers:=[] }:=by
  have h1:=Ag.prm ps.toList vs ha (fun t ht=>acd (aa6.1 hpn t ht));rw[hrec]
  have e1:(ps.zip vs.toArray).foldl (fun tmps (x:Nat×Value)=>tmps.setIfInBounds x.1 x.2) a.tmps=(ps.toList.zip vs).foldl (fun tmps (x:Nat×Value)=>tmps.setIfInBounds x.1 x.2) a.tmps:=by
   rw[<-Array.foldl_toList];simp
  simp_all
 have h2:=round (D+1) s vs s' K1 hs' fr (ic D) (sg (D+1) (.loop (rec .ready none))) hvs hst _ w1 hA hw1;rw[hrec] at h2 ⊢;refine wpIn_mono h2 ?_;intro e a3 w3 hq;cases e with
 | normal=>
  obtain ⟨l',K',hs3,hA3,hS3,hb⟩:=hq;rw[gX] at hS3;refine ⟨_,run_beginRound hS3.last I,?_⟩;have hS4:=hS3.putLast (.loop { rec .ready none with state:=.busy });rw[hrec] at hS4;have h5:=hb _ a3 _ hA3 (by rw[gX];exact hS4);rw[ym hA3] at h5;refine wpIn_mono h5 ?_;intro e a4 w4 hq4;cases e with
  | normal=>
   obtain ⟨K5,hs5,hS5,hs6,rfl,hst5⟩:=hq4;rw[gX] at hS5;refine ⟨_,_,run_endRound none hS5.last,_,K5,_,I,⟨_,I,.inl ⟨I,hs6,I,hst5⟩⟩,(aY.perm (pf hs6 _ _).symm ?_)⟩;rw[gX];exact hS5.putLast _
  | ret=>
   obtain ⟨K5,hs5,hS5,hs6,rfl,hst5⟩:=hq4;rw[gX] at hS5;refine ⟨_,_,run_endRound (some .ret) hS5.last,_,K5,_,I,⟨_,I,.inr ⟨I,.ret,hs6,I,hst5⟩⟩,(aY.perm (pf hs6 _ _).symm ?_)⟩;rw[gX];exact hS5.putLast _
  | exit id=>
   obtain ⟨K5,hs5,hS5,hs6,rfl,hst5⟩:=hq4;rw[gX] at hS5;refine ⟨_,_,run_endRound (some (.exit id)) hS5.last,_,K5,_,I,⟨_,I,.inr ⟨I,.exit id,hs6,I,hst5⟩⟩,(aY.perm (pf hs6 _ _).symm ?_)⟩;rw[gX];exact hS5.putLast _
  | goto l=>exact hq4.elim
  | panic ch=>exact hq4.elim
  | outgrown=>exact hq4.elim
 | exit id=>exact hq.elim
 | goto l=>exact hq.elim
 | ret=>exact hq.elim
 | panic ch=>exact hq.elim
 | outgrown=>exact hq.elim
end it
end
end Go.En
