/-
  Part 1.
-/
import Derived.WalkKit
import Derived.ProofKit
import Derived.Deep.LoopGhost
import Derived.OrdersHeld
import Derived.StillTail
import Derived.Laws.BytesArg
import Derived.Lib.ConvBytes
import Derived.Laws.StructEq
import Derived.Test.YtaifbolghjccjaaGreatRows
import Derived.OpenShut
import Derived.JoinedCond
import Derived.Carry
import Derived.Deep.Slices
import Derived.Deep.Strs
import Derived.RangeFuncRecord
import Derived.Sort.LoopGhostIn
import Derived.OrdersIn
import Derived.ChangeKeysEq
import Derived.Laws.Externs
import Derived.Lib.Overlaps
import Derived.Scope
set_option linter.defProp false
set_option linter.unusedSectionVars false
set_option linter.unusedSimpArgs false
set_option linter.unusedVariables false
set_option maxRecDepth 4000
namespace Go.En
open Go.Proofs Go.Proofs.YtaifbolghjccjaaGreat
open List renaming length -> eq
def I {α : Sort _} {a : α} : a = a := rfl
def qk {p : Prop} (h : p := by kernel_rfl) : p := h
def qo {p : Prop} (h : p := by omega) : p := h
def Nm {p : Prop} (h : p := by simp) : p := h
def Nn {p : Prop} (h : p := by decide) : p := h
abbrev Nr (b : Nat) : Value := .pointer (some ⟨b,0,none⟩)
abbrev aaa := @if_neg
abbrev aab := @if_pos
abbrev aac := @Nat.le_refl
abbrev aad := @Nat.zero_le
abbrev aae := @Option.some.injEq
abbrev aaf := @Nat.mul_one
abbrev aag := @Prod.mk.injEq
abbrev aah := @List.length_append
abbrev aai := @List.getElem?_eq_getElem
abbrev aaj := @List.mem_append
abbrev aak := @List.length_drop
abbrev aal := @List.perm_append_comm_assoc
abbrev aam := @List.length_take
abbrev aan := @List.length_cons
abbrev aao := @List.mem_of_getElem?
abbrev aap := @List.mem_map
abbrev aaq := @List.map_cons
abbrev aar := @List.append_nil
abbrev aas := @Nat.le_trans
abbrev aat := @List.Perm.swap
abbrev aau := @Nat.le_succ
abbrev aav := @List.take_of_length_le
abbrev aaw := @List.length_set
abbrev aax := @List.getElem?_eq_some_iff
abbrev aay := @List.mem_cons
abbrev aaz := @List.mem_singleton
abbrev aaA := @List.take_append_drop
abbrev aaB := @Nat.eq_of_beq_eq_true
abbrev aaC := @Int.le_refl
abbrev aaD := @List.append_assoc
abbrev aaE := @List.take_length
abbrev aaF := @List.drop_eq_getElem_cons
abbrev aaG := @List.getD_eq_getElem?_getD
abbrev aaH := @Bool.and_eq_true
abbrev aaI := @Nat.zero_add
abbrev aaJ := @List.cons_append
abbrev aaK := @List.take_add_one
abbrev aaL := @Nat.lt_or_ge
abbrev aaM := @List.mem_of_mem_drop
abbrev aaN := @List.perm_middle
abbrev aaO := @List.length_map
abbrev aaP := @Nat.le_of_eq
abbrev aaQ := @Nat.mod_eq_of_lt
abbrev aaR := @List.drop_drop
abbrev aaS := @Bool.eq_iff_iff
abbrev aaT := @List.length_nil
abbrev aaU := @Option.some.inj
abbrev aaV := @List.all_eq_true
abbrev aaW := @List.mem_of_mem_take
abbrev aaX := @List.map_append
abbrev aaY := @List.drop_length
abbrev aaZ := @List.eq_nil_of_length_eq_zero
abbrev aa0 := @Option.getD_some
abbrev aa1 := @List.pairwise_cons
abbrev aa2 := @Int.eq_ofNat_of_zero_le
abbrev aa3 := @List.map_map
abbrev aa4 := @List.mem_cons_of_mem
abbrev aa5 := @Nat.add_zero
abbrev aa6 := @List.drop_of_length_le
abbrev aa7 := @List.nodup_cons
abbrev aa8 := @Nat.mul_le_mul_right
abbrev aa9 := @Option.map_some
abbrev aba := @List.getElem?_take_of_lt
abbrev abb := @List.getElem?_drop
abbrev abc := @List.flatten_cons
abbrev abd := @List.nil_append
abbrev abe := @Int.ofNat_inj
abbrev abf := @List.map_congr_left
abbrev abg := @Nat.le_of_not_lt
abbrev abh := @List.suffix_refl
abbrev abi := @List.getElem?_of_mem
abbrev abj := @List.getElem?_cons_zero
abbrev abk := @Option.getD_none
abbrev abl := @BitVec.ofInt_natCast
abbrev abm := @BitVec.toNat_ofNat
abbrev abn := @List.getElem?_append_right
abbrev abo := @List.perm_append_singleton
abbrev abp := @List.getElem_mem
abbrev abq := @Nat.zero_mul
abbrev abr := @List.mem_cons_self
abbrev abs := @List.drop_zero
abbrev abt := @List.getElem?_append_left
abbrev abu := @List.take_append_of_le_length
abbrev abv := @List.length_singleton
abbrev abw := @List.getLastD_eq_getLast?
abbrev abx := @Nat.eq_zero_or_pos
abbrev aby := @List.getElem?_map
abbrev abz := @Nat.le_of_lt
abbrev abA := @List.pairwise_map
abbrev abB := @List.nodup_iff_pairwise_ne
abbrev abC := @List.pairwise_iff_getElem
abbrev abD := @Nat.pow_le_pow_right
abbrev abE := @List.drop_take
abbrev abF := @List.take_take
abbrev abG := @List.filter_append
abbrev abH := @Nat.mod_lt
abbrev abI := @List.take_zero
abbrev abJ := @List.mem_iff_getElem?
abbrev abK := @Option.toList_some
abbrev abL := @List.mem_filter
abbrev abM := @List.getElem?_set_ne
abbrev abN := @Array.length_toList
abbrev abO := @Bool.not_eq_true'
abbrev abP := @UInt8.toNat_ofNat_of_lt'
abbrev abQ := @Array.toList_modify
abbrev abR := @Nat.add_sub_cancel_left
abbrev abS := @Option.map_none
abbrev abT := @Nat.sub_zero
abbrev abU := @Nat.le_of_ble_eq_true
abbrev abV := @Nat.ne_of_beq_eq_false
abbrev abW := @List.getElem?_set_self
abbrev abX := @List.size_toArray
abbrev abY := @List.take_succ_cons
abbrev abZ := @Nat.mul_comm
abbrev ab0 := @List.ext_getElem?
abbrev ab1 := @List.drop_append_of_le_length
abbrev ab2 := @Nat.succ_mul
abbrev ab3 := @List.pairwise_append
abbrev ab4 := @Nat.lt_of_lt_of_le
abbrev ab5 := @List.singleton_append
abbrev ab6 := @Nat.pow_succ
abbrev ab7 := @UInt8.toNat_inj
abbrev ab8 := @Nat.sub_self
abbrev ab9 := @List.getLast?_eq_some_getLast
abbrev aca := @List.set_append_right
abbrev acb := @List.length_filter_le
abbrev acd := @List.filter_eq_self
abbrev ace := @List.length_pos_iff
abbrev acf := @Array.getElem?_eq_some_iff
abbrev acg := @Option.bind_eq_some_iff
abbrev ach := @Array.getElem?_eq_none
abbrev aci := @Array.getElem?_toList
abbrev acj := @Nat.two_pow_add_eq_or_of_lt
abbrev ack := @List.length_replicate
abbrev acl := @Array.toList_push
abbrev acm := @List.take_append
abbrev acn := @Option.isSome_iff_exists
abbrev aco := @Int.toNat_natCast
abbrev acp := @Bool.false_eq_true
abbrev acq := @List.nodup_append
abbrev acr := @List.getElem?_set
abbrev acs := @Int.toNat_of_nonneg
abbrev act := @List.filter_cons_of_neg
abbrev acu := @List.filter_cons_of_pos
abbrev acv := @List.drop_append
abbrev acw := @Array.all_toList
abbrev acx := @Nat.le_add_right
abbrev acy := @List.drop_suffix
abbrev acz := @List.Nodup.length_le_of_subset
abbrev acA := @List.filter_cons
abbrev acB := @Array.toList_eraseIdxIfInBounds
def aH {p : Prop} (h : p := by dsimp only; omega) : p := h
def be {α : Sort _} (a : α) : ∃ x, x = a := ⟨_, rfl⟩
def sb {p : Prop} (h : p := by (repeat' first | exact trivial | refine ⟨rfl, ?_⟩)) : p := h
section
abbrev Sl:=List (Nat×Value)
def look:Sl->Nat->Option Value
 | [],_=>none
 | (k,v)::r,t=>cond (Nat.beq k t) (some v) (look r t)
structure Ag (n:Nat) (l:Sl) (a:Act):Prop where
 size:a.tmps.size=n
 defers:a.defers=[]
 slot:∀ t v,look l t=some v->a.tmps[t]?=some v
theorem Ag.put{n:Nat}{l:Sl}{a:Act}{d:Nat}{v:Value}(h:Ag n l a)(hd:Nat.blt d n=true):
  Ag n ((d,v)::l) (a.put (some d) v):=by
 have hd':d<n:=abU hd;refine ⟨by simp[Act.put,h.size],h.defers,fun t u hu=>?_⟩;simp only[look] at hu;cases e:Nat.beq d t with
 | true=>
  have:d=t:=aaB e;subst this;rw[e] at hu;simp only[cond_true,aae] at hu;subst hu;simp[Act.put,h.size,hd']
 | false=>
  rw[e] at hu;simp only[cond_false] at hu;have hne:d≠t:=abV e;rw[<-h.slot t u hu];simp[Act.put,hne]
def ev(l:Sl):Operand->Option Value
 | .tmp t=>look l t
 | .const v=>some v
 | .global g=>some (.pointer (some ⟨g,0,none⟩))
 | .func f=>some (.func (.func f) #[] #[])
theorem Ag.ev{n:Nat}{l:Sl}{a:Act}(h:Ag n l a){x:Operand}{v:Value}(hx:ev l x=some v):a.eval x=v:=by
 cases x with
 | tmp t=>simp[Act.eval,h.slot t v hx]
 | const u=>simpa[En.ev,Act.eval] using hx
 | global g=>simpa[En.ev,Act.eval] using hx
 | func f=>simpa[En.ev,Act.eval] using hx
def jz(l:Sl):Sl->Prop
 | []=>True
 | (k,v)::r=>look l k=some v/\jz l r
theorem jz.look{l:Sl}:∀ {l2:Sl},jz l l2->∀ t v,look l2 t=some v->look l t=some v
 | [],_,t,v,h=>by simp[En.look] at h
 | (k,u)::r,hs,t,v,h=>by
  simp only[En.look] at h;cases e:Nat.beq k t with
  | true=>
   have:k=t:=aaB e;subst this;rw[e] at h;simp only[cond_true,aae] at h;subst h;exact hs.1
  | false=>
   rw[e] at h;exact jz.look hs.2 t v h
def Ag.sub{n:Nat}{l l2:Sl}{a:Act}(h:Ag n l a)(hs:jz l l2):Ag n l2 a:=
 ⟨h.size,h.defers,fun t v ht=>h.slot t v (hs.look t v ht)⟩
abbrev PH:=Nat->Option Obj
structure a7 (w0 w:World) (K:PH) (hs:List PH):Prop where
 os:w.os=w0.os
 tape:w.tape=w0.tape
 output:w.output=w0.output
 size:w0.heap.size<=w.heap.size
 imm:∀ b o,K b=some o->w.heap[b]?=some o
 own:∀ (i:Nat) h,hs[i]?=some h->∀ b o,h b=some o->w.heap[b]?=some o
 apart:∀ (i:Nat) h,hs[i]?=some h->∀ b o,h b=some o->K b=none
 sep:∀ (i j:Nat) h h',hs[i]?=some h->hs[j]?=some h'->i≠j->∀ b o,h b=some o->h' b=none
theorem a7.drew{w0 w:World}{K:PH}{hs:List PH}(h:a7 w0 w K hs):a7 w0 w.drew K hs:=
 ⟨h.os,h.tape,h.output,h.size,h.imm,h.own,h.apart,h.sep⟩
def a7.dropHead{w0 w:World}{K:PH}{h:PH}{hs:List PH}(s:a7 w0 w K (h::hs)):a7 w0 w K hs:=
 ⟨s.os,s.tape,s.output,s.size,s.imm,fun i x hx=>s.own (i+1) x (by simpa using hx),fun i x hx=>s.apart (i+1) x (by simpa using hx),
  fun i j x y hx hy hij=>s.sep (i+1) (j+1) x y (by simpa using hx) (by simpa using hy) qo⟩
def WL(P:Program)(w0:World)(ops:Array Oper)(Q:Exit->Act->World->Prop)(rest:List Oper)(n:Nat)(l:Sl)(K:PH)(hs:List PH):Prop:=
 ∀ a w,Ag n l a->a7 w0 w K hs->wpList P ops Q rest a w
def WC(P:Program)(w0:World)(c:Code)(Q:Exit->Act->World->Prop)(n:Nat)(l:Sl)(K:PH)(hs:List PH):Prop:=
 ∀ a w,Ag n l a->a7 w0 w K hs->c.wp P Q a w
def WQ(w0:World)(Q:Exit->Act->World->Prop)(e:Exit)(n:Nat)(l:Sl)(K:PH)(hs:List PH):Prop:=
 ∀ a w,Ag n l a->a7 w0 w K hs->Q e a w
section code
variable {P:Program} {w0:World} {Q:Exit->Act->World->Prop} {n:Nat} {l:Sl} {K:PH} {hs:List PH}
def sq{x y:Code}(h:WC P w0 x (Exit.then (y.wp P Q) Q) n l K hs):WC P w0 (.seq x y) Q n l K hs:=
 fun a w ha hw=>wp_seq (h a w ha hw)
def rg{id:Nat}{o:List Oper}(h:WL P w0 o.toArray Q o n l K hs):WC P w0 (.region id o.toArray false) Q n l K hs:=
 fun a w ha hw=>wp_region_lit (h a w ha hw)
def bk{id:Nat}{c:Code}(h:WC P w0 c (Exit.inBlock id Q) n l K hs):WC P w0 (.block id c) Q n l K hs:=
 fun a w ha hw=>wp_block (h a w ha hw)
def ex{id:Nat}(h:WQ w0 Q (.exit id) n l K hs):WC P w0 (.exit id) Q n l K hs:=
 fun a w ha hw=>wp_exit (h a w ha hw)
def rt(h:WQ w0 Q .ret n l K hs):WC P w0 .ret Q n l K hs:=
 fun a w ha hw=>wp_ret (h a w ha hw)
def sk(h:WQ w0 Q .normal n l K hs):WC P w0 .skip Q n l K hs:=
 fun a w ha hw=>wp_skip (h a w ha hw)
def cU{c:Operand}{x y:Code}(hc:ev l c=some (.bool true))(h:WC P w0 x Q n l K hs):WC P w0 (.cond c x y) Q n l K hs:=
 fun a w ha hw=>wp_cond_true (ha.ev hc) (h a w ha hw)
def bY{c:Operand}{x y:Code}(hc:ev l c=some (.bool false))(h:WC P w0 y Q n l K hs):WC P w0 (.cond c x y) Q n l K hs:=
 fun a w ha hw=>wp_cond_false (ha.ev hc) (h a w ha hw)
def fe{c:Operand}{x y:Code}{b:Bool}(hc:ev l c=some (.bool b))(h:b=true->WC P w0 x Q n l K hs)(h':b=false->WC P w0 y Q n l K hs):
  WC P w0 (.cond c x y) Q n l K hs:=
 fun a w ha hw=>wp_cond_split (ha.ev hc) (fun e=>h e a w ha hw) (fun e=>h' e a w ha hw)
def nl{ops:Array Oper}(h:WQ w0 Q .normal n l K hs):WL P w0 ops Q [] n l K hs:=fun a w ha hw=>wpList_nil (h a w ha hw)
def th{y:Code}{Q':Exit->Act->World->Prop}(h:WC P w0 y Q n l K hs):WQ w0 (Exit.then (y.wp P Q) Q') .normal n l K hs:=h
def bl{id:Nat}(h:WQ w0 Q .normal n l K hs):WQ w0 (Exit.inBlock id Q) .normal n l K hs:=h
def xt{id:Nat}{N:Act->World->Prop}(h:WQ w0 Q (.exit id) n l K hs):WQ w0 (Exit.then N Q) (.exit id) n l K hs:=h
def xb{id:Nat}(h:WQ w0 Q .normal n l K hs):WQ w0 (Exit.inBlock id Q) (.exit id) n l K hs:=fun a w ha hw=>by
 simpa[Exit.inBlock] using h a w ha hw
def xn{id id':Nat}(hne:Nat.beq id' id=false)(h:WQ w0 Q (.exit id') n l K hs):WQ w0 (Exit.inBlock id Q) (.exit id') n l K hs:=fun a w ha hw=>by
 have:id'≠id:=abV hne;simpa[Exit.inBlock,this] using h a w ha hw
def rT{N:Act->World->Prop}(h:WQ w0 Q .ret n l K hs):WQ w0 (Exit.then N Q) .ret n l K hs:=h
def rB{id:Nat}(h:WQ w0 Q .ret n l K hs):WQ w0 (Exit.inBlock id Q) .ret n l K hs:=h
theorem loop{σ:Type}{body:Code}(F:σ->Sl)(HK:σ->PH)(H:σ->List PH)(J:σ->Prop)(μ:σ->Nat)(x0:σ)(h0:J x0)(hF:jz l (F x0))(hK:K=HK x0)(hH:hs=H x0)
  (round:∀ x,J x->WC P w0 body (Exit.then (fun a w=>∃ x',J x'/\μ x'<μ x/\Ag n (F x') a/\a7 w0 w (HK x') (H x')) Q) n (F x) (HK x) (H x)):
  WC P w0 (.loop body) Q n l K hs:=fun a w ha hw=>by
 subst hK;subst hH;refine wp_loop_ghost (fun m a w=>∃ x,J x/\μ x=m/\Ag n (F x) a/\a7 w0 w (HK x) (H x)) (μ x0) ⟨x0,h0,I,ha.sub hF,hw⟩ ?_;rintro m a w ⟨x,hJ,rfl,hA,hS⟩;refine wp_mono (round x hJ a w hA hS) ?_
 grind
def bw{σ:Type}{F:σ->Sl}{HK:σ->PH}{H:σ->List PH}{J:σ->Prop}{μ:σ->Nat}{x:σ}{Q':Exit->Act->World->Prop}(x':σ)(hF:jz l (F x'))(hK:K=HK x')(hH:hs=H x')
  (h1:J x') (h2:μ x'<μ x):WQ w0 (Exit.then (fun a w=>∃ x',J x'/\μ x'<μ x/\Ag n (F x') a/\a7 w0 w (HK x') (H x')) Q') .normal n l K hs:=fun a w ha hw=>by
 subst hK;subst hH;exact ⟨x',h1,h2,ha.sub hF,hw⟩
end code
def iG(P:Program)(f:FuncId):Bool:=match P.funcs[f]? with
 | some fn => fn.body.isSome && !(fn.name == "runtime.NumGoroutine")
 | none=>false
def fg(w0:World)(R:Value->PH->List PH->Prop):Ending->World->Prop:=fun e w'=>∃ v K' hs',e=.returned v/\R v K' hs'/\a7 w0 w' K' hs'
def Ct(P:Program)(w0:World)(f:FuncId)(args:List Value)(K:PH)(hs:List PH)(R:Value->PH->List PH->Prop):Prop:=
 iG P f=true/\∀ w,a7 w0 w K hs->Calls P f args.toArray w (fg w0 R)
abbrev aj (w0 : World) (f : FuncId) (args : List Value) (K : PH) (hs : List PH) (R : Value -> PH -> List PH -> Prop) : Prop := Ct Tryz.prog w0 f args K hs R
theorem Ct.mono{P:Program}{w0:World}{f:FuncId}{args:List Value}{K:PH}{hs:List PH}{R R':Value->PH->List PH->Prop}(h:Ct P w0 f args K hs R)(hr:∀ v K' hs',R v K' hs'->R' v K' hs'):
  Ct P w0 f args K hs R':=
 ⟨h.1,fun w hw=>(h.2 w hw).mono fun _ _ ⟨v,K',hs',h1,h2,h3⟩=>⟨v,K',hs',h1,hr _ _ _ h2,h3⟩⟩
def params:Nat->List Value->Sl
 | _,[]=>[]
 | i,v::r=>(i,v)::params (i+1) r
theorem tv:∀ (args:List Value) (i t:Nat) (v:Value),look (params i args) t=some v->i<=t/\args[t-i]?=some v
 | [],i,t,v,h=>by simp[params,look] at h
 | u::r,i,t,v,h=>by
  simp only[params,look] at h;cases e:Nat.beq i t with
  | true=>
   simp_all
  | false=>
   rw[e] at h;obtain ⟨h1,h2⟩:=tv r (i+1) t v h
   grind
def enter{P:Program}{w0:World}{f:FuncId}{fn:Func}{c:Code}{n:Nat}{args:List Value}{K:PH}{hs:List PH}{R:Value->PH->List PH->Prop}
  (hf:P.funcs[f]?=some fn) (hcal:iG P f=true) (hb:fn.body=some c) (hn:fn.ntmps=n) (hl:Nat.ble (eq args) n=true)
  (h:WC P w0 c (bodyPost P fn (fg w0 R)) n (params 0 args) K hs):Ct P w0 f args K hs R:=by
 refine ⟨hcal,fun w hw=>calls_of_wp hf hb (h _ w ⟨?_,I,?_⟩ hw)⟩
 ·simp_all
 intro t v ht;obtain ⟨h1,h2⟩:=tv args 0 t v ht
 grind
section ret
variable {P:Program} {w0:World} {fn:Func} {R:Value->PH->List PH->Prop} {n:Nat} {l:Sl} {K:PH} {hs:List PH}
def kQ(hr:fn.results=#[])(h:R (.tuple #[]) K hs):WQ w0 (bodyPost P fn (fg w0 R)) .ret n l K hs:=
 fun _ _ ha hw=>bodyPost_ret (results_none hr _ _ _) ha.defers ⟨_,_,_,rfl,h,hw⟩
def dA(hr:fn.results=#[])(h:R (.tuple #[]) K hs):WQ w0 (bodyPost P fn (fg w0 R)) .normal n l K hs:=
 fun _ _ ha hw=>bodyPost_end (results_none hr _ _ _) ha.defers ⟨_,_,_,rfl,h,hw⟩
def ah{t:Nat}{v:Value}(hr:fn.results=#[.tmp t])(hv:look l t=some v)(h:R v K hs):WQ w0 (bodyPost P fn (fg w0 R)) .ret n l K hs:=
 fun _ _ ha hw=>bodyPost_ret (results_tmp hr _ _ _) ha.defers ⟨_,_,_,rfl,by simpa[ha.slot t v hv] using h,hw⟩
def bM{t u:Nat}{v x:Value}(hr:fn.results=#[.tmp t,.tmp u])(hv:look l t=some v)(hx:look l u=some x)(h:R (.tuple #[v,x]) K hs):WQ w0 (bodyPost P fn (fg w0 R)) .ret n l K hs:=
 fun _ _ ha hw=>bodyPost_ret (results_tmp2 hr _ _ _) ha.defers ⟨_,_,_,rfl,by simpa[ha.slot t v hv,ha.slot u x hx] using h,hw⟩
def eJ{t u s:Nat}{v x y:Value}(hr:fn.results=#[.tmp t,.tmp u,.tmp s])(hv:look l t=some v)(hx:look l u=some x)(hy:look l s=some y)(h:R (.tuple #[v,x,y]) K hs):
  WQ w0 (bodyPost P fn (fg w0 R)) .ret n l K hs:=
 fun _ _ ha hw=>bodyPost_ret (v:=.tuple #[v,x,y]) (by simp[results,hr,ha.slot t v hv,ha.slot u x hx,ha.slot s y hy,go_sem]) ha.defers ⟨_,_,_,rfl,h,hw⟩
end ret
def fo(ops:Array Oper)(l:Sl):Option (Nat×Bool)->Option Bool
 | none=>some true
 | some (j,want)=>match ops[j]? with
  | some o=>match o.dst with
   | some d=>match look l d with
    | some (.bool b)=>some (b == want)
    | some (.tuple _)=>some false
    | _=>none
   | none=>none
  | none=>none
def fX{ops:Array Oper}{n:Nat}{l:Sl}{a:Act}{o:Oper}{b:Bool}(ha:Ag n l a)(h:fo ops l o.guard=some b):Region.wanted o (yielded ops a.tmps)=b:=by
 unfold fo at h;unfold Region.wanted
 split at h
 ·rename_i e;simp[e] at *;exact h
 rename_i j want e;rw[e];simp only;cases hj:ops[j]? with
 | none=>simp[hj] at h
 | some oj=>
  simp only[hj] at h;cases hd:oj.dst with
  | none=>simp[hd] at h
  | some d=>
   simp only[hd] at h;cases hl:look l d with
   | none=>simp[hl] at h
   | some v=>
    simp only[hl] at h;have h4:=ha.slot d _ hl;cases v <;> simp at h
    all_goals simp_all [yielded]
inductive UK where
 | int (k:IntKind)|bool|str|slice|ptr|map|fn|other
def UK.fits:UK->TypeDesc->Bool
 | .int k,.int k'=>k == k'
 | .bool,.bool=>true
 | .str,.string=>true
 | .slice,.slice _=>true
 | .ptr,.pointer _=>true
 | .map,.map _ _=>true
 | .fn,.func _ _ _=>true
 | .other,_=>true
 | _,_=>false
def asc{α:Type}:List (Nat×α)->Nat->Option α
 | [],_=>none
 | (k,v)::r,t=>cond (Nat.beq k t) (some v) (asc r t)
theorem pP{α:Type}:∀ (l:List (Nat×α)) (t:Nat) (v:α),asc l t=some v->(t,v)∈l
 | [],_,_,h=>by simp[asc] at h
 | (k,u)::r,t,v,h=>by
  simp only[asc] at h;cases e:Nat.beq k t with
  | true=>
   have:k=t:=aaB e;subst this;rw[e] at h;simp only[cond_true,aae] at h;simp[h]
  | false=>
   rw[e] at h;exact aa4 _ (pP r t v h)
structure d9 where
 elem:Nat
 size:Nat
 bytes:Nat
 zero:Value
structure bg where
 kinds:List (Nat×UK)
 flds:List (Nat×Nat)
 sls:List (Nat×d9)
def UK.one:UK->Bool
 | .other=>false
 | _=>true
def bg.kindOK(P:Program)(x:Nat×UK):Bool:=match P.underlying x.1 with
 | some d=>x.2.fits d && (!x.2.one || (match P.info? x.1 with|some i=>i.size == 1|none=>false))
 | none=>false
def vn(P:Program)(t:Nat):Option d9:=match P.underlying t with
 | some (.slice e)=>match P.info? e with
  | some i=>match i.zero with
   | some z=>some ⟨e,i.size,i.bytes,z⟩
   | none=>none
  | none=>none
 | _=>none
def bg.fldOK(P:Program)(x:Nat×Nat):Bool:=match P.underlying (x.1 / 64) with
 | some (.struct fs)=>match fs[x.1 % 64]? with
  | some fd=>fd.offset == x.2 && (match P.info? fd.type with|some i=>i.size != 0|none=>false)
  | none=>false
 | _=>false
class bc (P:Program) (T:outParam bg):Prop where
 kinds:T.kinds.all (bg.kindOK P)=true
 flds:T.flds.all (bg.fldOK P)=true
 sls:T.sls.map (fun x=>vn P x.1)=T.sls.map (fun x=>some x.2)
def bc.sl{P:Program}{T:bg}(h:bc P T){t:Nat}{s:d9}(hs:asc T.sls t=some s):
  P.underlying t=some (.slice s.elem)/\∃ i,P.info? s.elem=some i/\i.zero=some s.zero/\i.size=s.size/\i.bytes=s.bytes:=by
 have h1:vn P t=some s:=by
  have:=pP _ _ _ hs;obtain ⟨k,hk⟩:=abi this;have h2:=congrArg (fun l=>l[k]?) h.sls;simpa[hk] using h2
 unfold vn at h1
 grind
theorem bc.one{P:Program}{T:bg}(h:bc P T){t:Nat}{k:UK}(hk:asc T.kinds t=some k)(h1:k.one=true):∃ d i,P.underlying t=some d/\P.info? t=some i/\i.size=1/\k.fits d=true:=by
 have:=aaV.1 h.kinds _ (pP _ _ _ hk);unfold bg.kindOK at this
 grind
def bc.kind{P:Program}{T:bg}(h:bc P T){t:Nat}{k:UK}(hk:asc T.kinds t=some k):∃ d,P.underlying t=some d/\k.fits d=true:=by
 have:=aaV.1 h.kinds _ (pP _ _ _ hk);unfold bg.kindOK at this
 grind
theorem bc.int{P:Program}{T:bg}(h:bc P T){t:Nat}{k:IntKind}(hk:asc T.kinds t=some (.int k)):P.underlying t=some (.int k):=by
 obtain ⟨d,h1,h2⟩:=h.kind hk;cases d <;> simp[UK.fits] at h2;subst h2;exact h1
def bc.fld{P:Program}{T:bg}(h:bc P T){s f off:Nat}(hf:Nat.blt f 64=true)(hk:asc T.flds (s*64+f)=some off)(a:Addr)(w:World):
  (Instr.fieldAt s (.pointer (some a)) f).run P w=.ok (.pointer (some (a.add off))) w:=by
 have:=aaV.1 h.flds _ (pP _ _ _ hk);have hf':f<64:=abU hf;unfold bg.fldOK at this;rw[show (s*64+f,off).1 / 64=s from by simp;omega,show (s*64+f,off).1 % 64=f from by simp;omega] at this;cases e:P.underlying s with
 | none=>simp[e] at this
 | some d=>
  cases d <;> simp[e] at this;rename_i fs;cases e2:fs[f]? with
  | none=>simp[e2] at this
  | some fd=>
   simp only[e2,aaH,beq_iff_eq] at this;obtain ⟨h1,h2⟩:=this;cases e3:P.info? fd.type with
   | none=>simp[e3] at h2
   | some i=>
    simp_all [run_underlying,Instr.fieldAt,Instr.sureAddr,fieldPlace,sizeOf,typeInfo]
def lz(op:BinOp)(u v:Value):Option Value:=
 match u,v with
 | .int k a,.int k' b=>match op with
  | .shl=>cond (decide (0<=b)) (some (.int k (k.wrap (a*2 ^ (min b.toNat k.bits))))) none
  | .shr=>cond (decide (0<=b)) (some (.int k (a.fdiv (2 ^ (min b.toNat k.bits))))) none
  | op=>cond (decide (k=k')) (match op with
   | .add=>some (.int k (k.wrap (a+b)))
   | .sub=>some (.int k (k.wrap (a-b)))
   | .mul=>some (.int k (k.wrap (a*b)))
   | .quo=>cond (decide (b=0)) none (some (.int k (k.wrap (a.tdiv b))))
   | .rem=>cond (decide (b=0)) none (some (.int k (a.tmod b)))
   | .and=>some (.int k (k.wrap (BitVec.ofInt k.bits a &&& BitVec.ofInt k.bits b).toNat))
   | .or=>some (.int k (k.wrap (BitVec.ofInt k.bits a ||| BitVec.ofInt k.bits b).toNat))
   | .xor=>some (.int k (k.wrap (BitVec.ofInt k.bits a ^^^ BitVec.ofInt k.bits b).toNat))
   | .andNot=>some (.int k (k.wrap (BitVec.ofInt k.bits a &&& ~~~BitVec.ofInt k.bits b).toNat))
   | .eql=>some (.bool (a == b))
   | .neq=>some (.bool (a != b))
   | .lss=>some (.bool (decide (a<b)))
   | .leq=>some (.bool (decide (a<=b)))
   | .gtr=>some (.bool (decide (a>b)))
   | .geq=>some (.bool (decide (a>=b)))
   | _=>none) none
 | .string a,.string b=>match op with
  | .eql=>some (.bool (a.toList == b.toList))
  | .neq=>some (.bool !(a.toList == b.toList))
  | _=>none
 | _,_=>none
def vV(T:bg)(t:Nat)(op:BinOp)(u v:Value):Option Value:=
 match op,asc T.kinds t,u,v with
 | .eql,some .ptr,.pointer a,.pointer none=>some (.bool a.isNone)
 | .neq,some .ptr,.pointer a,.pointer none=>some (.bool !a.isNone)
 | .eql,some .slice,.slice a _ _,.slice none _ _=>some (.bool a.isNone)
 | .neq,some .slice,.slice a _ _,.slice none _ _=>some (.bool !a.isNone)
 | .eql,some .map,.map a,.map none=>some (.bool a.isNone)
 | .neq,some .map,.map a,.map none=>some (.bool !a.isNone)
 | .eql,some .bool,.bool a,.bool b=>some (.bool (a == b))
 | .neq,some .bool,.bool a,.bool b=>some (.bool !(a == b))
 | _,_,_,_=>none
def vr(op:UnOp)(u:Value):Option Value:=
 match op,u with
 | .not,.bool b=>some (.bool !b)
 | .neg,.int k n=>some (.int k (k.wrap (0-n)))
 | .xor,.int k n=>some (.int k (k.wrap (BitVec.ofInt k.bits (if k.signed then -1 else k.max) ^^^ BitVec.ofInt k.bits n).toNat))
 | _,_=>none
def uM(T:bg)(t:Nat)(u:Value):Option Value:=
 match u with
 | .slice _ n _=>match asc T.kinds t with|some .slice=>some (.int .i64 n)|_=>none
 | .string s=>match asc T.kinds t with|some .str=>some (.int .i64 s.size)|_=>none
 | _=>none
def gV(T:bg)(l:Sl):Op->Option Value
 | .move x|.assign x=>ev l x
 | .pick c a b=>match ev l c with
  | some (.bool c')=>cond c' (ev l a) (ev l b)
  | _=>none
 | .nilCheck x=>match ev l x with
  | some (.pointer (some a))=>some (.pointer (some a))
  | some (.func (.func f) first captured)=>some (.func (.func f) first captured)
  | _=>none
 | .binOp op t x y _=>match ev l x,ev l y with
  | some u,some v=>match lz op u v with
   | some r=>some r
   | none=>vV T t op u v
  | _,_=>none
 | .unOp op _ x=>match ev l x with
  | some u=>vr op u
  | none=>none
 | .extract t i=>match ev l t with
  | some (.tuple vs)=>vs[i]?
  | _=>none
 | .convert s d x=>match asc T.kinds s,ev l x,asc T.kinds d with
  | some _,some (.int _ n),some (.int k)=>some (.int k (k.wrap n))
  | _,_,_=>none
 | .fieldAddr s x f=>match ev l x with
  | some (.pointer (some a))=>match Nat.blt f 64,asc T.flds (s*64+f) with
   | true,some off=>some (.pointer (some (a.add off)))
   | _,_=>none
  | _=>none
 | .call { callee:=.builtin .len,args,argTypes }=>match args.toList,argTypes.toList with
  | [x],[t]=>match ev l x with
   | some u=>uM T t u
   | none=>none
  | _,_=>none
 | .call { callee:=.builtin .max,args,.. }=>match args.toList with
  | [x,y]=>match ev l x,ev l y with
   | some (.int k a),some (.int _ b)=>some (.int k (if b>a then b else a))
   | _,_=>none
  | _=>none
 | .call { callee:=.builtin .min,args,.. }=>match args.toList with
  | [x,y]=>match ev l x,ev l y with
   | some (.int k a),some (.int _ b)=>some (.int k (if b<a then b else a))
   | _,_=>none
  | [x,y,z]=>match ev l x,ev l y,ev l z with
   | some (.int k a),some (.int _ b),some (.int _ c)=>some (.int k (if c<(if b<a then b else a) then c else (if b<a then b else a)))
   | _,_,_=>none
  | [x,y,z,u]=>match ev l x,ev l y,ev l z,ev l u with
   | some (.int k a),some (.int _ b),some (.int _ c),some (.int _ d)=>some (.int k (if d<(if c<(if b<a then b else a) then c else (if b<a then b else a)) then d else (if c<(if b<a then b else a) then c else (if b<a then b else a))))
   | _,_,_,_=>none
  | _=>none
 | .makeFunc fn first captured=>match first.toList,captured.toList.mapM (ev l) with
  | [],some vs=>some (.func fn #[] vs.toArray)
  | _,_=>none
 | _=>none
def EP{P:Program}{op:BinOp}{u v r:Value}(h:lz op u v=some r)(t:TypeId)(w:World):(binOp op t u v).run P w=.ok r w:=by
 unfold lz at h
 split at h
 ·rename_i k a k' b
  split at h
  ·cases e:decide (0<=b) with
   | false=>simp[e] at h
   | true=>
    rw[e] at h;simp only[cond_true,aae] at h;subst h;have hb:¬b<0:=by have:=of_decide_eq_true e;omega
    simp[binOp,Op.shift,hb,go_sem]
  ·cases e:decide (0<=b) with
   | false=>simp[e] at h
   | true=>
    rw[e] at h;simp only[cond_true,aae] at h;subst h;have hb:¬b<0:=by have:=of_decide_eq_true e;omega
    simp[binOp,Op.shift,hb,go_sem]
  by_cases hk:k=k'
  ·subst hk;simp only[decide_true,cond_true] at h
   split at h <;> first
    | (simp only[aae] at h;subst h;simp[binOp,Op.intArith,Op.intBits,Op.intCmp,go_sem];done)
    | (
      by_cases hb:b=0
      all_goals simp_all [binOp,Op.intDiv])
    | (simp at h;done)
  simp[hk] at h
 ·split at h <;> first
   | simp_all [binOp,Op.stringOp]
   | (simp at h;done)
 simp at h
def Fu{P:Program}{op:UnOp}{u r:Value}(h:vr op u=some r)(w:World):(Op.unary op u).run P w=.ok r w:=by
 unfold vr at h
 split at h <;> first
  | simp_all [Op.unary,Op.intArith,Op.intBits]
  | (simp at h;done)
def EO{P:Program}{T:bg}[hT:bc P T]{t:Nat}{u r:Value}(h:uM T t u=some r)(ty:TypeId)(w:World):(Builtin.len_ #[t] ty #[u]).run P w=.ok r w:=by
 unfold uM at h
 split at h
 ·split at h
  ·rename_i e;obtain ⟨d,h1,h2⟩:=hT.kind e;cases d <;> simp[UK.fits] at h2
   simp_all [run_underlying,Builtin.len_,goInt]
  simp at h
 ·split at h
  ·rename_i e;obtain ⟨d,h1,h2⟩:=hT.kind e;cases d <;> simp[UK.fits] at h2
   simp_all [run_underlying,Builtin.len_,goInt]
  simp at h
 simp at h
def ED{P:Program}{op:BinOp}{u v r:Value}(h:lz op u v=some r)(t:TypeId)(x y:Operand)(w:World):(eqGuard op t x y u v).run P w=.ok () w:=by
 unfold lz at h;unfold eqGuard
 split at h
 all_goals simp_all
def lq{P:Program}{t:Nat}{u v:Value}{b:Bool}{w:World}(h:∀ d,(Op.equalIn (d+1) t u v).run P w=.ok b w):(Op.equal t u v).run P w=.ok b w:=h 9999
def Eh{P:Program}{T:bg}[hT:bc P T]{t:Nat}{op:BinOp}{u v r:Value}(h:vV T t op u v=some r)(x y:Operand)(w:World):
  (eqGuard op t x y u v).run P w=.ok () w/\(binOp op t u v).run P w=.ok r w:=by
 unfold vV at h
 split at h
 ·rename_i e;obtain ⟨d,h1,h2⟩:=hT.kind e;cases d <;> simp[UK.fits] at h2;simp only[aae] at h;subst h;rename_i a _;cases a <;> exact ⟨by rfl,by simp only[binOp];rw[Sem.run_bind,lq (fun d=>by simp[Op.equalIn,run_underlying h1];try rfl)];rfl⟩
 ·rename_i e;obtain ⟨d,h1,h2⟩:=hT.kind e;cases d <;> simp[UK.fits] at h2;simp only[aae] at h;subst h;rename_i a _;cases a <;> exact ⟨by rfl,by simp only[binOp];rw[Sem.run_bind,lq (fun d=>by simp[Op.equalIn,run_underlying h1];try rfl)];rfl⟩
 ·rename_i a _ _ _ _ e;obtain ⟨d,h1,h2⟩:=hT.kind e;cases d <;> simp[UK.fits] at h2;simp only[aae] at h;subst h;cases a <;> exact ⟨by rfl,by simp only[binOp];rw[Sem.run_bind,lq (fun d=>by simp[Op.equalIn,run_underlying h1];try rfl)];rfl⟩
 ·rename_i a _ _ _ _ e;obtain ⟨d,h1,h2⟩:=hT.kind e;cases d <;> simp[UK.fits] at h2;simp only[aae] at h;subst h;cases a <;> exact ⟨by rfl,by simp only[binOp];rw[Sem.run_bind,lq (fun d=>by simp[Op.equalIn,run_underlying h1];try rfl)];rfl⟩
 ·rename_i e;obtain ⟨d,h1,h2⟩:=hT.kind e;cases d <;> simp[UK.fits] at h2;simp only[aae] at h;subst h;rename_i a _ _;cases a <;> exact ⟨by rfl,by simp only[binOp];rw[Sem.run_bind,lq (fun d=>by simp[Op.equalIn,run_underlying h1];try rfl)];rfl⟩
 ·rename_i e;obtain ⟨d,h1,h2⟩:=hT.kind e;cases d <;> simp[UK.fits] at h2;simp only[aae] at h;subst h;rename_i a _ _;cases a <;> exact ⟨by rfl,by simp only[binOp];rw[Sem.run_bind,lq (fun d=>by simp[Op.equalIn,run_underlying h1];try rfl)];rfl⟩
 ·rename_i e;obtain ⟨d,h1,h2⟩:=hT.kind e;cases d <;> simp[UK.fits] at h2;simp only[aae] at h;subst h;exact ⟨by rfl,by simp only[binOp];rw[Sem.run_bind,lq (fun d=>by simp[Op.equalIn,run_underlying h1];try rfl)];rfl⟩
 ·rename_i e;obtain ⟨d,h1,h2⟩:=hT.kind e;cases d <;> simp[UK.fits] at h2;simp only[aae] at h;subst h;exact ⟨by rfl,by simp only[binOp];rw[Sem.run_bind,lq (fun d=>by simp[Op.equalIn,run_underlying h1];try rfl)];rfl⟩
 simp at h
theorem BE{l:Sl}{ρ:Operand->Value}(hρ:∀ x v,ev l x=some v->ρ x=v):∀ (ps:List Operand) (vs:List Value),ps.mapM (ev l)=some vs->ps.map ρ=vs
 | [],vs,h=>by simp at h;subst h;rfl
 | p::ps,vs,h=>by
  simp only[List.mapM_cons] at h;cases h1:ev l p with
  | none=>simp[h1] at h
  | some v=>
   cases h2:ps.mapM (ev l) with
   | none=>simp[h1,h2] at h
   | some r=>
    simp[h1,h2] at h;subst h;simp[hρ _ _ h1,BE hρ ps r h2]
theorem tK{P:Program}{T:bg}[hT:bc P T]{n:Nat}{l:Sl}{a:Act}{o:Oper}{v:Value}(h:gV T l o.op=some v)(ha:Ag n l a)(w:World):
  (execOp a.eval o).run P w=.ok (.value v) w:=by
 obtain ⟨dst,op,type,pos,after,guard⟩:=o;simp only at h;have hρ:∀ x v,ev l x=some v->a.eval x=v:=fun _ _ hx=>ha.ev hx;clear ha;generalize a.eval=ρ at *;unfold gV at h;unfold execOp
 split at h
 ·simp[hρ _ _ h,go_sem]
 ·simp[hρ _ _ h,go_sem]
 ·rename_i c x y;cases hc:ev l c with
  | none=>simp[hc] at h
  | some vc=>
   rw[hc] at h;cases vc <;> simp only[reduceCtorEq] at h;rename_i b;cases b with
   | true=>simp_all [asBool]
   | false=>simp_all [asBool]
 ·rename_i x
  split at h
  ·rename_i e;simp only[aae] at h;subst h;simp[hρ _ _ e,go_sem]
  ·rename_i e;simp only[aae] at h;subst h;simp[hρ _ _ e,go_sem]
  simp at h
 ·rename_i op ty x y ty'
  split at h
  ·rename_i u1 u2 e1 e2
   split at h
   ·simp_all [EP,ED]
   obtain ⟨h2,h1⟩:=Eh (hT:=hT) h x y w
   simp_all
  simp at h
 ·split at h
  all_goals simp_all [Fu]
 ·split at h
  all_goals simp_all [Instr.extract]
 ·rename_i s d x
  split at h
  ·rename_i k1 kk n k e1 e2 e3;simp only[aae] at h;subst h;obtain ⟨d1,g1,_⟩:=hT.kind e1;simp[hρ _ _ e2,convert,run_underlying g1,run_underlying (hT.int e3),Conv.intToInt,go_sem]
  simp at h
 ·rename_i s x f
  split at h
  ·rename_i e
   split at h
   ·rename_i e1 e2;simp only[aae] at h;subst h;have h3:=hT.fld e1 e2 (by assumption) w;simp[hρ _ _ e,h3]
   simp at h
  simp at h
 ·rename_i args argTypes
  split at h
  ·rename_i x t e1 e2
   split at h
   ·rename_i u e3;have a1:args=#[x]:=by cases args;simp_all
    have a2:argTypes=#[t]:=by cases argTypes;simp_all
    simp_all [EO,resolve,invoke,builtin]
   simp at h
  simp at h
 ·rename_i args argTypes
  split at h
  ·rename_i x y e1
   split at h
   all_goals simp_all [resolve,invoke,builtin,Builtin.max_,Builtin.max2]
  simp at h
 ·rename_i args argTypes
  split at h
  ·rename_i x y e1
   split at h
   all_goals simp_all [resolve,invoke,builtin,Builtin.min_,Builtin.min2]
  ·rename_i x y z e1
   split at h
   all_goals simp_all [resolve,invoke,builtin,Builtin.min_,Builtin.min2]
  ·rename_i x y z u e1
   split at h
   all_goals simp_all [resolve,invoke,builtin,Builtin.min_,Builtin.min2]
  simp at h
 ·rename_i fn first captured
  split at h
  ·rename_i vs e1 e2;have a1:first=#[]:=by cases first;simp_all
   subst a1;have h6:=BE hρ _ _ e2
   have h7:captured.map ρ=vs.toArray:=by
    apply Array.ext'
    simpa using h6
   simp_all [Instr.makeFunc]
  simp at h
 simp at h
abbrev sg(b:Nat)(o:Obj):PH:=fun x=>if x=b then some o else none
abbrev pt(b:Nat)(c:Array Value)(ty:Nat)(fr:Nat×Nat:=(0,0)):PH:=sg b (.cells c ty fr)
def em:PH:=fun _=>none
def cC(h:PH)(a:Addr)(v:Value):Prop:=a.spot=none/\∃ c ty fr,h a.block=some (.cells c ty fr)/\c[a.off]?=some v
def In(K:PH)(hs:List PH)(h:PH):Prop:=h=K\/∃ i:Nat,hs[i]?=some h
section mem
variable {w0 w w':World} {K:PH} {hs:List PH}
def a7.block(s:a7 w0 w K hs){h:PH}(hi:In K hs h){b:Nat}{o:Obj}(hb:h b=some o):w.heap[b]?=some o:=by
 rcases hi with rfl|⟨i,hi⟩
 ·exact s.imm b o hb
 exact s.own i h hi b o hb
theorem a7.cell(s:a7 w0 w K hs){h:PH}(hi:In K hs h){a:Addr}{v:Value}(hc:cC h a v):w.cell? a=some v:=by
 obtain ⟨hsp,c,ty,fr,hb,hv⟩:=hc;have:=s.block hi hb;simp[World.cell?,this,hsp,hv]
def jY{w:World}{b:Nat}{o:Obj}(h:w.heap[b]?=some o):b<w.heap.size:=(acf.1 h).1
theorem a7.alloc(s:a7 w0 w K hs)(o:Obj):a7 w0 (w.alloc o) K (sg w.heap.size o::hs):=by
 have old:∀ b,b<w.heap.size->(w.alloc o).heap[b]?=w.heap[b]?:=fun b hb=>RowKit.Below.heap_alloc w o b hb;refine ⟨s.os,s.tape,s.output,?_,?_,?_,?_,?_⟩
 ·have:=s.size;simp;omega
 ·intro b o' h;have:=s.imm b o' h;rw[old b (jY this)];exact this
 ·intro i h hi b o' hb;cases i with
  | zero=>
   simp only[abj,aae] at hi;subst hi;simp only[sg] at hb
   grind [heap_alloc_new]
  | succ i=>
   have:=s.own i h (by simpa using hi) b o' hb;rw[old b (jY this)];exact this
 ·intro i h hi b o' hb;cases i with
  | zero=>
   simp only[abj,aae] at hi;subst hi;simp only[sg] at hb
   split at hb
   ·rename_i e;subst e;cases hk:K w.heap.size with
    | none=>rfl
    | some x=>have:=jY (s.imm _ _ hk);omega
   cases hb
  | succ i=>exact s.apart i h (by simpa using hi) b o' hb
 intro i j h h' hi hj hij b o' hb;cases i with
 | zero=>
  simp only[abj,aae] at hi;subst hi;simp only[sg] at hb
  split at hb
  ·rename_i e;subst e;cases j with
   | zero=>omega
   | succ j=>
    cases hk:h' w.heap.size with
    | none=>rfl
    | some x=>have:=jY (s.own j h' (by simpa using hj) _ _ hk);omega
  cases hb
 | succ i=>
  cases j with
  | zero=>
   simp only[abj,aae] at hj;subst hj;have:=jY (s.own i h (by simpa using hi) b o' hb)
   grind
  | succ j=>exact s.sep i j h h' (by simpa using hi) (by simpa using hj) qo b o' hb
def a7.upd(s:a7 w0 w K hs){i:Nat}{h h':PH}(hi:hs[i]?=some h)(hos:w'.os=w.os)(htp:w'.tape=w.tape)(hout:w'.output=w.output)(hsz:w.heap.size<=w'.heap.size)
  (hin:∀ b o,h' b=some o->w'.heap[b]?=some o) (hout':∀ b,b<w.heap.size->h b=none->w'.heap[b]?=w.heap[b]?) (hdom:∀ b o,h' b=some o->h b=none->w.heap.size<=b):
  a7 w0 w' K (hs.set i h'):=by
 have hil:i<eq hs:=(aax.1 hi).1;refine ⟨hos.trans s.os,htp.trans s.tape,hout.trans s.output,aas s.size hsz,?_,?_,?_,?_⟩
 ·intro b o hb;have h1:=s.imm b o hb;rw[hout' b (jY h1) ?_]
  ·exact h1
  cases hh:h b with
  | none=>rfl
  | some x=>have:=s.apart i h hi b x hh;rw[this] at hb;cases hb
 ·intro j g hj b o hb
  by_cases hij:i=j
  ·simp_all
  rw[abM hij] at hj;have h1:=s.own j g hj b o hb;rw[hout' b (jY h1) (s.sep j i g h hj hi (Ne.symm hij) b o hb)];exact h1
 ·intro j g hj b o hb
  by_cases hij:i=j
  ·subst hij;rw[abW hil] at hj;cases hj;cases hh:h b with
   | some x=>exact s.apart i h hi b x hh
   | none=>
    have:=hdom b o hb hh;cases hk:K b with
    | none=>rfl
    | some x=>have:=jY (s.imm b x hk);omega
  rw[abM hij] at hj;exact s.apart j g hj b o hb
 intro j k g g' hj hk hjk b o hb
 by_cases hij:i=j
 ·subst hij;rw[abW hil] at hj;cases hj;rw[abM hjk] at hk;cases hh:h b with
  | some x=>exact s.sep i k h g' hi hk hjk b x hh
  | none=>
   have:=hdom b o hb hh;cases hg:g' b with
   | none=>rfl
   | some x=>have:=jY (s.own k g' hk b x hg);omega
 rw[abM hij] at hj
 by_cases hik:i=k
 ·subst hik;rw[abW hil] at hk;cases hk;cases hg:h' b with
  | none=>rfl
  | some x=>
   have h1:=jY (s.own j g hj b o hb);have h2:=s.sep j i g h hj hi (Ne.symm hij) b o hb;have:=hdom b x hg h2;omega
 rw[abM hik] at hk;exact s.sep j k g g' hj hk hjk b o hb
theorem a7.setRow(s:a7 w0 w K hs){i b:Nat}{c:Array Value}{ty:Nat}{fr:Nat×Nat}(hi:hs[i]?=some (pt b c ty fr))(c':Array Value):
  a7 w0 (w.setRow b c') K (hs.set i (pt b c' ty fr)):=by
 have hb:w.heap[b]?=some (.cells c ty fr):=s.own i _ hi b _ Nm;refine s.upd hi I I I Nm ?_ ?_ ?_
 ·intro x o hx;simp only[pt,sg] at hx
  grind [setRow_heap]
 ·intro x hx hn;simp only[pt,sg] at hn
  grind [setRow_other]
 simp
theorem a7.setCell(s:a7 w0 w K hs){i b off:Nat}{c:Array Value}{ty:Nat}{fr:Nat×Nat}(hi:hs[i]?=some (pt b c ty fr))(v:Value):
  a7 w0 (w.setCell ⟨b,off,none⟩ v) K (hs.set i (pt b (c.setIfInBounds off v) ty fr)):=by
 have hb:w.heap[b]?=some (.cells c ty fr):=s.own i _ hi b _ Nm;rw[setCell_eq_setRow w b off c ty fr v hb];exact s.setRow hi _
def a7.addEm(s:a7 w0 w K hs):a7 w0 w K (em::hs):=by
 refine ⟨s.os,s.tape,s.output,s.size,s.imm,?_,?_,?_⟩
 ·intro i h hi b o hb;cases i with
  | zero=>simp only[abj,aae] at hi;subst hi;simp[em] at hb
  | succ i=>exact s.own i h (by simpa using hi) b o hb
 ·intro i h hi b o hb;cases i with
  | zero=>simp only[abj,aae] at hi;subst hi;simp[em] at hb
  | succ i=>exact s.apart i h (by simpa using hi) b o hb
 intro i j h h' hi hj hij b o hb;cases i with
 | zero=>simp only[abj,aae] at hi;subst hi;simp[em] at hb
 | succ i=>
  cases j with
  | zero=>simp only[abj,aae] at hj;subst hj;rfl
  | succ j=>exact s.sep i j h h' (by simpa using hi) (by simpa using hj) qo b o hb
theorem cC.pt{b off:Nat}{c:Array Value}{ty:Nat}{fr:Nat×Nat}{v:Value}(h:c[off]?=some v):cC (pt b c ty fr) ⟨b,off,none⟩ v:=
 ⟨rfl,c,ty,fr,Nm,h⟩
end mem
def ia(T:bg)(ops:Array Oper)(n:Nat):Nat->List Oper->Sl->Option (List Oper×Sl)
 | 0,r,l=>some (r,l)
 | _+1,[],_=>none
 | k+1,o::r,l=>match o.dst with
  | none=>none
  | some d=>match Nat.blt d n,fo ops l o.guard with
   | true,some true=>match gV T l o.op with
    | some v=>ia T ops n k r ((d,v)::l)
    | none=>none
   | true,some false=>ia T ops n k r ((d,undef)::l)
   | _,_=>none
section rules
variable {P:Program} {T:bg} {w0:World} {ops:Array Oper} {Q:Exit->Act->World->Prop} {rest rest':List Oper} {n:Nat} {l l':Sl} {K:PH} {hs:List PH}
def WL.val{o:Oper}{d:Nat}{R:Value->PH->List PH->Prop}(hd:o.dst=some d)(hb:Nat.blt d n=true)(hg:fo ops l o.guard=some true)
  (h:∀ a w,Ag n l a->a7 w0 w K hs->∃ v w' K' hs',(execOp a.eval o).run P w=.ok (.value v) w'/\a7 w0 w' K' hs'/\R v K' hs')
  (hk:∀ v K' hs',R v K' hs'->WL P w0 ops Q rest n ((d,v)::l) K' hs'):WL P w0 ops Q (o::rest) n l K hs:=by
 intro a w ha hw;obtain ⟨v,w',K',hs',hrun,hw',hR⟩:=h a w ha hw;have h1:=fX ha hg;unfold wpList;rw[aab h1];refine .inl ?_;unfold Oper.wp;rw[hrun];simp only[Oper.upon,hd];exact hk v K' hs' hR _ _ (ha.put hb) hw'
def WL.skp{o:Oper}{K':PH}{hs':List PH}(hd:o.dst=none)(hg:fo ops l o.guard=some true)
  (h:∀ a w,Ag n l a->a7 w0 w K hs->∃ w',(execOp a.eval o).run P w=.ok .skip w'/\a7 w0 w' K' hs')
  (hk:WL P w0 ops Q rest n l K' hs'):WL P w0 ops Q (o::rest) n l K hs:=by
 intro a w ha hw;obtain ⟨w',hrun,hw'⟩:=h a w ha hw;have h1:=fX ha hg;unfold wpList;rw[aab h1];refine .inl ?_;unfold Oper.wp;rw[hrun];simp only[Oper.upon,hd,Act.put];exact hk _ _ ha hw'
def WL.unwanted{o:Oper}{d:Nat}(hd:o.dst=some d)(hb:Nat.blt d n=true)(hg:fo ops l o.guard=some false)
  (hk:WL P w0 ops Q rest n ((d,undef)::l) K hs):WL P w0 ops Q (o::rest) n l K hs:=by
 intro a w ha hw;have h1:=fX ha hg;unfold wpList;rw[aaa (by simp[h1]),hd];exact hk _ _ (ha.put hb) hw
theorem WL.pure1[hT:bc P T]{o:Oper}{d:Nat}{v:Value}(hd:o.dst=some d)(hb:Nat.blt d n=true)(hg:fo ops l o.guard=some true)(hv:gV T l o.op=some v)
  (hk:WL P w0 ops Q rest n ((d,v)::l) K hs):WL P w0 ops Q (o::rest) n l K hs:=
 WL.val (R:=fun u K' hs'=>u=v/\K'=K/\hs'=hs) hd hb hg (fun a w ha hw=>⟨v,w,K,hs,tK hv ha w,hw,rfl,rfl,rfl⟩)
  (fun u K' hs' ⟨h1,h2,h3⟩=>by subst h1;subst h2;subst h3;exact hk)
theorem WL.pures[hT:bc P T]:∀ (k:Nat) {rest:List Oper} {l:Sl},ia T ops n k rest l=some (rest',l')->WL P w0 ops Q rest' n l' K hs->WL P w0 ops Q rest n l K hs
 | 0,rest,l,h,hk=>by simp only[ia,aae,aag] at h;obtain ⟨rfl,rfl⟩:=h;exact hk
 | k+1,[],l,h,hk=>by simp[ia] at h
 | k+1,o::r,l,h,hk=>by
  simp only[ia] at h;cases hd:o.dst with
  | none=>simp[hd] at h
  | some d=>
   simp only[hd] at h;cases hb:Nat.blt d n with
   | false=>simp[hb] at h
   | true=>
    cases hg:fo ops l o.guard with
    | none=>simp[hb,hg] at h
    | some g=>
     cases g with
     | true=>
      simp only[hb,hg] at h;cases hv:gV T l o.op with
      | none=>simp[hv] at h
      | some v=>
       simp only[hv] at h;exact WL.pure1 hd hb hg hv (WL.pures k h hk)
     | false=>
      simp only[hb,hg] at h;exact WL.unwanted hd hb hg (WL.pures k h hk)
def d8(T:bg)(ops:Array Oper)(n k:Nat)(rest:List Oper)(l:Sl):Option (Oper×List Oper×Sl):=
 match ia T ops n k rest l with
 | some (o::r,l')=>match fo ops l' o.guard with
  | some true=>some (o,r,l')
  | _=>none
 | _=>none
theorem WL.at'[hT:bc P T]{k:Nat}{o:Oper}(h:d8 T ops n k rest l=some (o,rest',l'))(hk:fo ops l' o.guard=some true->WL P w0 ops Q (o::rest') n l' K hs):WL P w0 ops Q rest n l K hs:=by
 unfold d8 at h
 split at h
 ·rename_i o' r' l2 hp
  split at h
  ·rename_i hg;simp only[aae,aag] at h;obtain ⟨rfl,rfl,rfl⟩:=h;exact WL.pures k hp (hk hg)
  simp at h
 simp at h
def my(T:bg)(ops:Array Oper)(n k:Nat)(rest:List Oper)(l:Sl):Option (Nat×Value×List Oper×Sl):=
 match d8 T ops n k rest l with
 | some (o,r,l')=>match o.dst with
  | some d=>match Nat.blt d n,gV T l' o.op with
   | true,some v=>some (d,v,r,l')
   | _,_=>none
  | none=>none
 | none=>none
def Fb{k d:Nat}{v:Value}(h:my T ops n k rest l=some (d,v,rest',l')):∃ o,d8 T ops n k rest l=some (o,rest',l')/\o.dst=some d/\Nat.blt d n=true/\gV T l' o.op=some v:=by
 unfold my at h
 grind
theorem ar[hT:bc P T](k:Nat){d:Nat}{v v':Value}(h:my T ops n k rest l=some (d,v,rest',l'))(he:v=v')(hk:WL P w0 ops Q rest' n ((d,v')::l') K hs):
  WL P w0 ops Q rest n l K hs:=by
 obtain ⟨o,ho,hd,hb,hv⟩:=Fb h;subst he;exact WL.at' ho fun hg=>WL.pure1 hd hb hg hv hk
def DG:BinOp->Int->Int->Option Prop
 | .lss,a,b=>some (a<b)
 | .leq,a,b=>some (a<=b)
 | .gtr,a,b=>some (b<a)
 | .geq,a,b=>some (b<=a)
 | .eql,a,b=>some (a=b)
 | .neq,a,b=>some (¬a=b)
 | _,_,_=>none
def we(T:bg)(ops:Array Oper)(n k:Nat)(rest:List Oper)(l:Sl):Option (Nat×Prop×List Oper×Sl):=
 match d8 T ops n k rest l with
 | some (o,r,l')=>match o.dst,o.op with
  | some d,.binOp op _ x y _=>match Nat.blt d n,ev l' x,ev l' y with
   | true,some (.int k a),some (.int k' b)=>match decide (k=k'),DG op a b with
    | true,some p=>some (d,p,r,l')
    | _,_=>none
   | _,_,_=>none
  | _,_=>none
 | none=>none
def bh[hT:bc P T](k:Nat){d:Nat}{p:Prop}(h:we T ops n k rest l=some (d,p,rest',l'))
  (hy:p->WL P w0 ops Q rest' n ((d,.bool true)::l') K hs) (hn:¬p->WL P w0 ops Q rest' n ((d,.bool false)::l') K hs):WL P w0 ops Q rest n l K hs:=by
 unfold we at h
 split at h
 ·rename_i o r l2 ho
  split at h
  ·rename_i d' op ty x y ty' hd hop
   split at h
   ·rename_i k1 a k2 b hb hx hy'
    split at h
    ·rename_i p' hk hp;simp only[aae,aag] at h;obtain ⟨rfl,rfl,rfl,rfl⟩:=h;have hk':k1=k2:=of_decide_eq_true hk;subst hk'
     have key:∀ b',lz op (.int k1 a) (.int k1 b)=some (.bool b')->(p'↔b'=true)->WL P w0 ops Q rest n l K hs:=fun b' hb' hiff=>by
      refine WL.at' ho fun hg=>WL.pure1 hd hb hg (v:=.bool b') (by rw[hop];simp only[gV,hx,hy',hb']) ?_;cases b' with
      | true=>exact hy (hiff.2 rfl)
      | false=>exact hn (fun hp'=>by have:=hiff.1 hp';cases this)
     cases op <;> simp only[DG,aae,reduceCtorEq] at hp <;> subst hp
     all_goals grind [lz]
    simp at h
   simp at h
  simp at h
 simp at h
def cb[hT:bc P T](k:Nat){d:Nat}{b:Bool}(h:my T ops n k rest l=some (d,.bool b,rest',l'))
  (hy:b=true->WL P w0 ops Q rest' n ((d,.bool true)::l') K hs) (hn:b=false->WL P w0 ops Q rest' n ((d,.bool false)::l') K hs):WL P w0 ops Q rest n l K hs:=by
 cases b with
 | true=>exact ar k h rfl (hy rfl)
 | false=>exact ar k h rfl (hn rfl)
def fin[hT:bc P T](k:Nat)(h:ia T ops n k rest l=some ([],l'))(hk:WQ w0 Q .normal n l' K hs):WL P w0 ops Q rest n l K hs:=
 WL.pures k h (nl hk)
end rules
def aw(h:PH)(ao:Option Addr)(n cap size:Nat)(xs:List Value):Prop:=
 eq xs=n*size/\n<=cap/\∀ (j:Nat) u,xs[j]?=some u->∃ a,ao=some a/\cC h (a.add j) u
def aZ(h:PH)(ao:Option Addr)(n cap e size:Nat)(xs:List Value):Prop:=
 eq xs=n*size/\n<=cap/\cap<=maxLen/\((ao=none/\cap=0/\h=em) \/
  ∃ g off cur,ao=some ⟨g,off,none⟩/\h=pt g cur e/\cur.size=off+cap*size/\(cur.toList.drop off).take (n*size)=xs)
def bf(g off k:Nat):(⟨g,off,none⟩:Addr).add k=⟨g,off+k,none⟩:=by simp[Addr.add]
def aZ.isS{h:PH}{ao:Option Addr}{n cap e size:Nat}{xs:List Value}(o:aZ h ao n cap e size xs):aw h ao n cap size xs:=by
 obtain ⟨h1,h2,_,h3⟩:=o;refine ⟨h1,h2,?_⟩;rcases h3 with ⟨rfl,rfl,rfl⟩|⟨g,off,cur,rfl,rfl,hs,ht⟩
 ·simp_all
 intro j u hu;refine ⟨_,I,?_⟩;rw[bf];refine cC.pt ?_
 grind
theorem aZ.nil(e size:Nat):aZ em none 0 0 e size []:=⟨Nm,aac _,aad _,.inl ⟨rfl,rfl,rfl⟩⟩
theorem aw.nil(h:PH)(ao:Option Addr)(cap size:Nat):aw h ao 0 cap size []:=⟨Nm,aad _,Nm⟩
def aZ.ofPt{b:Nat}{c:Array Value}{e n size:Nat}(h1:c.size=n*size)(h2:n<=maxLen):aZ (pt b c e) (some ⟨b,0,none⟩) n n e size c.toList:=
 ⟨qo,aac _,h2,.inr ⟨b,0,c,rfl,rfl,qo,by rw[abs,<-h1,<-abN];exact aaE⟩⟩
def aw.addr{h:PH}{ao:Option Addr}{n cap size:Nat}{xs:List Value}(x:aw h ao n cap size xs){j:Nat}(hj:j<n)(hs:0<size):∃ a,ao=some a:=by
 obtain ⟨h1,_,h3⟩:=x;have:0<eq xs:=by rw[h1];exact Nat.mul_pos qo hs
 obtain ⟨a,ha,_⟩:=h3 0 xs[0] Nm;exact ⟨a,ha⟩
section rules
variable {P:Program} {T:bg} {w0:World} {ops:Array Oper} {Q:Exit->Act->World->Prop} {rest rest':List Oper} {n:Nat} {l l':Sl} {K:PH} {hs:List PH}
def nh{w:World}[hT:bc P T]{t:Nat}{k:UK}(hk:asc T.kinds t=some k)(h1:k.one=true){a:Addr}{v:Value}(hc:w.cell? a=some v):
  (Instr.loadAt t (.pointer (some a))).run P w=.ok v w:=by
 obtain ⟨d,i,hd,hi,hs,hf⟩:=hT.one hk h1
 have hagg:(isAgg t).run P w=.ok false w:=by
  cases d <;> cases k <;> simp[UK.fits,UK.one] at hf h1 <;> simp[isAgg,run_underlying hd]
 simp_all [Instr.loadAt,Instr.sureAddr,loadVar]
def Fm{w:World}[hT:bc P T]{t:Nat}{k:UK}(hk:asc T.kinds t=some k)(h1:k.one=true){a:Addr}{v u:Value}(hc:w.cell? a=some u)(hf:w.frozen? a=false)(hv:v.oneCell'=true):
  (Instr.storeAt t (.pointer (some a)) v).run P w=.ok () (w.setCell a v):=by
 obtain ⟨d,i,hd,hi,hs,_⟩:=hT.one hk h1;have hcells:v.cells=#[v]:=by cases v <;> simp[Value.oneCell',Value.cells] at hv ⊢
 simp_all [run_store,Addr.add,Instr.storeAt,Instr.sureAddr,storeVar,sizeOf,typeInfo,storeCells]
def sH(T:bg)(ops:Array Oper)(n k:Nat)(rest:List Oper)(l:Sl):Option (Nat×Addr×List Oper×Sl):=
 match d8 T ops n k rest l with
 | some (o,r,l')=>match o.dst,o.op with
  | some d,.load t x=>match Nat.blt d n,asc T.kinds t,ev l' x with
   | true,some kd,some (.pointer (some a))=>cond kd.one (some (d,a,r,l')) none
   | _,_,_=>none
  | _,_=>none
 | none=>none
def ld[hT:bc P T](k:Nat){d:Nat}{a:Addr}{v:Value}{h:PH}(h0:sH T ops n k rest l=some (d,a,rest',l'))(hm:In K hs h)(hc:cC h a v)
  (hk:WL P w0 ops Q rest' n ((d,v)::l') K hs):WL P w0 ops Q rest n l K hs:=by
 unfold sH at h0
 split at h0
 ·rename_i o r l2 ho
  split at h0
  ·rename_i d' t x hd hop
   split at h0
   ·rename_i kd a' hb hkd hx;cases h1:kd.one with
    | false=>simp[h1] at h0
    | true=>
     simp only[h1,cond_true,aae,aag] at h0;obtain ⟨rfl,rfl,rfl,rfl⟩:=h0;refine WL.at' ho fun hg=>WL.val (R:=fun u K' hs'=>u=v/\K'=K/\hs'=hs) hd hb hg (fun A w ha hw=>⟨v,w,K,hs,?_,hw,I,I,I⟩) ?_
     ·have h2:=nh (P:=P) hkd h1 (hw.cell hm hc);simp only[execOp,hop,ha.ev hx];simp[h2]
     rintro u K' hs' ⟨rfl,rfl,rfl⟩;exact hk
   simp at h0
  simp at h0
 simp at h0
def a9[hT:bc P T](k i:Nat){d b off ty:Nat}{v:Value}{c:Array Value}{fr:Nat×Nat}(h0:sH T ops n k rest l=some (d,⟨b,off,none⟩,rest',l'))(hi:hs[i]?=some (pt b c ty fr))(hv:c[off]?=some v)
  (hk:WL P w0 ops Q rest' n ((d,v)::l') K hs):WL P w0 ops Q rest n l K hs:=
 ld k h0 (.inr ⟨i,hi⟩) (cC.pt hv) hk
def wr(T:bg)(ops:Array Oper)(n k:Nat)(rest:List Oper)(l:Sl):Option (Addr×Value×List Oper×Sl):=
 match d8 T ops n k rest l with
 | some (o,r,l')=>match o.dst,o.op with
  | none,.store t x y=>match asc T.kinds t,ev l' x,ev l' y with
   | some kd,some (.pointer (some a)),some v=>cond kd.one (some (a,v,r,l')) none
   | _,_,_=>none
  | _,_=>none
 | none=>none
def stp[hT:bc P T](k i:Nat){b off ty:Nat}{v u:Value}{c:Array Value}(h0:wr T ops n k rest l=some (⟨b,off,none⟩,v,rest',l'))(hi:hs[i]?=some (pt b c ty))(hu:c[off]?=some u)(hv:v.oneCell'=true)
  (hk:WL P w0 ops Q rest' n l' K (hs.set i (pt b (c.setIfInBounds off v) ty))):WL P w0 ops Q rest n l K hs:=by
 unfold wr at h0
 split at h0
 ·rename_i o r l2 ho
  split at h0
  ·rename_i t x y hd hop
   split at h0
   ·rename_i kd a' v' hkd hx hy;cases h1:kd.one with
    | false=>simp[h1] at h0
    | true=>
     simp only[h1,cond_true,aae,aag] at h0;obtain ⟨rfl,rfl,rfl,rfl⟩:=h0;refine WL.at' ho fun hg=>WL.skp hd hg (fun A w ha hw=>⟨_,?_,hw.setCell hi (off:=off) v'⟩) hk;have hb:w.heap[b]?=some (.cells c ty (0,0)):=hw.own i _ hi b _ Nm;have hc:w.cell? ⟨b,off,none⟩=some u:=hw.cell (.inr ⟨i,hi⟩) (cC.pt hu);have hf:w.frozen? ⟨b,off,none⟩=false:=by simp[World.frozen?,hb]
     have h2:=Fm (P:=P) hkd h1 hc hf hv;simp only[execOp,hop,ha.ev hx,ha.ev hy];simp[h2]
   simp at h0
  simp at h0
 simp at h0
def DJ(T:bg)(ops:Array Oper)(n k:Nat)(rest:List Oper)(l:Sl):Option (Nat×Nat×Value×List Oper×Sl):=
 match d8 T ops n k rest l with
 | some (o,r,l')=>match o.dst,o.op with
  | some d,.box e x=>match Nat.blt d n,ev l' x with
   | true,some v=>some (d,e,v,r,l')
   | _,_=>none
  | _,_=>none
 | none=>none
def bx[hT:bc P T](k:Nat){d e:Nat}{v:Value}(h0:DJ T ops n k rest l=some (d,e,v,rest',l'))
  (hk:∀ b,WL P w0 ops Q rest' n ((d,Nr b)::l') K (pt b v.cells e::hs)):WL P w0 ops Q rest n l K hs:=by
 unfold DJ at h0
 split at h0
 ·rename_i o r l2 ho
  split at h0
  ·rename_i d' e' x hd hop
   split at h0
   ·rename_i v' hb hx;simp only[aae,aag] at h0;obtain ⟨rfl,rfl,rfl,rfl,rfl⟩:=h0
    refine WL.at' ho fun hg=>WL.val (R:=fun u K' hs'=>∃ b,u=Nr b/\K'=K/\hs'=pt b v'.cells e'::hs) hd hb hg
     (fun A w ha hw=>⟨.pointer (some ⟨w.heap.size,0,none⟩),_,K,_,?_,hw.alloc _,w.heap.size,rfl,rfl,rfl⟩) ?_
    ·simp only[execOp,hop,ha.ev hx]
     rfl
    rintro u K' hs' ⟨b,rfl,rfl,rfl⟩;exact hk b
   simp at h0
  simp at h0
 simp at h0
def DN(T:bg)(ops:Array Oper)(n k:Nat)(rest:List Oper)(l:Sl):Option (Nat×Nat×List Oper×Sl):=
 match d8 T ops n k rest l with
 | some (o,r,l')=>match o.dst,o.op with
  | some d,.alloc e=>match Nat.blt d n with
   | true=>some (d,e,r,l')
   | _=>none
  | _,_=>none
 | none=>none
def al[hT:bc P T](k:Nat){d e:Nat}(z:Value)(h0:DN T ops n k rest l=some (d,e,rest',l'))(hz:(P.info? e).bind (·.zero)=some z)
  (hk:∀ b,WL P w0 ops Q rest' n ((d,Nr b)::l') K (pt b z.cells e::hs)):WL P w0 ops Q rest n l K hs:=by
 unfold DN at h0
 split at h0
 ·rename_i o r l2 ho
  split at h0
  ·rename_i d' e' hd hop
   split at h0
   ·rename_i hb;simp only[aae,aag] at h0;obtain ⟨rfl,rfl,rfl,rfl⟩:=h0
    refine WL.at' ho fun hg=>WL.val (R:=fun u K' hs'=>∃ b,u=Nr b/\K'=K/\hs'=pt b z.cells e'::hs) hd hb hg
     (fun A w ha hw=>⟨.pointer (some ⟨w.heap.size,0,none⟩),_,K,_,?_,hw.alloc _,w.heap.size,rfl,rfl,rfl⟩) ?_
    ·obtain ⟨i,hi,hz'⟩:=acg.1 hz
     simp_all [execOp,Instr.alloc,newVar,newRow,zeroValue,typeInfo]
    rintro u K' hs' ⟨b,rfl,rfl,rfl⟩;exact hk b
   simp at h0
  simp at h0
 simp at h0
def DK(T:bg)(ops:Array Oper)(n k:Nat)(rest:List Oper)(l:Sl):Option (Nat×d9×Nat×List (Nat×Value)×List Oper×Sl):=
 match d8 T ops n k rest l with
 | some (o,r,l')=>match o.dst,o.op with
  | some d,.buildSlice t len parts=>match Nat.blt d n,asc T.sls t,parts.toList.mapM (fun x=>(ev l' x.2).map (fun v=>(x.1,v))) with
   | true,some si,some vs=>some (d,si,len,vs,r,l')
   | _,_,_=>none
  | _,_=>none
 | none=>none
theorem rv{a:Act}{nn:Nat}{l:Sl}(ha:Ag nn l a):∀ (ps:List (Nat×Operand)) (vs:List (Nat×Value)),ps.mapM (fun x=>(ev l x.2).map (fun v=>(x.1,v)))=some vs->ps.map (fun x=>(x.1,a.eval x.2))=vs
 | [],vs,h=>by simp at h;subst h;rfl
 | p::ps,vs,h=>by
  simp only[List.mapM_cons] at h;cases h1:ev l p.2 with
  | none=>simp[h1] at h
  | some v=>
   cases h2:ps.mapM (fun x=>(ev l x.2).map (fun v=>(x.1,v))) with
   | none=>simp[h1,h2] at h
   | some r=>
    simp[h1,h2] at h;subst h;simp[ha.ev h1,rv ha ps r h2]
def lit[hT:bc P T](k:Nat){d len:Nat}{si:d9}{vs:List (Nat×Value)}(cells:Array Value)(h0:DK T ops n k rest l=some (d,si,len,vs,rest',l'))(hlen:len*si.size<=16777216)
  (hf:Instr.fill (fun i=>some (i*si.size,si.size)) ((Array.range (len*si.size)).map (fun i=>(if len*si.size=0 then (#[]:Array Value) else si.zero.cells)[i % (if len*si.size=0 then (#[]:Array Value) else si.zero.cells).size]!)) vs=some cells)
  (hk:∀ b,WL P w0 ops Q rest' n ((d,.slice (some ⟨b,0,none⟩) len len)::l') K (pt b cells si.elem::hs)):WL P w0 ops Q rest n l K hs:=by
 unfold DK at h0
 split at h0
 ·rename_i o r l2 ho
  split at h0
  ·rename_i d' t len' parts hd hop
   split at h0
   ·rename_i si' vs' hb hsi hvs;simp only[aae,aag] at h0;obtain ⟨rfl,rfl,rfl,rfl,rfl,rfl⟩:=h0
    refine WL.at' ho fun hg=>WL.val (R:=fun u K' hs'=>∃ b,u=.slice (some ⟨b,0,none⟩) len' len'/\K'=K/\hs'=pt b cells si'.elem::hs) hd hb hg
     (fun A w ha hw=>⟨.slice (some ⟨w.heap.size,0,none⟩) len' len',_,K,_,?_,hw.alloc _,w.heap.size,rfl,rfl,rfl⟩) ?_
    ·obtain ⟨h1,i,h2,h3,h4,h5⟩:=hT.sl hsi;have h6:=rv ha _ _ hvs;have h7:(parts.map fun (i,x)=>(i,A.eval x)).toList=vs':=by simpa using h6
     simp only[execOp,hop];have h8:¬(16777216<len'*si'.size):=qo
     by_cases hz:len'*si'.size=0
     ·rw[aab hz] at hf;simp[Instr.buildSlice,run_underlying h1,sizeOf,typeInfo,h2,h4,hz,newRow,zeroValue,h3]
      simp_all
     simp only[aaa hz] at hf;simp[Instr.buildSlice,run_underlying h1,sizeOf,typeInfo,h2,h4,h8,hz,newRow,zeroValue,h3];rw[h6];simp[hf]
    rintro u K' hs' ⟨b,rfl,rfl,rfl⟩;exact hk b
   simp at h0
  simp at h0
 simp at h0
end rules
def tc{P:Program}{w0 w:World}{K:PH}{hs:List PH}(s:a7 w0 w K hs){h:PH}(hm:In K hs h){ao:Option Addr}{n cap size:Nat}{xs:List Value}(x:aw h ao n cap size xs):
  (Builtin.firstCells size n (.slice ao n cap)).run P w=.ok xs.toArray w:=by
 obtain ⟨h1,h2,h3⟩:=x;cases ao with
 | none=>
  have:xs=[]:=by
   cases xs with
   | nil=>rfl
   | cons u r=>obtain ⟨a,ha,_⟩:=h3 0 u Nm;cases ha
  subst this
  rfl
 | some a=>
  refine run_firstCells_some (P:=P) w size n a n cap xs h1 fun j u hu=>?_;obtain ⟨a',ha,hc⟩:=h3 j u hu;cases ha;exact s.cell hm hc
def Eq{P:Program}{w0 w:World}{K:PH}{hs:List PH}(t ty e:TypeId)(i:TypeInfo)(z:Value)(ht:P.underlying t=some (.slice e))(hi:P.info? e=some i)(hz:i.zero=some z)
  (hzs:z.cells.size=i.size) (s:a7 w0 w K hs) {j:Nat} {h h2:PH} (hj:hs[j]?=some h) {ao ao2:Option Addr} {n cap m c2:Nat} {xs news:List Value} (o:aZ h ao n cap e i.size xs)
  (hm:In K hs h2) (x:aw h2 ao2 m c2 i.size news) (hsz:0<i.size) (h1:∀ u∈news,u.oneCell'=true) (hb:(n+m)*i.bytes<=140737488355328) (h63:n+m<=maxLen):
  ∃ ao' cap' h' w',(Builtin.append_ #[t,t] ty #[.slice ao n cap,.slice ao2 m c2]).run P w=.ok (.slice ao' (n+m) cap') w'/\aZ h' ao' (n+m) cap' e i.size (xs++news)/\a7 w0 w' K (hs.set j h'):=by
 have hf:=tc (P:=P) s hm x;have hlen:eq (xs++news)=(n+m)*i.size:=by rw[aah,o.1,x.1,Nat.add_mul]
 have hos:=o.isS;obtain ⟨o1,o2,o3,o4⟩:=o
 by_cases hroom:n+m<=cap
 ·rcases o4 with ⟨rfl,rfl,rfl⟩|⟨g,off,cur,rfl,rfl,hcs,htk⟩
  ·obtain rfl:n=0:=qo
   obtain rfl:m=0:=qo
   obtain rfl:xs=[]:=aaZ qo;obtain rfl:news=[]:=aaZ (by simpa using x.1);refine ⟨none,0,em,w,?_,aZ.nil e i.size,?_⟩
   ·simp[Builtin.append_,run_underlying ht,sizeOf,typeInfo,hi,Builtin.lenOf,hf]
   grind [List.set_getElem_self]
  have hg:w.heap[g]?=some (.cells cur e (0,0)):=s.own j _ hj g _ Nm
  have hfit:off+n*i.size+eq news<=cur.size:=by
   rw[x.1,hcs,Nat.add_assoc,<-Nat.add_mul]
   simp_all [aa8]
  have hst:=run_storeCells_at P g (off+n*i.size) e news 0 cur w hg qo h1;simp only[aa5] at hst;refine ⟨some ⟨g,off,none⟩,cap,_,_,?_,⟨hlen,hroom,o3,.inr ⟨g,off,(cur.toList.take (off+n*i.size)++news++cur.toList.drop (off+n*i.size+eq news)).toArray,I,I,?_,?_⟩⟩,s.setRow hj _⟩
  ·simp[Builtin.append_,run_underlying ht,sizeOf,typeInfo,hi,Builtin.lenOf,hroom,hf,bf,hst]
  all_goals grind
 have hm0:0<m:=qo
 obtain ⟨a2,rfl⟩:=x.addr hm0 hsz
 have hnews:∀ (j:Nat) v,news[j]?=some v->w.cell? (a2.add j)=some v:=fun j v hv=>by
  obtain ⟨a',ha,hc⟩:=x.2.2 j v hv;cases ha;exact s.cell hm hc
 have grown:∀ old,old<n+m->aZ (pt w.heap.size (xs.toArray++news.toArray++Builtin.zeroCells z.cells (grownCap w (n+m) old e-(n+m))) e) (some ⟨w.heap.size,0,none⟩) (n+m) (grownCap w (n+m) old e) e i.size (xs++news) /\
   a7 w0 (w.drew.alloc (.cells (xs.toArray++news.toArray++Builtin.zeroCells z.cells (grownCap w (n+m) old e-(n+m))) e)) K (hs.set j (pt w.heap.size (xs.toArray++news.toArray++Builtin.zeroCells z.cells (grownCap w (n+m) old e-(n+m))) e)):=by
  intro old ho;have hge:=grownCap_ge w (n+m) old e;have hcm:grownCap w (n+m) old e<=maxLen:=grownCap_le_maxLen w (n+m) old e h63;refine ⟨⟨hlen,hge,hcm,.inr ⟨_,0,_,I,I,?_,?_⟩⟩,?_⟩
  ·simp only[Array.size_append,abX,size_zeroCells,hzs,o1,x.1,<-Nat.add_mul,aaI]
   congr 1
   omega
  ·grind
  refine s.upd hj I I I Nm ?_ ?_ ?_
  ·intro b ob hb';simp only[pt,sg] at hb'
   split at hb'
   ·rename_i e1;subst e1;cases hb';exact heap_alloc_new w.drew _
   cases hb'
  ·intro b hb' _;exact RowKit.Below.heap_alloc w.drew _ b hb'
  simp
 rcases o4 with ⟨rfl,rfl,rfl⟩|⟨g,off,cur,rfl,rfl,hcs,htk⟩
 ·obtain rfl:n=0:=qo
  obtain rfl:xs=[]:=aaZ qo;have hr:=run_append_nil (P:=P) w t ty e i z ht hi hz a2 m c2 news x.1 hnews hm0 (by simp only[maxLen] at h63;omega) (by simp only[aaI] at hb;omega)
  grind
 have holds:∀ (k:Nat) u,xs[k]?=some u->w.cell? ((⟨g,off,none⟩:Addr).add k)=some u:=fun k u hu=>by
  obtain ⟨a',ha,hc⟩:=hos.2.2 k u hu;cases ha;exact s.cell (.inr ⟨j,hj⟩) hc
 grind [run_append_grow,growslice_fits,maxLen]
section rules
variable {P:Program} {T:bg} {w0:World} {ops:Array Oper} {Q:Exit->Act->World->Prop} {rest rest':List Oper} {n:Nat} {l l':Sl} {K:PH} {hs:List PH}
def jN(T:bg)(ops:Array Oper)(n k:Nat)(rest:List Oper)(l:Sl):Option (Nat×d9×(Option Addr×Nat×Nat)×(Option Addr×Nat×Nat)×List Oper×Sl):=
 match d8 T ops n k rest l with
 | some (o,r,l')=>match o.dst,o.op with
  | some d,.call { callee:=.builtin .append,args,argTypes }=>match args.toList,argTypes.toList with
   | [x,y],[t,t']=>match Nat.blt d n,Nat.beq t t',asc T.sls t,ev l' x,ev l' y with
    | true,true,some si,some (.slice a1 n1 c1),some (.slice a2 n2 c2)=>some (d,si,(a1,n1,c1),(a2,n2,c2),r,l')
    | _,_,_,_,_=>none
   | _,_=>none
  | _,_=>none
 | none=>none
def app[hT:bc P T](k i:Nat){d:Nat}{si:d9}{ao ao2:Option Addr}{n1 c1 n2 c2:Nat}{h h2:PH}{xs news:List Value}(h0:jN T ops n k rest l=some (d,si,(ao,n1,c1),(ao2,n2,c2),rest',l'))
  (hi:hs[i]?=some h) (o:aZ h ao n1 c1 si.elem si.size xs) (hm:In K hs h2) (x:aw h2 ao2 n2 c2 si.size news) (hz:si.zero.cells.size=si.size) (hsz:0<si.size) (h1:∀ u∈news,u.oneCell'=true)
  (hb:(n1+n2)*si.bytes<=140737488355328) (h63:n1+n2<=maxLen)
  (hk:∀ ao' cap' h',aZ h' ao' (n1+n2) cap' si.elem si.size (xs++news)->WL P w0 ops Q rest' n ((d,.slice ao' (n1+n2) cap')::l') K (hs.set i h')):WL P w0 ops Q rest n l K hs:=by
 unfold jN at h0
 split at h0
 ·rename_i oo r l2 ho
  split at h0
  ·rename_i d' args argTypes hd hop
   split at h0
   ·rename_i x' y' t t' e1 e2
    split at h0
    ·rename_i si' a1 m1 k1 a2 m2 k2 hb' htt hsi hx hy;simp only[aae,aag] at h0;obtain ⟨rfl,rfl,⟨rfl,rfl,rfl⟩,⟨rfl,rfl,rfl⟩,rfl,rfl⟩:=h0;have htt':t=t':=aaB htt;subst htt';have a1':args=#[x',y']:=by cases args;simp_all
     have a2':argTypes=#[t,t]:=by cases argTypes;simp_all
     subst a1';subst a2';obtain ⟨g1,ii,g2,g3,g4,g5⟩:=hT.sl hsi
     refine WL.at' ho fun hg=>WL.val (R:=fun u K' hs'=>∃ ao' cap' h',u=.slice ao' (m1+m2) cap'/\aZ h' ao' (m1+m2) cap' si'.elem si'.size (xs++news)/\K'=K/\hs'=hs.set i h') hd hb' hg
      (fun A w ha hw=>?_) ?_
     ·rw[<-g4] at o x hz hsz;rw[<-g5] at hb;obtain ⟨ao',cap',h',w',hr,ho',hs'⟩:=Eq (P:=P) t oo.type si'.elem ii si'.zero g1 g2 g3 hz hw hi o hm x hsz h1 hb h63;refine ⟨_,w',K,_,?_,hs',ao',cap',h',I,by rw[<-g4];exact ho',I,I⟩;simp only[execOp,hop];simp[resolve,invoke,builtin,ha.ev hx,ha.ev hy,hr]
     rintro u K' hs' ⟨ao',cap',h',rfl,ho',rfl,rfl⟩;exact hk ao' cap' h' ho'
    simp at h0
   simp at h0
  simp at h0
 simp at h0
def wA(T:bg)(ops:Array Oper)(n k:Nat)(rest:List Oper)(l:Sl):Option (Nat×d9×(Option Addr×Nat×Nat)×Int×List Oper×Sl):=
 match d8 T ops n k rest l with
 | some (o,r,l')=>match o.dst,o.op with
  | some d,.indexAddr t x i=>match Nat.blt d n,asc T.sls t,ev l' x,ev l' i with
   | true,some si,some (.slice a1 n1 c1),some (.int _ j)=>some (d,si,(a1,n1,c1),j,r,l')
   | _,_,_,_=>none
  | _,_=>none
 | _=>none
def fj[hT:bc P T](k:Nat){d:Nat}{si:d9}{ao:Option Addr}{n1 c1:Nat}{i:Int}{h:PH}{xs:List Value}(j:Nat)
  (h0:wA T ops n k rest l=some (d,si,(ao,n1,c1),i,rest',l')) (hj:i=(j:Int)) (x:aw h ao n1 c1 si.size xs) (hjn:j<n1) (hsz:0<si.size)
  (hk:∀ a,ao=some a->WL P w0 ops Q rest' n ((d,.pointer (some (a.add (j*si.size))))::l') K hs):WL P w0 ops Q rest n l K hs:=by
 unfold wA at h0
 split at h0
 ·rename_i o r l2 ho
  split at h0
  ·rename_i d' t x' i' hd hop
   split at h0
   ·rename_i si' a1 m1 k1 kk jj hb hsi hx hi;simp only[aae,aag] at h0;obtain ⟨rfl,rfl,⟨rfl,rfl,rfl⟩,rfl,rfl,rfl⟩:=h0;subst hj;obtain ⟨g1,ii,g2,g3,g4,g5⟩:=hT.sl hsi;obtain ⟨a,rfl⟩:=x.addr hjn hsz;refine WL.at' ho fun hg=>WL.val (R:=fun u K' hs'=>u=.pointer (some (a.add (j*si'.size)))/\K'=K/\hs'=hs) hd hb hg (fun A w ha hw=>⟨_,w,K,hs,?_,hw,I,I,I⟩) ?_
    ·have h1:(j:Int)<(m1:Int):=qo
     simp only[execOp,hop,ha.ev hx,ha.ev hi];simp[Instr.indexAt,asIntOf,run_underlying g1,sizeOf,typeInfo,g2,g4,hjn]
    rintro u K' hs' ⟨rfl,rfl,rfl⟩;exact hk a I
   simp at h0
  simp at h0
 simp at h0
def dR[hT:bc P T](k:Nat){d:Nat}{si:d9}{ao:Option Addr}{n1 c1:Nat}{i:Int}{h:PH}{xs:List Value}{u:Value}(j:Nat)
  (h0:wA T ops n k rest l=some (d,si,(ao,n1,c1),i,rest',l')) (hj:i=(j:Int)) (hsz:si.size=1) (x:aw h ao n1 c1 1 xs) (hu:xs[j]?=some u)
  (hk:∀ a,cC h a u->WL P w0 ops Q rest' n ((d,.pointer (some a))::l') K hs):WL P w0 ops Q rest n l K hs:=by
 have hjn:j<n1:=by
  have h1:=(aax.1 hu).1;have h2:=x.1;omega
 refine fj k j h0 hj (h:=h) (xs:=xs) (by rw[hsz];exact x) hjn qo fun a ha=>?_;obtain ⟨a',ha',hc⟩:=x.2.2 j u hu;rw[ha] at ha';cases ha';rw[hsz,aaf];exact hk _ hc
def n3(T:bg)(ops:Array Oper)(n k:Nat)(rest:List Oper)(l:Sl):Option (Nat×d9×(Option Addr×Nat×Nat)×Option Int×Option Int×List Oper×Sl):=
 match d8 T ops n k rest l with
 | some (o,r,l')=>match o.dst,o.op with
  | some d,.slice t x none none none=>match Nat.blt d n,asc T.sls t,ev l' x with
   | true,some si,some (.slice a1 n1 c1)=>some (d,si,(a1,n1,c1),none,none,r,l')
   | _,_,_=>none
  | some d,.slice t x (some lo) none none=>match Nat.blt d n,asc T.sls t,ev l' x,ev l' lo with
   | true,some si,some (.slice a1 n1 c1),some (.int _ i)=>some (d,si,(a1,n1,c1),some i,none,r,l')
   | _,_,_,_=>none
  | some d,.slice t x none (some hi) none=>match Nat.blt d n,asc T.sls t,ev l' x,ev l' hi with
   | true,some si,some (.slice a1 n1 c1),some (.int _ i)=>some (d,si,(a1,n1,c1),none,some i,r,l')
   | _,_,_,_=>none
  | some d,.slice t x (some lo) (some hi) none=>match Nat.blt d n,asc T.sls t,ev l' x,ev l' lo,ev l' hi with
   | true,some si,some (.slice a1 n1 c1),some (.int _ i),some (.int _ j)=>some (d,si,(a1,n1,c1),some i,some j,r,l')
   | _,_,_,_,_=>none
  | _,_=>none
 | _=>none
def dm(ao:Option Addr)(cap lo size:Nat):Option Addr:=if cap=lo then ao else ao.map (·.add (lo*size))
def qV{k d:Nat}{si:d9}{ao:Option Addr}{n1 c1:Nat}{lo hi:Option Int}[hT:bc P T](L H:Nat)
  (h0:n3 T ops n k rest l=some (d,si,(ao,n1,c1),lo,hi,rest',l')) (hL:lo.getD 0=(L:Int)) (hH:hi.getD n1=(H:Int)) (h1:L<=H) (h2:H<=c1):
  ∃ o,d8 T ops n k rest l=some (o,rest',l')/\o.dst=some d/\Nat.blt d n=true /\
   ∀ a w,Ag n l' a->(execOp a.eval o).run P w=.ok (.value (.slice (dm ao c1 L si.size) (H-L) (c1-L))) w:=by
 unfold n3 at h0
 split at h0
 ·rename_i o r l2 ho;have hLH:(L:Int)<=(H:Int):=qo
  have hHc:(H:Int)<=(c1:Int):=qo
  split at h0
  ·rename_i d' t x hd hop
   split at h0
   ·rename_i si' a1 m1 k1 hb hsi hx;simp only[aae,aag] at h0;obtain ⟨rfl,rfl,⟨rfl,rfl,rfl⟩,rfl,rfl,rfl,rfl⟩:=h0;refine ⟨o,ho,hd,hb,fun a w ha=>?_⟩;obtain ⟨g1,ii,g2,g3,g4,g5⟩:=hT.sl hsi;simp only[abk] at hL hH;obtain rfl:L=0:=qo
    obtain rfl:m1=H:=qo
    simp only[execOp,hop,ha.ev hx];simp[Instr.sliceAt,Instr.slice,run_underlying g1,Instr.sliceBounds,sizeOf,typeInfo,g2,dm]
   simp at h0
  ·rename_i d' t x lo' hd hop
   split at h0
   ·rename_i si' a1 m1 k1 kk i hb hsi hx hi;simp only[aae,aag] at h0;obtain ⟨rfl,rfl,⟨rfl,rfl,rfl⟩,rfl,rfl,rfl,rfl⟩:=h0;refine ⟨o,ho,hd,hb,fun a w ha=>?_⟩;obtain ⟨g1,ii,g2,g3,g4,g5⟩:=hT.sl hsi;simp only[abk,aa0] at hL hH;subst hL;obtain rfl:m1=H:=qo
    simp only[execOp,hop,ha.ev hx,aa9,ha.ev hi];simp[Instr.sliceAt,Instr.slice,run_underlying g1,Instr.sliceBounds,Instr.sliceBound,asIntOf,sizeOf,typeInfo,g2,g4,dm,h1]
   simp at h0
  ·rename_i d' t x hi' hd hop
   split at h0
   ·rename_i si' a1 m1 k1 kk i hb hsi hx hi;simp only[aae,aag] at h0;obtain ⟨rfl,rfl,⟨rfl,rfl,rfl⟩,rfl,rfl,rfl,rfl⟩:=h0;refine ⟨o,ho,hd,hb,fun a w ha=>?_⟩;obtain ⟨g1,ii,g2,g3,g4,g5⟩:=hT.sl hsi;simp only[abk,aa0] at hL hH;obtain rfl:L=0:=qo
    subst hH;simp only[execOp,hop,ha.ev hx,aa9,ha.ev hi];simp[Instr.sliceAt,Instr.slice,run_underlying g1,Instr.sliceBounds,Instr.sliceBound,asIntOf,sizeOf,typeInfo,g2,dm,h2]
   simp at h0
  ·rename_i d' t x lo' hi' hd hop
   split at h0
   ·rename_i si' a1 m1 k1 kk i kk2 j hb hsi hx hi hj;simp only[aae,aag] at h0;obtain ⟨rfl,rfl,⟨rfl,rfl,rfl⟩,rfl,rfl,rfl,rfl⟩:=h0;refine ⟨o,ho,hd,hb,fun a w ha=>?_⟩;obtain ⟨g1,ii,g2,g3,g4,g5⟩:=hT.sl hsi;simp only[aa0] at hL hH;subst hL;subst hH;simp only[execOp,hop,ha.ev hx,aa9,ha.ev hi,ha.ev hj];simp[Instr.sliceAt,Instr.slice,run_underlying g1,Instr.sliceBounds,Instr.sliceBound,asIntOf,sizeOf,typeInfo,g2,g4,dm,h1,h2]
   simp at h0
  simp at h0
 simp at h0
def aw.cut{h:PH}{ao:Option Addr}{n1 c1 size:Nat}{xs ys:List Value}(x:aw h ao n1 c1 size xs)(L N:Nat)(hN:L+N<=n1)(hy:(xs.drop (L*size)).take (N*size)=ys):
  aw h (dm ao c1 L size) N (c1-L) size ys:=by
 obtain ⟨h1,h2,h3⟩:=x;have hle:L*size+N*size<=eq xs:=by rw[h1,<-Nat.add_mul];exact aa8 _ hN
 refine ⟨by rw[<-hy];simp;omega,qo,fun j u hu=>?_⟩;rw[<-hy] at hu
 have hj:j<N*size:=by
  grind
 rw[aba hj,abb] at hu;obtain ⟨a,ha,hc⟩:=h3 _ u hu;have hN0:N≠0:=fun e=>by rw[e] at hj;omega
 refine ⟨a.add (L*size),by rw[dm,aaa qo,ha];rfl,?_⟩
 grind [Addr.add]
def sl[hT:bc P T](k:Nat){d:Nat}{si:d9}{ao:Option Addr}{n1 c1:Nat}{lo hi:Option Int}{h:PH}{xs ys:List Value}(L N:Nat)
  (h0:n3 T ops n k rest l=some (d,si,(ao,n1,c1),lo,hi,rest',l')) (x:aw h ao n1 c1 si.size xs) (hL:lo.getD 0=(L:Int)) (hH:hi.getD n1=((L+N:Nat):Int)) (hN:L+N<=n1)
  (hy:(xs.drop (L*si.size)).take (N*si.size)=ys)
  (hk:∀ ao' cap',aw h ao' N cap' si.size ys->WL P w0 ops Q rest' n ((d,.slice ao' N cap')::l') K hs):WL P w0 ops Q rest n l K hs:=by
 obtain ⟨o,ho,hd,hb,hrun⟩:=qV (P:=P) L (L+N) h0 hL hH qo (by have:=x.2.1;omega);refine WL.at' ho fun hg=>WL.val (R:=fun u K' hs'=>u=.slice (dm ao c1 L si.size) N (c1-L)/\K'=K/\hs'=hs) hd hb hg (fun A w ha hw=>⟨_,w,K,hs,hrun A w ha,hw,?_,I,I⟩) ?_
 ·simp
 rintro u K' hs' ⟨rfl,rfl,rfl⟩;exact hk _ _ (x.cut L N hN hy)
theorem WL.enter{o:Oper}{d g:Nat}{vs:List Value}{R:Value->PH->List PH->Prop}(hd:o.dst=some d)(hb:Nat.blt d n=true)(hg:fo ops l o.guard=some true)
  (h:∀ a w,Ag n l a->(execOp a.eval o).run P w=.ok (.enter g vs.toArray) w) (hc:Ct P w0 g vs K hs R)
  (hk:∀ v K' hs',R v K' hs'->WL P w0 ops Q rest n ((d,v)::l) K' hs'):WL P w0 ops Q (o::rest) n l K hs:=by
 intro a w ha hw;have h1:=fX ha hg;unfold wpList;rw[aab h1];refine .inl ?_;unfold Oper.wp;rw[h a w ha];simp only[Oper.upon];refine (hc.2 w hw).mono ?_;rintro e w' ⟨v,K',hs',rfl,hR,hw'⟩;simp only[hd];exact hk v K' hs' hR _ _ (ha.put hb) hw'
def DH(T:bg)(ops:Array Oper)(n k:Nat)(rest:List Oper)(l:Sl):Option (Nat×Nat×List Value×List Oper×Sl):=
 match d8 T ops n k rest l with
 | some (o,r,l')=>match o.dst,o.op with
  | some d,.call { callee:=.value f,args,.. }=>match Nat.blt d n,ev l' f,args.toList.mapM (ev l') with
   | true,some (.func (.func g) first captured),some vs=>some (d,g,first.toList++(vs++captured.toList),r,l')
   | _,_,_=>none
  | _,_=>none
 | _=>none
theorem vD{a:Act}{nn:Nat}{l:Sl}(ha:Ag nn l a):∀ (ps:List Operand) (vs:List Value),ps.mapM (ev l)=some vs->ps.map a.eval=vs
 | [],vs,h=>by simp at h;subst h;rfl
 | p::ps,vs,h=>by
  simp only[List.mapM_cons] at h;cases h1:ev l p with
  | none=>simp[h1] at h
  | some v=>
   cases h2:ps.mapM (ev l) with
   | none=>simp[h1,h2] at h
   | some r=>
    simp[h1,h2] at h;subst h;simp[ha.ev h1,vD ha ps r h2]
def cl[hT:bc P T](k:Nat){d g:Nat}{vs:List Value}{R:Value->PH->List PH->Prop}(h0:DH T ops n k rest l=some (d,g,vs,rest',l'))(hc:Ct P w0 g vs K hs R)
  (hk:∀ v K' hs',R v K' hs'->WL P w0 ops Q rest' n ((d,v)::l') K' hs'):WL P w0 ops Q rest n l K hs:=by
 unfold DH at h0
 split at h0
 ·rename_i o r l2 ho
  split at h0
  ·rename_i d' f args ats hd hop
   split at h0
   ·rename_i g' first captured vs' hb hf hvs
    simp only[aae,aag] at h0;obtain ⟨rfl,rfl,rfl,rfl,rfl⟩:=h0;refine WL.at' ho fun hg=>WL.enter hd hb hg (fun A w ha=>?_) hc hk;have h6:=vD ha _ _ hvs
    have h7:args.map A.eval=vs'.toArray:=by
     apply Array.ext'
     simpa using h6
    have hcal:=hc.1;unfold iG at hcal;simp only[execOp,hop];cases hfn:P.funcs[g']? with
    | none=>simp[hfn] at hcal
    | some fn=>
     simp only[hfn,aaH,abO] at hcal;have hbn:¬fn.body=none:=fun e=>by simp[e] at hcal
     have hnm : ¬ fn.name = "runtime.NumGoroutine" := by simpa using hcal.2
     simp[resolve,h7,ha.ev hf,Deferred.ofValue,invoke,callFunc,hfn,hbn,hnm]
   simp at h0
  simp at h0
 simp at h0
end rules
def a7.iff{w0 w:World}{K:PH}{hs:List PH}:a7 w0 w K hs↔(w.os=w0.os/\w.tape=w0.tape/\w.output=w0.output/\w0.heap.size<=w.heap.size/\(∀ b o,K b=some o->w.heap[b]?=some o) /\
  (∀ h∈hs,∀ b o,h b=some o->w.heap[b]?=some o/\K b=none))/\hs.Pairwise (fun h h'=>∀ b,h b=none\/h' b=none):=by
 constructor
 ·intro s;refine ⟨⟨s.os,s.tape,s.output,s.size,s.imm,fun h hm b o hb=>?_⟩,?_⟩
  ·obtain ⟨i,hi⟩:=abi hm;exact ⟨s.own i h hi b o hb,s.apart i h hi b o hb⟩
  rw[abC];intro i j hi hj hij b;cases hb:hs[i] b with
  | none=>simp
  | some o=>exact .inr (s.sep i j _ _ (aai hi) (aai hj) qo b o hb)
 rintro ⟨⟨h1,h2,h3,h4,h5,h6⟩,h7⟩;rw[abC] at h7;refine ⟨h1,h2,h3,h4,h5,fun i h hi b o hb=>(h6 h (aao hi) b o hb).1,fun i h hi b o hb=>(h6 h (aao hi) b o hb).2,fun i j h h' hi hj hij b o hb=>?_⟩;obtain ⟨hi1,rfl⟩:=aax.1 hi;obtain ⟨hj1,rfl⟩:=aax.1 hj
 grind
theorem a7.perm{w0 w:World}{K:PH}{hs hs':List PH}(p:hs.Perm hs')(s:a7 w0 w K hs):a7 w0 w K hs':=by
 rw[a7.iff] at s ⊢;obtain ⟨⟨h1,h2,h3,h4,h5,h6⟩,h7⟩:=s;exact ⟨⟨h1,h2,h3,h4,h5,fun h hm=>h6 h (p.mem_iff.2 hm)⟩,(p.pairwise_iff (fun {x y} hxy b=>(hxy b).symm)).1 h7⟩
theorem gU{α:Type}:∀ (l:List α) (i:Nat) (x:α),l[i]?=some x->l.Perm (x::l.eraseIdx i)
 | [],i,x,h=>by simp at h
 | a::l,0,x,h=>by simp at h;subst h;simp
 | a::l,i+1,x,h=>by
  have:=gU l i x (by simpa using h);simp only[List.eraseIdx_cons_succ];exact (this.cons a).trans (aat x a _)
theorem nA{α:Type}:∀ (l:List α) (i:Nat) (x y:α),l[i]?=some x->(y::l.eraseIdx i).Perm (l.set i y)
 | [],i,x,y,h=>by simp at h
 | a::l,0,x,y,h=>by simp
 | a::l,i+1,x,y,h=>by
  have:=nA l i x y (by simpa using h);simp only[List.eraseIdx_cons_succ,List.set_cons_succ];exact (aat a y _).trans (this.cons a)
def Ct.at{P:Program}{w0:World}{f:FuncId}{args:List Value}{K:PH}{hs:List PH}{h:PH}{S:Value->PH->PH->Prop}(i:Nat)(hi:hs[i]?=some h)
  (c:Ct P w0 f args K (h::hs.eraseIdx i) (fun v K' hs'=>∃ h',hs'=h'::hs.eraseIdx i/\S v K' h')):Ct P w0 f args K hs (fun v K' hs'=>∃ h',hs'=hs.set i h'/\S v K' h'):=by
 refine ⟨c.1,fun w hw=>(c.2 w (hw.perm (gU hs i h hi))).mono ?_⟩;rintro e w' ⟨v,K',hs',rfl,⟨h',rfl,hS⟩,hw'⟩;exact ⟨v,K',_,I,⟨h',I,hS⟩,hw'.perm (nA hs i h h' hi)⟩
def Ct.atN{P:Program}{w0:World}{f:FuncId}{args:List Value}{K:PH}{hs:List PH}{h:PH}{S:Value->PH->PH->List PH->Prop}(i:Nat)(hi:hs[i]?=some h)
  (c:Ct P w0 f args K (h::hs.eraseIdx i) (fun v K' hs'=>∃ h' new,hs'=new++h'::hs.eraseIdx i/\S v K' h' new)):Ct P w0 f args K hs (fun v K' hs'=>∃ h' new,hs'=new++hs.set i h'/\S v K' h' new):=by
 refine ⟨c.1,fun w hw=>(c.2 w (hw.perm (gU hs i h hi))).mono ?_⟩;rintro e w' ⟨v,K',hs',rfl,⟨h',new,rfl,hS⟩,hw'⟩;exact ⟨v,K',_,I,⟨h',new,I,hS⟩,hw'.perm ((nA hs i h h' hi).append_left new)⟩
section drop
variable {P:Program} {w0:World} {ops:Array Oper} {Q:Exit->Act->World->Prop} {rest:List Oper} {n:Nat} {l:Sl} {K h:PH} {hs:List PH} {c:Code} {e:Exit}
theorem WL.drop(hk:WL P w0 ops Q rest n l K hs):WL P w0 ops Q rest n l K (h::hs):=fun a w ha hw=>hk a w ha hw.dropHead
theorem WC.drop(hk:WC P w0 c Q n l K hs):WC P w0 c Q n l K (h::hs):=fun a w ha hw=>hk a w ha hw.dropHead
theorem WQ.drop(hk:WQ w0 Q e n l K hs):WQ w0 Q e n l K (h::hs):=fun a w ha hw=>hk a w ha hw.dropHead
theorem WL.em(hk:WL P w0 ops Q rest n l K (En.em::hs)):WL P w0 ops Q rest n l K hs:=fun a w ha hw=>hk a w ha hw.addEm
theorem WC.em(hk:WC P w0 c Q n l K (En.em::hs)):WC P w0 c Q n l K hs:=fun a w ha hw=>hk a w ha hw.addEm
theorem WQ.em(hk:WQ w0 Q e n l K (En.em::hs)):WQ w0 Q e n l K hs:=fun a w ha hw=>hk a w ha hw.addEm
theorem WL.perm{hs':List PH}(p:hs.Perm hs')(hk:WL P w0 ops Q rest n l K hs'):WL P w0 ops Q rest n l K hs:=fun a w ha hw=>hk a w ha (hw.perm p)
theorem WC.perm{hs':List PH}(p:hs.Perm hs')(hk:WC P w0 c Q n l K hs'):WC P w0 c Q n l K hs:=fun a w ha hw=>hk a w ha (hw.perm p)
theorem WQ.perm{hs':List PH}(p:hs.Perm hs')(hk:WQ w0 Q e n l K hs'):WQ w0 Q e n l K hs:=fun a w ha hw=>hk a w ha (hw.perm p)
end drop
def In.cons{K h x:PH}{hs:List PH}(hm:In K hs h):In K (x::hs) h:=by
 rcases hm with h1|⟨i,h1⟩
 ·exact .inl h1
 exact .inr ⟨i+1,by simpa using h1⟩
theorem aC{x:Int}(h : -9223372036854775808<=x/\x<=9223372036854775807):Value.int .i64 (IntKind.i64.wrap x)=.int .i64 x:=by rw[IntWalk.i64_in _ h]
theorem bL{x:Int}(h:0<=x/\x<=18446744073709551615):Value.int .u64 (IntKind.u64.wrap x)=.int .u64 x:=by rw[IntWalk.u64_in _ h]
def Mc{x:Int}(h:0<=x/\x<=4294967295):Value.int .u32 (IntKind.u32.wrap x)=.int .u32 x:=by rw[IntWalk.u32_in _ h]
def jP{x:Int}(h:0<=x/\x<=255):Value.int .u8 (IntKind.u8.wrap x)=.int .u8 x:=by rw[IntWalk.u8_in _ h]
theorem ju(n:Nat):Value.int .u8 (IntKind.u8.wrap (n:Int))=.int .u8 (n % 256:Nat):=by
 rfl
def lV(n:Nat):Value.int .u64 (IntKind.u64.wrap (n:Int))=.int .u64 (n % 18446744073709551616:Nat):=by
 rfl
section
variable {P : Program} {w0 : World} {Q Q' Q1 : Exit → Act → World → Prop} {n id id' i1 : Nat} {l : Sl} {K : PH} {hs : List PH} {o : List Oper} {x y z : Code}
def acI (h : WL P w0 o.toArray (Exit.then (y.wp P Q) Q) o n l K hs) : WC P w0 (.seq (.region id o.toArray false) y) Q n l K hs := sq (rg h)
def acF (h : WL P w0 o.toArray (Exit.then (y.wp P Q) Q) o n l K hs) : WQ w0 (Exit.then ((Code.seq (.region id o.toArray false) y).wp P Q) Q') .normal n l K hs := th (sq (rg h))
def acE (h : WL P w0 o.toArray (Exit.then (y.wp P (Exit.then (z.wp P Q) Q)) (Exit.then (z.wp P Q) Q)) o n l K hs) : WQ w0 (Exit.then ((Code.seq (.seq (.region id o.toArray false) y) z).wp P Q) Q') .normal n l K hs := th (sq (sq (rg h)))
def acH (h : WL P w0 o.toArray Q o n l K hs) : WQ w0 (Exit.then ((Code.region id o.toArray false).wp P Q) Q') .normal n l K hs := th (rg h)
def acG (h : WL P w0 o.toArray Q o n l K hs) : WQ w0 (Exit.inBlock i1 (Exit.then ((Code.region id o.toArray false).wp P Q) Q')) .normal n l K hs := bl (th (rg h))
def acK (h : WQ w0 Q .ret n l K hs) : WQ w0 (Exit.then (Code.ret.wp P Q) Q') .normal n l K hs := th (rt h)
end
end
section
section tree
variable {P:Program} {ops:Array Oper} {md:Region.Mode} {S:Array Bool->World->Prop}
def oM(q:Act->World->Prop):Exit->Act->World->Prop
 | .normal,a,w=>q a w
 | _,_,_=>False
theorem vf{o:Oper}{a:Act}{K:Act->World->Prop}{Q Q':Exit->Act->World->Prop}(hp:∀ c a w,Q (.panic c) a w->Q' (.panic c) a w)(hg:∀ a w,Q .outgrown a w->Q' .outgrown a w){r:Result Next}(h:o.upon P a K Q r):o.upon P a K Q' r:=by
 cases r with
 | ok n w'=>
  cases n <;> simp only[Oper.upon] at h ⊢ <;> first
   | exact h
   | (
     refine Calls.mono h fun e w'' he=>?_
     cases e with
     | returned v=>exact he
     | panicked c=>exact hp _ _ _ he
     | outgrown=>obtain ⟨a,w,hh⟩:=he;exact ⟨a,w,hg _ _ hh⟩)
 | halt x w'=>
  cases x <;> simp only[Oper.upon] at h ⊢ <;> first
   | exact hp _ _ _ h
   | exact h
def J2{i:Nat}{K:Act->World->Prop}{Q Q':Exit->Act->World->Prop}(hq:∀ e a w,Q e a w->Q' e a w){a:Act}{w:World}(h:wpOp P ops Q i K a w):wpOp P ops Q' i K a w:=by
 unfold wpOp at *
 split
 ·exact by simpa[*] using h
 rename_i o ho;simp only[ho] at h
 split
 ·rename_i hw;simp only[hw,if_true] at h;exact h.imp (vf (fun c=>hq (.panic c)) (hq .outgrown)) (fun ⟨h1,a,w,h2⟩=>⟨h1,a,w,hq _ _ _ h2⟩)
 rename_i hw;simp only[hw] at h;exact h
def tr(P:Program)(md:Region.Mode)(ops:Array Oper)(q:Act->World->Prop)(S:Array Bool->World->Prop):Nat->Array Bool->Act->World->Prop
 | 0,listed,a,w=>Region.ready md ops listed=[]/\q a w
 | f+1,listed,a,w=>(Region.ready md ops listed=[]->q a w) /\
  ∀ i∈Region.ready md ops listed,wpOp P ops (oM q) i (fun a' w'=>S (listed.setIfInBounds i true) w'/\tr P md ops q S f (listed.setIfInBounds i true) a' w') a w
theorem vi{q:Act->World->Prop}{Q:Exit->Act->World->Prop}(hq:∀ e a w,oM q e a w->Q e a w):∀ (f:Nat) (listed:Array Bool) (a:Act) (w:World),tr P md ops q S f listed a w->wpAny P md ops Q f listed a w
 | 0,_,_,_,h=>⟨h.1,hq .normal _ _ h.2⟩
 | f+1,_,_,_,h=>⟨fun h0=>hq .normal _ _ (h.1 h0),fun i hi=>wpOp_mono (fun a' w' h'=>vi hq f _ a' w' h'.2) (J2 hq (h.2 i hi))⟩
def eX(md:Region.Mode)(ops:Array Oper)(L:Array Bool):Prop:=L.size=ops.size/\∀ j oj,ops[j]?=some oj->L.getD j false=true->∀ e∈oj.after,Region.binds md e=true->L.getD e.on false=true
def eX.set{L:Array Bool}{i:Nat}(c:eX md ops L)(hr:i∈Region.ready md ops L):eX md ops (L.setIfInBounds i true):=by
 obtain ⟨_,oi,hoi,hall⟩:=mem_ready.1 hr;refine ⟨by simpa using c.1,?_⟩;intro j oj hj hl e he hb
 by_cases hij:i=j
 ·subst hij;obtain rfl:oj=oi:=aaU (hj.symm.trans hoi);exact getD_set_true (hall e he hb)
 rw[getD_set_ne false hij] at hl;exact getD_set_true (c.2 j oj hj hl e he hb)
theorem G6{q:Act->World->Prop}{i:Nat}{oi:Oper}{v:Value}(hi:ops[i]?=some oi)(hsel:∀ (j:Nat) (o:Oper) cs b,ops[j]?=some o->o.op≠.select cs b):
  ∀ (f:Nat) (listed:Array Bool) (a:Act) (w:World),eX md ops listed ->
   (∀ j oj,ops[j]?=some oj->j≠i->listed.getD j true=false->(∀ e∈oj.after,Region.binds md e=true->e.on≠i)->oi.apart ops oj=true) ->
   i∈Region.ready md ops listed->YieldsIf P ops (fun w=>∃ L:Array Bool,eX md ops L/\L.getD i true=false/\S L w) oi v a->S listed w ->
   (∀ (L:Array Bool) w',S L w'->S (L.setIfInBounds i true) w')->(∀ (L:Array Bool) w',S (L.setIfInBounds i true) w'->S L w') ->
   tr P md ops q S f (listed.setIfInBounds i true) (a.put oi.dst v) w->tr P md ops q S (f+1) listed a w:=by
 intro f
 induction f with
 | zero=>
  intro listed a w hc _ hr hy hS hup hdown H;refine ⟨fun h=>(by rw[h] at hr;cases hr),fun j hj=>?_⟩
  by_cases hji:j=i
  ·subst hji;exact hy.wpOp hi ⟨listed,hc,(mem_ready.1 hr).1,hS⟩ ⟨hup _ _ hS,H⟩
  have:=ready_mono hj hji;rw[H.1] at this;cases this
 | succ f ih=>
  intro listed a w hc hfree hr hy hS hup hdown H;refine ⟨fun h=>(by rw[h] at hr;cases hr),fun j hj=>?_⟩
  by_cases hji:j=i
  ·subst hji;exact hy.wpOp hi ⟨listed,hc,(mem_ready.1 hr).1,hS⟩ ⟨hup _ _ hS,H⟩
  have h1:=H.2 j (ready_mono hj hji);obtain ⟨hjun,oj,hoj,hall⟩:=mem_ready.1 hj
  have hnot:∀ e∈oj.after,Region.binds md e=true->e.on≠i:=fun e he hb heq=>by
   have h1:=hall e he hb
   grind [mem_ready]
  have h2:=wpOp_putIf hoj (hfree j oj hoj hji hjun hnot) (fun cs b=>hsel i oi cs b hi) (fun cs b=>hsel j oj cs b hoj) (fun c a w h=>h) hy h1
  have hfree':∀ k ok,ops[k]?=some ok->k≠i->(listed.setIfInBounds j true).getD k true=false ->
    (∀ e∈ok.after,Region.binds md e=true->e.on≠i)->oi.apart ops ok=true:=fun k ok hk hki hun hno=>by
   refine hfree k ok hk hki ?_ hno
   by_cases hjk:j=k
   ·subst hjk;exact hjun
   simp_all
  refine wpOp_mono (fun a' w' h3=>?_) h2;obtain ⟨g1,g2,g3⟩:=h3;have e1:(listed.setIfInBounds i true).setIfInBounds j true=(listed.setIfInBounds j true).setIfInBounds i true:=Array.setIfInBounds_comm _ _ (Ne.symm hji);rw[e1] at g2 g3;have g4:=hdown _ _ g2;exact ⟨g4,ih (listed.setIfInBounds j true) a' w' (hc.set hj) hfree' (ready_mono hr (Ne.symm hji)) g1 g4 hup hdown g3⟩
end tree
def fu(md:Region.Mode)(ops:Array Oper):List Nat->Array Bool->Bool
 | [],listed=>(Region.ready md ops listed).isEmpty
 | p::r,listed=>(cond (Nat.beq (p % 2) 0) ((Region.ready md ops listed).contains (p / 2) && Region.free md ops listed (p / 2)) ((Region.ready md ops listed).contains (p / 2))) && fu md ops r (listed.setIfInBounds (p / 2) true)
def er(K:PH)(A:List PH)(w:World):Prop:=(∀ b o,K b=some o->w.heap[b]?=some o)/\∀ h∈A,∀ b o,h b=some o->w.heap[b]?=some o
def fT(z:Nat)(H:World->Prop)(L:Array Bool)(w:World):Prop:=L.getD z false=false->H w
def WA(P:Program)(w0:World)(ops:Array Oper)(Q:Exit->Act->World->Prop)(K0:PH)(A:List PH)(z:Nat)(plan:List Nat)(listed:Array Bool)(n:Nat)(l:Sl)(K:PH)(hs:List PH):Prop:=
 fu .any ops plan listed=true->eX .any ops listed->∀ a w,Ag n l a->a7 w0 w K hs->fT z (er K0 A) listed w->tr P .any ops (Q .normal) (fT z (er K0 A)) (eq plan) listed a w
theorem er.of{w0 w:World}{K:PH}{hs A:List PH}(s:a7 w0 w K hs)(hA:hs.take (eq A)=A):er K A w:=by
 refine ⟨s.imm,fun h hm b o hb=>?_⟩;rw[<-hA] at hm;exact s.block (.inr (abi (aaW hm))) hb
theorem er.cell{w:World}{K:PH}{A:List PH}(s:er K A w){h:PH}(hi:In K A h){a:Addr}{v:Value}(hc:cC h a v):w.cell? a=some v:=by
 obtain ⟨hsp,c,ty,fr,hb,hv⟩:=hc
 have:w.heap[a.block]?=some (.cells c ty fr):=by
  rcases hi with rfl|⟨i,hi⟩
  ·exact s.1 _ _ hb
  exact s.2 h (aao hi) _ _ hb
 simp[World.cell?,this,hsp,hv]
section rules
variable {P:Program} {T:bg} {w0:World} {ops:Array Oper} {Q:Exit->Act->World->Prop} {plan plan':List Nat} {z:Nat} {listed listed':Array Bool} {n:Nat} {l l':Sl} {K K0:PH} {hs A:List PH}
def Nk{id:Nat}{o:List Oper}(m z:Nat)(plan:List Nat)(hm:P.follows .mixedOrders=true)(hp:(fu .any o.toArray plan (Array.replicate o.toArray.size false) && Nat.beq (eq plan) o.toArray.size)=true)
  (h:WA P w0 o.toArray Q K (hs.take m) z plan (Array.replicate o.toArray.size false) n l K hs):WC P w0 (.region id o.toArray true) Q n l K hs:=by
 intro a w ha hw;simp only[aaH] at hp;refine wp_region_any hm ?_;have hlen:eq plan=o.toArray.size:=aaB hp.2;have hw':a7 w0 { w with drawn:=w.drawn+1 } K hs:=hw.drew
 have hc:eX .any o.toArray (Array.replicate o.toArray.size false):=by
  refine ⟨Nm,?_⟩
  grind [getD_replicate_false]
 have hh:=h hp.1 hc a { w with drawn:=w.drawn+1 } ha hw' (fun _=>er.of hw' Nm);rw[hlen] at hh;refine vi (q:=Q .normal) (fun e a w h=>?_) _ _ _ _ hh;cases e <;> first|exact h|exact h.elim
theorem zF{H:World->Prop}(i:Nat)(L:Array Bool)(w:World)(h:fT z H L w):fT z H (L.setIfInBounds i true) w:=by
 intro hr;refine h ?_
 grind [getD_set_true]
theorem Ff{H:World->Prop}{i:Nat}(hi:i≠z)(L:Array Bool)(w:World)(h:fT z H (L.setIfInBounds i true) w):fT z H L w:=by
 intro hr;exact h (by rw[getD_set_ne false hi];exact hr)
theorem WA.look{i:Nat}{o:Oper}{d:Nat}{v:Value}(hi:ops[i]?=some o)(hsel:Region.noSelect ops=true)(hz:Nat.beq i z=false)(hd:o.dst=some d)(hb:Nat.blt d n=true)
  (hy:∀ a,Ag n l a->YieldsIf P ops (fun w=>∃ L:Array Bool,eX .any ops L/\L.getD i true=false/\fT z (er K0 A) L w) o v a)
  (hk:WA P w0 ops Q K0 A z plan (listed.setIfInBounds i true) n ((d,v)::l) K hs):WA P w0 ops Q K0 A z (2*i::plan) listed n l K hs:=by
 intro hp hc a w ha hw hl;simp only[fu,aaH] at hp;obtain ⟨h1,h2⟩:=hp;rw[show 2*i % 2=0 from qo,show 2*i / 2=i from qo] at h1;rw[show 2*i / 2=i from qo] at h2;have h3:((Region.ready .any ops listed).contains i && Region.free .any ops listed i)=true:=h1;simp only[aaH] at h3;have hready:i∈Region.ready .any ops listed:=by simpa using h3.1
 have hkk:=hk h2 (hc.set hready) _ w (ha.put (v:=v) hb) hw (zF i listed w hl)
 grind [Nat.ne_of_beq_eq_false,G6,Region.noSelect_spec,Region.free_spec,zF,Ff]
def WA.pure[hT:bc P T]{i:Nat}{o:Oper}{d:Nat}{v:Value}(hi:ops[i]?=some o)(hsel:Region.noSelect ops=true)(hz:Nat.beq i z=false)(hd:o.dst=some d)(hb:Nat.blt d n=true)
  (hv:fo ops l o.guard=some true/\gV T l o.op=some v\/fo ops l o.guard=some false/\v=undef)
  (hk:WA P w0 ops Q K0 A z plan (listed.setIfInBounds i true) n ((d,v)::l) K hs):WA P w0 ops Q K0 A z (2*i::plan) listed n l K hs:=by
 refine WA.look hi hsel hz hd hb (fun a ha=>?_) hk;rcases hv with ⟨hg,hv⟩|⟨hg,rfl⟩
 ·exact .inl ⟨fX ha hg,fun w _=>tK hv ha w⟩
 exact .inr ⟨fX ha hg,I⟩
def i3(T:bg)(ops:Array Oper)(n z:Nat):Nat->List Nat->Array Bool->Sl->Option (List Nat×Array Bool×Sl)
 | 0,p,L,l=>some (p,L,l)
 | _+1,[],_,_=>none
 | k+1,p::r,L,l=>match Nat.beq (p % 2) 0,Nat.beq (p / 2) z,ops[p / 2]? with
  | true,false,some o=>match o.dst with
   | some d=>match Nat.blt d n,fo ops l o.guard with
    | true,some true=>match gV T l o.op with
     | some v=>i3 T ops n z k r (L.setIfInBounds (p / 2) true) ((d,v)::l)
     | none=>none
    | true,some false=>i3 T ops n z k r (L.setIfInBounds (p / 2) true) ((d,undef)::l)
    | _,_=>none
   | none=>none
  | _,_,_=>none
theorem WA.pures[hT:bc P T](hsel:Region.noSelect ops=true):∀ (k:Nat) {plan:List Nat} {listed:Array Bool} {l:Sl},i3 T ops n z k plan listed l=some (plan',listed',l') ->
  WA P w0 ops Q K0 A z plan' listed' n l' K hs->WA P w0 ops Q K0 A z plan listed n l K hs
 | 0,plan,listed,l,h,hk=>by simp only[i3,aae,aag] at h;obtain ⟨rfl,rfl,rfl⟩:=h;exact hk
 | k+1,[],listed,l,h,hk=>by simp[i3] at h
 | k+1,p::r,listed,l,h,hk=>by
  simp only[i3] at h;cases h1:Nat.beq (p % 2) 0 with
  | false=>simp[h1] at h
  | true=>
   cases h2:Nat.beq (p / 2) z with
   | true=>simp[h1,h2] at h
   | false=>
    cases h3:ops[p / 2]? with
    | none=>simp[h1,h2,h3] at h
    | some o=>
     simp only[h1,h2,h3] at h;have hp2:p=2*(p / 2):=by have:=aaB h1;omega
     cases hd:o.dst with
     | none=>simp[hd] at h
     | some d=>
      simp only[hd] at h;cases hb:Nat.blt d n with
      | false=>simp[hb] at h
      | true=>
       cases hg:fo ops l o.guard with
       | none=>simp[hb,hg] at h
       | some g=>
        cases g with
        | true=>
         simp only[hb,hg] at h;cases hv:gV T l o.op with
         | none=>simp[hv] at h
         | some v=>
          simp only[hv] at h;rw[hp2];exact WA.pure h3 hsel h2 hd hb (.inl ⟨hg,hv⟩) (WA.pures hsel k h hk)
        | false=>
         simp only[hb,hg] at h;rw[hp2];exact WA.pure h3 hsel h2 hd hb (.inr ⟨hg,I⟩) (WA.pures hsel k h hk)
def j3(T:bg)(ops:Array Oper)(n z k:Nat)(plan:List Nat)(L:Array Bool)(l:Sl):Option (Nat×Oper×List Nat×Array Bool×Sl):=
 match i3 T ops n z k plan L l with
 | some (p::r,L',l')=>match ops[p / 2]? with
  | some o=>some (p,o,r,L',l')
  | none=>none
 | _=>none
def jB{k p:Nat}{o:Oper}(h:j3 T ops n z k plan listed l=some (p,o,plan',listed',l')):i3 T ops n z k plan listed l=some (p::plan',listed',l')/\ops[p / 2]?=some o:=by
 unfold j3 at h
 grind
def vY(T:bg)(ops:Array Oper)(n z k:Nat)(plan:List Nat)(L:Array Bool)(l:Sl):Option (Nat×Addr×List Nat×Array Bool×Sl):=
 match j3 T ops n z k plan L l with
 | some (p,o,r,L',l')=>match Nat.beq (p % 2) 0,Nat.beq (p / 2) z,cond (Nat.blt z ops.size) (Region.waitsFor .any ops z (p / 2)) true,fo ops l' o.guard,o.dst,o.op with
  | true,false,true,some true,some d,.load t x=>match Nat.blt d n,asc T.kinds t,ev l' x with
   | true,some kd,some (.pointer (some a))=>cond kd.one (some (d,a,r,L'.setIfInBounds (p / 2) true,l')) none
   | _,_,_=>none
  | _,_,_,_,_,_=>none
 | none=>none
def nb{L:Array Bool}{i:Nat}(c:eX .any ops L)(hi:L.getD i true=false)(hw:cond (Nat.blt z ops.size) (Region.waitsFor .any ops z i) true=true):L.getD z false=false:=by
 cases hb:Nat.blt z ops.size with
 | false=>
  have:¬z<ops.size:=fun h=>by
   grind [Nat.ble_eq_true_of_le,Nat.blt]
  have h2:L.size<=z:=by rw[c.1];omega
  simp[ach h2]
 | true=>
  rw[hb] at hw;obtain ⟨oj,hoj,e,he,hbb,hon⟩:=Region.waitsFor_spec hw;cases hz:L.getD z false with
  | false=>rfl
  | true=>
   have:=c.2 z oj hoj hz e he hbb
   grind
def jS[hT:bc P T](hsel:Region.noSelect ops=true)(k:Nat){d:Nat}{a:Addr}{v:Value}{h:PH}(h0:vY T ops n z k plan listed l=some (d,a,plan',listed',l'))(hm:In K0 A h)(hc:cC h a v)
  (hk:WA P w0 ops Q K0 A z plan' listed' n ((d,v)::l') K hs):WA P w0 ops Q K0 A z plan listed n l K hs:=by
 unfold vY at h0
 split at h0
 ·rename_i p o r L' l2 hh
  split at h0
  ·rename_i dd t x hp hz hwf hg hd hop
   split at h0
   ·rename_i kd a' hb hkd hx;cases h1:kd.one with
    | false=>simp[h1] at h0
    | true=>
     simp only[h1,cond_true,aae,aag] at h0;obtain ⟨rfl,rfl,rfl,rfl,rfl⟩:=h0;obtain ⟨g1,g2⟩:=jB hh;refine WA.pures hsel k g1 ?_;have hp2:p=2*(p / 2):=by have:=aaB hp;omega
     rw[hp2];refine WA.look g2 hsel hz hd hb (fun A' ha=>.inl ⟨fX ha hg,fun w hw=>?_⟩) hk;obtain ⟨L,hcl,hun,hst⟩:=hw;have hcell:=(hst (nb hcl hun hwf)).cell hm hc;have h2:=nh (P:=P) hkd h1 hcell;simp only[execOp,hop,ha.ev hx];simp[h2]
   simp at h0
  simp at h0
 simp at h0
def bS[hT:bc P T](hsel:Region.noSelect ops=true)(k i:Nat){d b off ty:Nat}{v:Value}{c:Array Value}{fr:Nat×Nat}(h0:vY T ops n z k plan listed l=some (d,⟨b,off,none⟩,plan',listed',l'))
  (hi:A[i]?=some (pt b c ty fr)) (hv:c[off]?=some v) (hk:WA P w0 ops Q K0 A z plan' listed' n ((d,v)::l') K hs):WA P w0 ops Q K0 A z plan listed n l K hs:=
 jS hsel k h0 (.inr ⟨i,hi⟩) (cC.pt hv) hk
def lU(T:bg)(ops:Array Oper)(n z k:Nat)(plan:List Nat)(L:Array Bool)(l:Sl):Option (Nat×Oper×List Nat×Array Bool×Sl):=
 match j3 T ops n z k plan L l with
 | some (p,o,r,L',l')=>match Nat.beq (p % 2) 0,Nat.beq (p / 2) z,fo ops l' o.guard,o.dst with
  | true,false,some true,some d=>match Nat.blt d n with
   | true=>some (d,o,r,L'.setIfInBounds (p / 2) true,l')
   | false=>none
  | _,_,_,_=>none
 | none=>none
theorem oZ[hT:bc P T](hsel:Region.noSelect ops=true)(k:Nat){d:Nat}{o:Oper}{v:Value}(h0:lU T ops n z k plan listed l=some (d,o,plan',listed',l'))
  (hv:∀ a w,Ag n l' a->(execOp a.eval o).run P w=.ok (.value v) w) (hk:WA P w0 ops Q K0 A z plan' listed' n ((d,v)::l') K hs):WA P w0 ops Q K0 A z plan listed n l K hs:=by
 unfold lU at h0
 split at h0
 ·rename_i p o' r L' l2 hh
  split at h0
  ·rename_i dd hp hz hg hd
   split at h0
   ·rename_i hb;simp only[aae,aag] at h0;obtain ⟨rfl,rfl,rfl,rfl,rfl⟩:=h0;obtain ⟨g1,g2⟩:=jB hh;refine WA.pures hsel k g1 ?_;have hp2:p=2*(p / 2):=by have:=aaB hp;omega
    rw[hp2];exact WA.look g2 hsel hz hd hb (fun A' ha=>.inl ⟨fX ha hg,fun w _=>hv A' w ha⟩) hk
   simp at h0
  simp at h0
 simp at h0
def pS(T:bg)(ops:Array Oper)(n z k:Nat)(plan:List Nat)(L:Array Bool)(l:Sl):Option (Nat×Value×List Nat×Array Bool×Sl):=
 match lU T ops n z k plan L l with
 | some (d,o,r,L',l')=>match gV T l' o.op with
  | some v=>some (d,v,r,L',l')
  | none=>none
 | none=>none
def bA[hT:bc P T](hsel:Region.noSelect ops=true)(k:Nat){d:Nat}{v v':Value}(h0:pS T ops n z k plan listed l=some (d,v,plan',listed',l'))(he:v=v')
  (hk:WA P w0 ops Q K0 A z plan' listed' n ((d,v')::l') K hs):WA P w0 ops Q K0 A z plan listed n l K hs:=by
 subst he;unfold pS at h0
 split at h0
 ·rename_i d' o r L' l2 hh
  split at h0
  ·rename_i v' hv;simp only[aae,aag] at h0;obtain ⟨rfl,rfl,rfl,rfl,rfl⟩:=h0
   grind [oZ,tK]
  simp at h0
 simp at h0
def M4[hT:bc P T](hsel:Region.noSelect ops=true)(k:Nat){d:Nat}{b:Bool}(h0:pS T ops n z k plan listed l=some (d,.bool b,plan',listed',l'))
  (hy:b=true->WA P w0 ops Q K0 A z plan' listed' n ((d,.bool true)::l') K hs) (hn:b=false->WA P w0 ops Q K0 A z plan' listed' n ((d,.bool false)::l') K hs):WA P w0 ops Q K0 A z plan listed n l K hs:=by
 cases b with
 | true=>exact bA hsel k h0 rfl (hy rfl)
 | false=>exact bA hsel k h0 rfl (hn rfl)
def dN[hT:bc P T](hsel:Region.noSelect ops=true)(k:Nat){d:Nat}{b:Bool}(p:Prop)(h0:pS T ops n z k plan listed l=some (d,.bool b,plan',listed',l'))(hp:p↔b=true)
  (hy:p->WA P w0 ops Q K0 A z plan' listed' n ((d,.bool true)::l') K hs) (hn:¬p->WA P w0 ops Q K0 A z plan' listed' n ((d,.bool false)::l') K hs):WA P w0 ops Q K0 A z plan listed n l K hs:=
 M4 hsel k h0 (fun h=>hy (hp.2 h)) (fun h=>hn (fun h'=>by rw[hp.1 h'] at h;cases h))
def D6[hT:bc P T](hsel:Region.noSelect ops=true)(k:Nat){d d':Nat}{o:Oper}{si:d9}{ao:Option Addr}{n1 c1:Nat}{lo hi:Option Int}{h:PH}{xs ys:List Value}(L N:Nat)
  (h0:lU T ops n z k plan listed l=some (d,o,plan',listed',l')) (h1:n3 T ops n 0 [o] l'=some (d',si,(ao,n1,c1),lo,hi,[],l')) (x:aw h ao n1 c1 si.size xs) (hL:lo.getD 0=(L:Int)) (hH:hi.getD n1=((L+N:Nat):Int)) (hN:L+N<=n1)
  (hy:(xs.drop (L*si.size)).take (N*si.size)=ys)
  (hk:∀ ao' cap',aw h ao' N cap' si.size ys->WA P w0 ops Q K0 A z plan' listed' n ((d,.slice ao' N cap')::l') K hs):WA P w0 ops Q K0 A z plan listed n l K hs:=by
 obtain ⟨o',ho,hd,hb,hrun⟩:=qV (P:=P) L (L+N) h1 hL hH qo (by have:=x.2.1;omega)
 have ho':o'=o:=by
  have e:ia T ops n 0 [o] l'=some ([o],l'):=rfl
  grind [d8]
 subst ho';refine oZ hsel k h0 (v:=.slice (dm ao c1 L si.size) N (c1-L)) (fun a w ha=>?_) (hk _ _ (x.cut L N hN hy))
 simp_all
def aM[hT:bc P T](hsel:Region.noSelect ops=true)(k:Nat)(h0:i3 T ops n z k plan listed l=some ([],listed',l'))(hk:WQ w0 Q .normal n l' K hs):WA P w0 ops Q K0 A z plan listed n l K hs:=
 WA.pures hsel k h0 fun hp _ a w ha hw _=>by
  simp only[fu,List.isEmpty_iff] at hp;exact ⟨hp,hk a w ha hw⟩
def jU(P:Program)(w0:World)(ops:Array Oper)(Q:Exit->Act->World->Prop)(K0:PH)(A:List PH)(z:Nat)(plan:List Nat)(listed:Array Bool):Exit->Act->World->Prop:=
 oM fun a w=>fT z (er K0 A) listed w/\tr P .any ops (Q .normal) (fT z (er K0 A)) (eq plan) listed a w
def wj(T:bg)(ops:Array Oper)(n z k:Nat)(plan:List Nat)(L:Array Bool)(l:Sl):Option (Oper×List Nat×Array Bool×Sl):=
 match j3 T ops n z k plan L l with
 | some (p,o,r,L',l')=>cond (Nat.beq (p % 2) 1) (some (o,r,L'.setIfInBounds (p / 2) true,l')) none
 | none=>none
def tx{i:Nat}{o:Oper}{r:List Nat}{L:Array Bool}{a:Act}{w:World}(g2:ops[i]?=some o)(h2:fu .any ops r L=true)(hc':eX .any ops L)
  (hwl:wpList P ops (fun e a w=>fu .any ops r L=true->eX .any ops L->jU P w0 ops Q K0 A z r L e a w) [o] a w):
  wpOp P ops (oM (Q .normal)) i (fun a' w'=>fT z (er K0 A) L w'/\tr P .any ops (Q .normal) (fT z (er K0 A)) (eq r) L a' w') a w:=by
 unfold wpOp;simp only[g2];unfold wpList at hwl
 have conv:∀ e a w,(fu .any ops r L=true->eX .any ops L->jU P w0 ops Q K0 A z r L e a w) ->
   oM (fun a w=>fT z (er K0 A) L w/\tr P .any ops (Q .normal) (fT z (er K0 A)) (eq r) L a w) e a w:=fun e a w h=>h h2 hc'
 split
 ·rename_i hwn;rw[aab hwn] at hwl;rcases hwl with hwl|⟨_,a',w',hwl⟩
  ·refine .inl (Oper.wp_mono ?_ (vf (Q':=oM (Q .normal)) (fun c a w h=>(conv (.panic c) a w h).elim) (fun a w h=>(conv .outgrown a w h).elim) hwl));intro a w h;simp only[wpList] at h;exact conv .normal a w h
  exact (conv .outgrown a' w' hwl).elim
 rename_i hwn;rw[aaa hwn] at hwl;simp only[wpList] at hwl;exact conv .normal _ _ hwl
def mG(ops:Array Oper):List Nat->Array Bool->Bool
 | [],_=>false
 | p::r,L=>cond (Nat.beq (p % 2) 0) (mG ops r (L.setIfInBounds (p / 2) true)) (Region.ready .any ops L == [p / 2])
def nS(ops:Array Oper)(j:Nat):List Nat->Array Bool->Bool
 | [],_=>false
 | p::r,L=>cond (Nat.beq (p % 2) 0) (nS ops j r (L.setIfInBounds (p / 2) true)) (Region.ready .any ops L == [p / 2,j] || Region.ready .any ops L == [j,p / 2])
theorem qL:∀ (k:Nat) {plan:List Nat} {L L':Array Bool} {l l':Sl} {p:Nat} {r:List Nat},i3 T ops n z k plan L l=some (p::r,L',l')->Nat.beq (p % 2) 1=true ->
  mG ops plan L=(Region.ready .any ops L' == [p / 2])/\∀ j,nS ops j plan L=(Region.ready .any ops L' == [p / 2,j] || Region.ready .any ops L' == [j,p / 2])
 | 0,plan,L,L',l,l',p,r,h,hp=>by
  simp only[i3,aae,aag] at h;obtain ⟨rfl,rfl,rfl⟩:=h
  simp_all [Nat.beq,mG,nS]
 | k+1,[],L,L',l,l',p,r,h,hp=>by simp[i3] at h
 | k+1,p0::r0,L,L',l,l',p,r,h,hp=>by
  simp only[i3] at h
  split at h
  ·rename_i h0 _ _
   split at h
   ·split at h
    ·split at h
     ·have:=qL k h hp;simp_all [mG,nS]
     simp at h
    ·have:=qL k h hp;simp_all [mG,nS]
    simp at h
   simp at h
  simp at h
def aJ[hT:bc P T](hsel':(Region.noSelect ops && mG ops plan listed)=true)(k:Nat){o:Oper}(h0:wj T ops n z k plan listed l=some (o,plan',listed',l'))
  (hk:WL P w0 ops (fun e a w=>fu .any ops plan' listed'=true->eX .any ops listed'->jU P w0 ops Q K0 A z plan' listed' e a w) [o] n l' K hs):WA P w0 ops Q K0 A z plan listed n l K hs:=by
 simp only[aaH] at hsel';obtain ⟨hsel,hal⟩:=hsel';unfold wj at h0
 split at h0
 ·rename_i p o' r L' l2 hh;cases hp1:Nat.beq (p % 2) 1 with
  | false=>simp[hp1] at h0
  | true=>
   simp only[hp1,cond_true,aae,aag] at h0;obtain ⟨rfl,rfl,rfl,rfl⟩:=h0;obtain ⟨g1,g2⟩:=jB hh;have h1:=(qL k g1 hp1).1;rw[hal] at h1;refine WA.pures hsel k g1 ?_;intro hp hc a w ha hw hl;simp only[fu,aaH] at hp;obtain ⟨_,h2⟩:=hp;have h1:Region.ready .any ops L'=[p / 2]:=by simpa using h1.symm
   have hmem:p / 2∈Region.ready .any ops L':=by rw[h1];simp
   have hc':=hc.set hmem;refine ⟨fun h0=>(by rw[h1] at h0;cases h0),fun i hi=>?_⟩;rw[h1] at hi;simp only[aaz] at hi;subst hi;exact tx g2 h2 hc' (hk a w ha hw)
 simp at h0
def Cq(T:bg)(ops:Array Oper)(n z k:Nat)(plan:List Nat)(L:Array Bool)(l:Sl)(j:Nat):Option (Oper×Oper×List Nat×Array Bool×Array Bool×Sl):=
 match j3 T ops n z k plan L l with
 | some (p,o,r,L',l')=>match ops[j]? with
  | some oj=>cond (Nat.beq (p % 2) 1) (some (o,oj,r,L'.setIfInBounds (p / 2) true,L'.setIfInBounds j true,l')) none
  | none=>none
 | none=>none
def sa(j:Nat)[hT:bc P T](hsel':(Region.noSelect ops && nS ops j plan listed)=true)(k:Nat)(plan2:List Nat){oi oj:Oper}{Li Lj:Array Bool}(h0:Cq T ops n z k plan listed l j=some (oi,oj,plan',Li,Lj,l'))(hp2:(fu .any ops plan2 Lj && Nat.beq (eq plan2) (eq plan'))=true)
  (hk1:WL P w0 ops (fun e a w=>fu .any ops plan' Li=true->eX .any ops Li->jU P w0 ops Q K0 A z plan' Li e a w) [oi] n l' K hs)
  (hk2:WL P w0 ops (fun e a w=>fu .any ops plan2 Lj=true->eX .any ops Lj->jU P w0 ops Q K0 A z plan2 Lj e a w) [oj] n l' K hs):WA P w0 ops Q K0 A z plan listed n l K hs:=by
 simp only[aaH] at hsel';obtain ⟨hsel,hal⟩:=hsel';unfold Cq at h0
 split at h0
 ·rename_i p o' r L' l2 hh
  split at h0
  ·rename_i oj' hoj;cases hp1:Nat.beq (p % 2) 1 with
   | false=>simp[hp1] at h0
   | true=>
    simp only[hp1,cond_true,aae,aag] at h0;obtain ⟨rfl,rfl,rfl,rfl,rfl,rfl⟩:=h0;obtain ⟨g1,g2⟩:=jB hh;have h1:=(qL k g1 hp1).2 j;rw[hal] at h1;refine WA.pures hsel k g1 ?_;intro hp hc a w ha hw hl;simp only[fu,aaH] at hp;obtain ⟨_,h2⟩:=hp;have h1:Region.ready .any ops L'=[p / 2,j]\/Region.ready .any ops L'=[j,p / 2]:=by simpa using h1.symm
    simp only[aaH] at hp2;have hlen:eq plan2=eq r:=aaB hp2.2;have hne:Region.ready .any ops L'≠[]:=by rcases h1 with h1|h1 <;> rw[h1] <;> simp
    have hmi:p / 2∈Region.ready .any ops L':=by rcases h1 with h1|h1 <;> rw[h1] <;> simp
    have hmj:j∈Region.ready .any ops L':=by rcases h1 with h1|h1 <;> rw[h1] <;> simp
    refine ⟨fun h0=>(hne h0).elim,fun i hi=>?_⟩
    have hij:i=p / 2\/i=j:=by
     grind
    rcases hij with rfl|rfl
    ·exact tx g2 h2 (hc.set hmi)<|hk1 a w ha hw
    have:=tx hoj hp2.1 (hc.set hmj) (hk2 a w ha hw);rw[hlen] at this;exact this
  simp at h0
 simp at h0
def ci{L:Array Bool}(hst:L.getD z false=true\/hs.take (eq A)=A/\K0=K)(hk:WA P w0 ops Q K0 A z plan L n l K hs):
  WL P w0 ops (fun e a w=>fu .any ops plan L=true->eX .any ops L->jU P w0 ops Q K0 A z plan L e a w) [] n l K hs:=by
 intro a w ha hw;refine wpList_nil fun hp hc=>?_
 have hst':fT z (er K0 A) L w:=by
  intro hz;rcases hst with h|⟨h1,rfl⟩
  all_goals grind [er.of]
 exact ⟨hst',hk hp hc a w ha hw hst'⟩
end rules
section rules
variable {P:Program} {T:bg} {w0:World} {ops:Array Oper} {Q:Exit->Act->World->Prop} {rest rest':List Oper} {n:Nat} {l l':Sl} {K:PH} {hs:List PH}
def DL(T:bg)(ops:Array Oper)(n k:Nat)(rest:List Oper)(l:Sl):Option (Nat×Nat×List (Nat×Value)×List Oper×Sl):=
 match d8 T ops n k rest l with
 | some (o,r,l')=>match o.dst,o.op with
  | some d,.build t parts=>match Nat.blt d n,parts.toList.mapM (fun x=>(ev l' x.2).map (fun v=>(x.1,v))) with
   | true,some vs=>some (d,t,vs,r,l')
   | _,_=>none
  | _,_=>none
 | none=>none
def bd[hT:bc P T](k:Nat){d t:Nat}{vs:List (Nat×Value)}(v:Value)(h0:DL T ops n k rest l=some (d,t,vs,rest',l'))(hv:∀ w,(Instr.build t vs.toArray).run P w=.ok v w)
  (hk:WL P w0 ops Q rest' n ((d,v)::l') K hs):WL P w0 ops Q rest n l K hs:=by
 unfold DL at h0
 split at h0
 ·rename_i o r l2 ho
  split at h0
  ·rename_i d' t' parts hd hop
   split at h0
   ·rename_i vs' hb hvs;simp only[aae,aag] at h0;obtain ⟨rfl,rfl,rfl,rfl,rfl⟩:=h0;refine WL.at' ho fun hg=>WL.val (R:=fun u K' hs'=>u=v/\K'=K/\hs'=hs) hd hb hg (fun A w ha hw=>⟨v,w,K,hs,?_,hw,I,I,I⟩) ?_
    ·have h6:=rv ha _ _ hvs
     have h7:(parts.map fun (i,x)=>(i,A.eval x))=vs'.toArray:=by
      apply Array.ext'
      simpa using h6
     simp_all [execOp]
    rintro u K' hs' ⟨rfl,rfl,rfl⟩;exact hk
   simp at h0
  simp at h0
 simp at h0
def sm(T:bg)(ops:Array Oper)(n k:Nat)(rest:List Oper)(l:Sl):Option (Nat×Addr×Array Value×List Oper×Sl):=
 match d8 T ops n k rest l with
 | some (o,r,l')=>match o.dst,o.op with
  | none,.store t x y=>match ev l' x,ev l' y with
   | some (.pointer (some a)),some (.agg cs)=>some (t,a,cs,r,l')
   | _,_=>none
  | _,_=>none
 | none=>none
def kq[hT:bc P T](k i:Nat){t b off ty:Nat}{c cs:Array Value}(h0:sm T ops n k rest l=some (t,⟨b,off,none⟩,cs,rest',l'))(hi:hs[i]?=some (pt b c ty))(hsz:(P.info? t).map (·.size)=some cs.size)
  (hf:off+cs.size<=c.size) (h1:∀ v∈cs.toList,v.oneCell'=true)
  (hk:WL P w0 ops Q rest' n l' K (hs.set i (pt b (c.toList.take off++cs.toList++c.toList.drop (off+eq cs.toList)).toArray ty))):WL P w0 ops Q rest n l K hs:=by
 unfold sm at h0
 split at h0
 ·rename_i o r l2 ho
  split at h0
  ·rename_i t' x y hd hop
   split at h0
   ·rename_i a' cs' hx hy;simp only[aae,aag] at h0;obtain ⟨rfl,rfl,rfl,rfl,rfl⟩:=h0;refine WL.at' ho fun hg=>WL.skp hd hg (fun A w ha hw=>⟨_,?_,hw.setRow hi _⟩) hk;have hb:w.heap[b]?=some (.cells c ty (0,0)):=hw.own i _ hi b _ Nm;have h2:=run_storeCells_at P b off ty cs'.toList 0 c w hb qo h1;simp only[aa5] at h2;obtain ⟨ii,hii,hs'⟩:=Option.map_eq_some_iff.1 hsz;simp only[execOp,hop,ha.ev hx,ha.ev hy]
    simp_all [Instr.storeAt,Instr.sureAddr,storeVar,sizeOf,typeInfo,Value.cells]
   simp at h0
  simp at h0
 simp at h0
def sF(T:bg)(ops:Array Oper)(n k:Nat)(rest:List Oper)(l:Sl):Option (Nat×Nat×Addr×List Oper×Sl):=
 match d8 T ops n k rest l with
 | some (o,r,l')=>match o.dst,o.op with
  | some d,.load t x=>match Nat.blt d n,ev l' x with
   | true,some (.pointer (some a))=>some (d,t,a,r,l')
   | _,_=>none
  | _,_=>none
 | none=>none
def iA(P:Program)(t m:Nat):Bool:=(match P.underlying t with|some (.struct _)=>true|some (.array _ _)=>true|_=>false) && (match P.info? t with|some i=>i.size == m|none=>false)
def pC{w:World}{t m:Nat}{a:Addr}{cs:List Value}(hm:iA P t m=true)(hl:eq cs=m)(hc:∀ (j:Nat) v,cs[j]?=some v->w.cell? (a.add j)=some v):(Instr.loadAt t (.pointer (some a))).run P w=.ok (.agg cs.toArray) w:=by
 unfold iA at hm;simp only[aaH] at hm;obtain ⟨h1,h2⟩:=hm;cases hu:P.underlying t with
 | none=>simp[hu] at h1
 | some d=>
  cases hi:P.info? t with
  | none=>simp[hi] at h2
  | some i=>
   have h3:i.size=m:=by simpa[hi] using h2
   have hagg:(isAgg t).run P w=.ok true w:=by
    cases d <;> simp[hu] at h1 <;> simp[isAgg,run_underlying hu]
   have h4:=run_loadCells_list (P:=P) (w:=w) a cs hc
   simp_all [Instr.loadAt,Instr.sureAddr,loadVar,sizeOf,typeInfo]
def fW[hT:bc P T](k:Nat){d t:Nat}{a:Addr}{h:PH}(cs:List Value)(h0:sF T ops n k rest l=some (d,t,a,rest',l'))(hm:iA P t (eq cs)=true)(hin:In K hs h)(hc:∀ (j:Nat) v,cs[j]?=some v->cC h (a.add j) v)
  (hk:WL P w0 ops Q rest' n ((d,.agg cs.toArray)::l') K hs):WL P w0 ops Q rest n l K hs:=by
 unfold sF at h0
 split at h0
 ·rename_i o r l2 ho
  split at h0
  ·rename_i d' t' x hd hop
   split at h0
   ·rename_i a' hb hx;simp only[aae,aag] at h0;obtain ⟨rfl,rfl,rfl,rfl,rfl⟩:=h0;refine WL.at' ho fun hg=>WL.val (R:=fun u K' hs'=>u=.agg cs.toArray/\K'=K/\hs'=hs) hd hb hg (fun A w ha hw=>⟨_,w,K,hs,?_,hw,I,I,I⟩) ?_
    ·have h2:=pC (P:=P) (w:=w) hm rfl (fun j v hv=>hw.cell hin (hc j v hv));simp only[execOp,hop,ha.ev hx];simp[h2]
    rintro u K' hs' ⟨rfl,rfl,rfl⟩;exact hk
   simp at h0
  simp at h0
 simp at h0
def lx{b off:Nat}{c:Array Value}{ty:Nat}{fr:Nat×Nat}(cs:List Value)(h:∀ (j:Nat) v,cs[j]?=some v->c[off+j]?=some v):∀ (j:Nat) v,cs[j]?=some v->cC (pt b c ty fr) ((⟨b,off,none⟩:Addr).add j) v:=by
 simp_all [bf,cC.pt]
def Dm(T:bg)(ops:Array Oper)(n k:Nat)(rest:List Oper)(l:Sl):Option (Nat×Nat×(Nat×Nat×Nat×Nat)×List Oper×Sl):=
 match d8 T ops n k rest l with
 | some (o,r,l')=>match o.dst,o.op with
  | some d,.convert t t' x=>match Nat.blt d n,Nat.beq t t',ev l' x with
   | true,true,some (.slice (some a) m c)=>some (d,t,(a.block,a.off,m,c),r,cond a.spot.isNone l' [])
   | _,_,_=>none
  | _,_=>none
 | none=>none
def a7.remark{w w':World}(s:a7 w0 w K hs){i b:Nat}{c:Array Value}{ty:Nat}{fr fr':Nat×Nat}(hi:hs[i]?=some (pt b c ty fr))(h1:w'.heap[b]?=some (.cells c ty fr'))(h2:∀ k,k≠b->w'.heap[k]?=w.heap[k]?)
  (hos:w'.os=w.os) (htp:w'.tape=w.tape) (hout:w'.output=w.output) (hsz:w'.heap.size=w.heap.size):a7 w0 w' K (hs.set i (pt b c ty fr')):=by
 refine s.upd hi hos htp hout qo ?_ ?_ ?_
 all_goals grind
def mk[hT:bc P T](k i:Nat){d t b off m cc ty:Nat}{c:Array Value}(h0:Dm T ops n k rest l=some (d,t,(b,off,m,cc),rest',l'))(hl:l'≠[])(hi:hs[i]?=some (pt b c ty))(hu:∃ e,P.underlying t=some (.slice e)/\P.underlying e=some (.int .u8))
  (hk:WL P w0 ops Q rest' n ((d,.slice (some ⟨b,off,none⟩) m cc)::l') K (hs.set i (pt b c ty (c.size,c.size+1)))):WL P w0 ops Q rest n l K hs:=by
 unfold Dm at h0
 split at h0
 ·rename_i o r l2 ho
  split at h0
  ·rename_i d' t1 t2 x hd hop
   split at h0
   ·rename_i a m' c' hb htt hx;simp only[aae,aag] at h0;obtain ⟨rfl,rfl,⟨rfl,rfl,rfl,rfl⟩,rfl,hl2⟩:=h0;obtain ⟨ab,ao,asp⟩:=a;cases asp with
    | some q=>simp at hl2;first|exact absurd hl2 hl|exact absurd hl2.symm hl
    | none=>
     simp only[Option.isNone_none,cond_true] at hl2;subst hl2;obtain rfl:t1=t2:=aaB htt;obtain ⟨e,hu1,hu2⟩:=hu;refine WL.at' ho fun hg=>WL.val (R:=fun u K' hs'=>u=.slice (some ⟨ab,ao,none⟩) m' c'/\K'=K/\hs'=hs.set i (pt ab c ty (c.size,c.size+1))) hd hb hg (fun A w ha hw=>?_) ?_
     ·have hbk:w.heap[ab]?=some (.cells c ty (0,0)):=hw.own i _ hi ab _ Nm;refine ⟨_,w.freeze ⟨ab,c.size,none⟩ 1,K,_,?_,hw.remark hi (fr':=(c.size,c.size+1)) ?_ ?_ I I I ?_,I,I,I⟩
      ·simp only[execOp,hop,ha.ev hx];simp[convert,run_underlying hu1,run_underlying hu2,markStringish,shape,World.shape?,hbk,freeze,Sem.run]
      all_goals simp_all [Array.getElem?_modify,Ne.symm,World.freeze]
     rintro u K' hs' ⟨rfl,rfl,rfl⟩;exact hk
   simp at h0
  simp at h0
 simp at h0
def Dg(T:bg)(ops:Array Oper)(n k:Nat)(rest:List Oper)(l:Sl):Option (Nat×BinOp×IntKind×Int×Int×List Oper×Sl):=
 match d8 T ops n k rest l with
 | some (o,r,l')=>match o.dst,o.op with
  | some d,.binOp op _ x y _=>match Nat.blt d n,ev l' x,ev l' y with
   | true,some (.int kd a),some (.int _ b)=>some (d,op,kd,a,b,r,l')
   | _,_,_=>none
  | _,_=>none
 | none=>none
def oI[hT:bc P T](k:Nat){d:Nat}{op:BinOp}{kd:IntKind}{a b:Int}{v':Value}(h0:Dg T ops n k rest l=some (d,op,kd,a,b,rest',l'))(hb:0<=b)
  (he:op=.shl/\Value.int kd (kd.wrap (a*2 ^ (min b.toNat kd.bits)))=v'\/op=.shr/\Value.int kd (a.fdiv (2 ^ (min b.toNat kd.bits)))=v')
  (hk:WL P w0 ops Q rest' n ((d,v')::l') K hs):WL P w0 ops Q rest n l K hs:=by
 unfold Dg at h0
 split at h0
 ·rename_i o r l2 ho
  split at h0
  ·rename_i d' op' t x y t2 hd hop
   split at h0
   ·rename_i kd' a' kb b' hblt hx hy;simp only[aae,aag] at h0;obtain ⟨rfl,rfl,rfl,rfl,rfl,rfl,rfl⟩:=h0
    have hpb:gV T l2 o.op=some v':=by
     rw[hop];simp only[gV,hx,hy];rcases he with ⟨rfl,he⟩|⟨rfl,he⟩
     all_goals simp_all [lz]
    grind [WL.at',WL.pure1]
   simp at h0
  simp at h0
 simp at h0
end rules
def str(xs:List UInt8):Value:=.string ⟨xs.toArray⟩
def nY(P:Program)(t t':Nat):Bool:=(match P.underlying t with|some (.slice e)=>(match P.underlying e with|some (.int .u8)=>true|_=>false)|_=>false) && (match P.underlying t' with|some .string=>true|_=>false)
def yR{P:Program}{w:World}{t t' n c:Nat}{ao:Option Addr}(hs:nY P t t'=true)(xs:List UInt8)(hl:eq xs=n)
  (hx:∀ (j:Nat) u,((xs.map fun b=>Value.int .u8 b.toNat))[j]?=some u->∃ a,ao=some a/\w.cell? (a.add j)=some u):(convert t t' (.slice ao n c)).run P w=.ok (str xs) w:=by
 unfold nY at hs;simp only[aaH] at hs;obtain ⟨h1,h2⟩:=hs;cases e1:P.underlying t with
 | none=>simp[e1] at h1
 | some d1=>
  cases d1 <;> simp[e1] at h1;rename_i e;cases e2:P.underlying e with
  | none=>simp[e2] at h1
  | some d2=>
   cases d2 <;> simp[e2] at h1;rename_i kd;cases kd <;> simp at h1;cases e3:P.underlying t' with
   | none=>simp[e3] at h2
   | some d3=>
    cases d3 <;> simp[e3] at h2;rw[run_convert_bytes_string w t t' e _ n c e1 e2 e3];cases ao with
    | none=>
     have:xs=[]:=by
      cases xs with
      | nil=>rfl
      | cons x r=>obtain ⟨a,h,_⟩:=hx 0 _ rfl;cases h
     subst this
     rfl
    | some a=>
     have hld:(loadCells a n).run P w=.ok ((xs.map fun b=>((b.toNat:Nat):Int)).map (Value.int .u8)).toArray w:=by
      have:=run_loadCells_list (P:=P) w a (xs.map fun b=>Value.int .u8 b.toNat) (fun j v hj=>by
       grind)
      simpa[hl,Function.comp_def] using this
     rw[run_bytesToString w a n c _ hld,foldl_push_bytes];simp[str,ByteArray.empty,ByteArray.emptyWithCapacity,Function.comp_def]
     try rfl
section rules
variable {P:Program} {T:bg} {w0:World} {ops:Array Oper} {Q:Exit->Act->World->Prop} {rest rest':List Oper} {n:Nat} {l l':Sl} {K:PH} {hs:List PH}
def DF(T:bg)(ops:Array Oper)(n k:Nat)(rest:List Oper)(l:Sl):Option (Nat×Nat×Nat×(Option Addr×Nat×Nat)×List Oper×Sl):=
 match d8 T ops n k rest l with
 | some (o,r,l')=>match o.dst,o.op with
  | some d,.convert t t' x=>match Nat.blt d n,ev l' x with
   | true,some (.slice ao m c)=>some (d,t,t',(ao,m,c),r,l')
   | _,_=>none
  | _,_=>none
 | none=>none
def sY[hT:bc P T](k:Nat){d t t' m c:Nat}{ao:Option Addr}{h:PH}(xs:List UInt8)(h0:DF T ops n k rest l=some (d,t,t',(ao,m,c),rest',l'))(hin:In K hs h)
  (x:aw h ao m c 1 (xs.map fun b=>Value.int .u8 b.toNat)) (hs':nY P t t'=true)
  (hk:WL P w0 ops Q rest' n ((d,str xs)::l') K hs):WL P w0 ops Q rest n l K hs:=by
 unfold DF at h0
 split at h0
 ·rename_i o r l2 ho
  split at h0
  ·rename_i d' t1 t2 y hd hop
   split at h0
   ·rename_i ao' m' c' hb hx;simp only[aae,aag] at h0;obtain ⟨rfl,rfl,rfl,⟨rfl,rfl,rfl⟩,rfl,rfl⟩:=h0;refine WL.at' ho fun hg=>WL.val (R:=fun u K' hs'=>u=str xs/\K'=K/\hs'=hs) hd hb hg (fun A w ha hw=>⟨str xs,w,K,hs,?_,hw,I,I,I⟩) ?_
    ·have h2:=yR (P:=P) (w:=w) (c:=c') hs' xs (by have:=x.1;simpa using this) (fun j u hj=>by
      obtain ⟨a,h3,h4⟩:=x.2.2 j u hj;exact ⟨a,h3,hw.cell hin h4⟩)
     simp only[execOp,hop,ha.ev hx];simp[h2]
    rintro u K' hs' ⟨rfl,rfl,rfl⟩;exact hk
   simp at h0
  simp at h0
 simp at h0
def fh[hT:bc P T](k i:Nat){d t b ty:Nat}{c:Array Value}{fr:Nat×Nat}(h0:sF T ops n k rest l=some (d,t,⟨b,0,none⟩,rest',l'))(hi:hs[i]?=some (pt b c ty fr))(hm:iA P t c.size=true)
  (hk:WL P w0 ops Q rest' n ((d,.agg c)::l') K hs):WL P w0 ops Q rest n l K hs:=
 fW k c.toList h0 qo (.inr ⟨i,hi⟩) (lx _ fun j v h=>by simpa using h) (by simpa using hk)
def bJ[hT:bc P T](k i:Nat){t b ty:Nat}{c cs:Array Value}(h0:sm T ops n k rest l=some (t,⟨b,0,none⟩,cs,rest',l'))(hi:hs[i]?=some (pt b c ty))(hsz:(P.info? t).map (·.size)=some cs.size)
  (hf:cs.size=c.size) (h1:cs.toList.all (·.oneCell')=true) (hk:WL P w0 ops Q rest' n l' K (hs.set i (pt b cs ty))):WL P w0 ops Q rest n l K hs:=by
 refine kq k i h0 hi hsz qo (fun v hv=>(aaV.1 h1) v hv) ?_
 have e:(c.toList.take 0++cs.toList++c.toList.drop (0+eq cs.toList)).toArray=cs:=by
  grind
 rw[e];exact hk
end rules
section open_
variable {P:Program} {T:bg} {w0:World} {ops:Array Oper} {Q:Exit->Act->World->Prop} {plan plan':List Nat} {z:Nat} {listed listed':Array Bool} {n:Nat} {l l':Sl} {K K0:PH} {hs A:List PH}
theorem wo{md:Region.Mode}{q:Act->World->Prop}{S S':Array Bool->World->Prop}(h:∀ L w,S' L w->S L w):∀ (f:Nat) (L:Array Bool) (a:Act) (w:World),tr P md ops q S' f L a w->tr P md ops q S f L a w
 | 0,_,_,_,hh=>hh
 | f+1,_,_,_,hh=>⟨hh.1,fun i hi=>wpOp_mono (fun a' w' h'=>⟨h _ _ h'.1,wo h f _ a' w' h'.2⟩) (hh.2 i hi)⟩
def er.ofMem{w0 w:World}{K:PH}{hs A:List PH}(s:a7 w0 w K hs)(hA:∀ h∈A,h∈hs):er K A w:=
 ⟨s.imm,fun h hm b o hb=>s.block (.inr (abi (hA h hm))) hb⟩
def mM{L:Array Bool}(A':List PH)(hA:∀ h∈A',h∈hs)(hAA:∀ h∈A,h∈A')(hK:K0=K)(hk:WA P w0 ops Q K A' z plan L n l K hs):
  WL P w0 ops (fun e a w=>fu .any ops plan L=true->eX .any ops L->jU P w0 ops Q K0 A z plan L e a w) [] n l K hs:=by
 subst hK;intro a w ha hw;refine wpList_nil fun hp hc=>?_;have up:∀ L w,fT z (er K0 A') L w->fT z (er K0 A) L w:=fun L w h hz=>⟨(h hz).1,fun x hx=>(h hz).2 x (hAA x hx)⟩;have hst:fT z (er K0 A') L w:=fun _=>er.ofMem hw hA;exact ⟨up _ _ hst,wo up _ _ _ _ (hk hp hc a w ha hw hst)⟩
def ba{L:Array Bool}(hA:∀ h∈A,h∈hs)(hK:K0=K)(hk:WA P w0 ops Q K A z plan L n l K hs):
  WL P w0 ops (fun e a w=>fu .any ops plan L=true->eX .any ops L->jU P w0 ops Q K0 A z plan L e a w) [] n l K hs:=mM A hA (fun _ h=>h) hK hk
def bG{id:Nat}{o:List Oper}(A:List PH)(z:Nat)(plan:List Nat)(hA:∀ h∈A,h∈hs)(hm:P.follows .mixedOrders=true)(hp:(fu .any o.toArray plan (Array.replicate o.toArray.size false) && Nat.beq (eq plan) o.toArray.size)=true)
  (h:WA P w0 o.toArray Q K A z plan (Array.replicate o.toArray.size false) n l K hs):WC P w0 (.region id o.toArray true) Q n l K hs:=by
 intro a w ha hw;simp only[aaH] at hp;refine wp_region_any hm ?_;have hlen:eq plan=o.toArray.size:=aaB hp.2;have hw':a7 w0 { w with drawn:=w.drawn+1 } K hs:=hw.drew
 have hc:eX .any o.toArray (Array.replicate o.toArray.size false):=by
  refine ⟨Nm,?_⟩
  grind [getD_replicate_false]
 have hh:=h hp.1 hc a { w with drawn:=w.drawn+1 } ha hw' (fun _=>er.ofMem hw' hA);rw[hlen] at hh;refine vi (q:=Q .normal) (fun e a w h=>?_) _ _ _ _ hh;cases e <;> first|exact h|exact h.elim
end open_
section ret
variable {P:Program} {w0:World} {fn:Func} {R:Value->PH->List PH->Prop} {n:Nat} {l:Sl} {K:PH} {hs:List PH}
def tg{w:World}{t m:Nat}{a:Addr}{cs:List Value}(hm:iA P t m=true)(hl:eq cs=m)(hc:∀ (j:Nat) v,cs[j]?=some v->w.cell? (a.add j)=some v):(loadVar t a).run P w=.ok (.agg cs.toArray) w:=by
 have:=pC (P:=P) hm hl hc
 simp_all [Instr.loadAt,Instr.sureAddr]
theorem a7.dropN{w w0:World}:∀ (m:Nat) {hs:List PH},a7 w0 w K hs->a7 w0 w K (hs.drop m)
 | 0,_,s=>s
 | _+1,[],s=>s
 | m+1,_::r,s=>a7.dropN m s.dropHead
def fU(i m:Nat){t ty u b ty':Nat}{x:Value}{c:Array Value}{fr:Nat×Nat}(hr:fn.results=#[.cell t ty,.tmp u])(hv:look l t=some (Nr b))(hx:look l u=some x)(hi:hs[i]?=some (pt b c ty' fr))(hm:iA P ty c.size=true)
  (hk:R (.tuple #[.agg c,x]) K (hs.drop m)):WQ w0 (bodyPost P fn (fg w0 R)) .ret n l K hs:=
 fun _ w ha hw=>bodyPost_ret (v:=.tuple #[.agg c,x]) (by
  have h2:=tg (P:=P) (w:=w) (t:=ty) (a:=⟨b,0,none⟩) (cs:=c.toList) qo rfl (fun j v hv=>hw.cell (.inr ⟨i,hi⟩) (lx c.toList (fun j v h=>by simpa using h) j v hv));have e:c.toList.toArray=c:=by simp
  rw[e] at h2;simp[results,hr,ha.slot t _ hv,ha.slot u x hx,asAddr,h2]) ha.defers ⟨_,_,_,rfl,hk,hw.dropN m⟩
end ret
section open_
variable {P:Program} {T:bg} {w0:World} {ops:Array Oper} {Q:Exit->Act->World->Prop} {plan plan':List Nat} {z:Nat} {listed listed':Array Bool} {n:Nat} {l l':Sl} {K K0:PH} {hs A:List PH}
def C4(T:bg)(ops:Array Oper)(n z k:Nat)(plan:List Nat)(L:Array Bool)(l:Sl):Option (Nat×Oper×d9×(Option Addr×Nat×Nat)×Int×List Nat×Array Bool×Sl):=
 match lU T ops n z k plan L l with
 | some (d,o,r,L',l')=>match o.op with
  | .indexAddr t x i=>match asc T.sls t,ev l' x,ev l' i with
   | some si,some (.slice a1 n1 c1),some (.int _ j)=>some (d,o,si,(a1,n1,c1),j,r,L',l')
   | _,_,_=>none
  | _=>none
 | none=>none
def bt[hT:bc P T](hsel:Region.noSelect ops=true)(k:Nat){d:Nat}{o:Oper}{si:d9}{a:Addr}{n1 c1:Nat}{i:Int}(j:Nat)
  (h0:C4 T ops n z k plan listed l=some (d,o,si,(some a,n1,c1),i,plan',listed',l')) (hj:i=(j:Int)) (hjn:j<n1)
  (hk:WA P w0 ops Q K0 A z plan' listed' n ((d,.pointer (some (a.add (j*si.size))))::l') K hs):WA P w0 ops Q K0 A z plan listed n l K hs:=by
 unfold C4 at h0
 split at h0
 ·rename_i d' o' r L' l2 hh
  split at h0
  ·rename_i t x' i' hop
   split at h0
   ·rename_i si' a1 m1 k1 kk jj hsi hx hi;simp only[aae,aag] at h0;obtain ⟨rfl,rfl,rfl,⟨rfl,rfl,rfl⟩,rfl,rfl,rfl,rfl⟩:=h0;subst hj;obtain ⟨g1,ii,g2,g3,g4,g5⟩:=hT.sl hsi;refine oZ hsel k hh (fun A w ha=>?_) hk;simp only[execOp,hop,ha.ev hx,ha.ev hi];simp[Instr.indexAt,asIntOf,run_underlying g1,sizeOf,typeInfo,g2,g4,hjn]
   simp at h0
  simp at h0
 simp at h0
def lJ(T:bg)(ops:Array Oper)(n z k:Nat)(plan:List Nat)(L:Array Bool)(l:Sl):Option (Nat×Nat×Addr×List Nat×Array Bool×Sl):=
 match j3 T ops n z k plan L l with
 | some (p,o,r,L',l')=>match Nat.beq (p % 2) 0,Nat.beq (p / 2) z,fo ops l' o.guard,o.dst,o.op with
  | true,false,some true,some d,.load t x=>match Nat.blt d n,asc T.kinds t,ev l' x with
   | true,some kd,some (.pointer (some a))=>cond kd.one (some (p,d,a,r,L'.setIfInBounds (p / 2) true,l')) none
   | _,_,_=>none
  | _,_,_,_,_=>none
 | none=>none
def DB[hT:bc P T](hsel:Region.noSelect ops=true)(k:Nat){p d:Nat}{a:Addr}{v:Value}{h:PH}(h0:lJ T ops n z k plan listed l=some (p,d,a,plan',listed',l'))(hwf:cond (Nat.blt z ops.size) (Region.waitsFor .any ops z (p / 2)) true=true)(hm:In K0 A h)(hc:cC h a v)
  (hk:WA P w0 ops Q K0 A z plan' listed' n ((d,v)::l') K hs):WA P w0 ops Q K0 A z plan listed n l K hs:=by
 unfold lJ at h0
 split at h0
 ·rename_i p' o r L' l2 hh
  split at h0
  ·rename_i dd t x hp hz hg hd hop
   split at h0
   ·rename_i kd a' hb hkd hx;cases h1:kd.one with
    | false=>simp[h1] at h0
    | true=>
     simp only[h1,cond_true,aae,aag] at h0;obtain ⟨rfl,rfl,rfl,rfl,rfl,rfl⟩:=h0;obtain ⟨g1,g2⟩:=jB hh;refine WA.pures hsel k g1 ?_;have hp2:p'=2*(p' / 2):=by have:=aaB hp;omega
     rw[hp2];refine WA.look g2 hsel hz hd hb (fun A' ha=>.inl ⟨fX ha hg,fun w hw=>?_⟩) hk;obtain ⟨L,hcl,hun,hst⟩:=hw;have hcell:=(hst (nb hcl hun hwf)).cell hm hc;have h2:=nh (P:=P) hkd h1 hcell;simp only[execOp,hop,ha.ev hx];simp[h2]
   simp at h0
  simp at h0
 simp at h0
def bP[hT:bc P T](hsel:Region.noSelect ops=true)(k i:Nat){p d b off ty:Nat}{v:Value}{c:Array Value}{fr:Nat×Nat}(h0:lJ T ops n z k plan listed l=some (p,d,⟨b,off,none⟩,plan',listed',l'))(hwf:cond (Nat.blt z ops.size) (Region.waitsFor .any ops z (p / 2)) true=true)
  (hi:A[i]?=some (pt b c ty fr)) (hv:c[off]?=some v) (hk:WA P w0 ops Q K0 A z plan' listed' n ((d,v)::l') K hs):WA P w0 ops Q K0 A z plan listed n l K hs:=
 DB hsel k h0 hwf (.inr ⟨i,hi⟩) (cC.pt hv) hk
def mC(T:bg)(ops:Array Oper)(n z k:Nat)(plan:List Nat)(L:Array Bool)(l:Sl):Option (Nat×Nat×Nat×Addr×List Nat×Array Bool×Sl):=
 match j3 T ops n z k plan L l with
 | some (p,o,r,L',l')=>match Nat.beq (p % 2) 0,Nat.beq (p / 2) z,fo ops l' o.guard,o.dst,o.op with
  | true,false,some true,some d,.load t x=>match Nat.blt d n,ev l' x with
   | true,some (.pointer (some a))=>some (p,d,t,a,r,L'.setIfInBounds (p / 2) true,l')
   | _,_=>none
  | _,_,_,_,_=>none
 | none=>none
def kT[hT:bc P T](hsel:Region.noSelect ops=true)(k i:Nat){p d t b ty:Nat}{c:Array Value}{fr:Nat×Nat}(h0:mC T ops n z k plan listed l=some (p,d,t,⟨b,0,none⟩,plan',listed',l'))(hwf:cond (Nat.blt z ops.size) (Region.waitsFor .any ops z (p / 2)) true=true)
  (hi:A[i]?=some (pt b c ty fr)) (hm:iA P t c.size=true) (hk:WA P w0 ops Q K0 A z plan' listed' n ((d,.agg c)::l') K hs):WA P w0 ops Q K0 A z plan listed n l K hs:=by
 unfold mC at h0
 split at h0
 ·rename_i p' o r L' l2 hh
  split at h0
  ·rename_i dd t' x hp hz hg hd hop
   split at h0
   ·rename_i a' hb hx;simp only[aae,aag] at h0;obtain ⟨rfl,rfl,rfl,rfl,rfl,rfl,rfl⟩:=h0;obtain ⟨g1,g2⟩:=jB hh;refine WA.pures hsel k g1 ?_;have hp2:p'=2*(p' / 2):=by have:=aaB hp;omega
    rw[hp2];refine WA.look g2 hsel hz hd hb (fun A' ha=>.inl ⟨fX ha hg,fun w hw=>?_⟩) hk;obtain ⟨L,hcl,hun,hst⟩:=hw;have h2:=pC (P:=P) (w:=w) (t:=t') (a:=⟨b,0,none⟩) (cs:=c.toList) qo rfl (fun j v hv=>(hst (nb hcl hun hwf)).cell (.inr ⟨i,hi⟩) (lx c.toList (fun j v h=>by simpa using h) j v hv));have e:c.toList.toArray=c:=by simp
    rw[e] at h2;simp only[execOp,hop,ha.ev hx];simp[h2]
   simp at h0
  simp at h0
 simp at h0
end open_
section join
variable {P:Program} {w0:World} {Q:Exit->Act->World->Prop} {n:Nat} {l:Sl} {K:PH} {hs:List PH}
def JQ(w0:World){σ:Type}(F:σ->Sl)(HK:PH)(H:σ->List PH)(J:σ->Prop)(n:Nat)(Q:Exit->Act->World->Prop):Exit->Act->World->Prop
 | .normal,a,w=>∃ s,J s/\Ag n (F s) a/\a7 w0 w HK (H s)
 | e,a,w=>Q e a w
def jn{σ:Type}{x y:Code}(F:σ->Sl)(H:σ->List PH)(J:σ->Prop)(h1:WC P w0 x (JQ w0 F K H J n Q) n l K hs)(h2:∀ s,J s->WC P w0 y Q n (F s) K (H s)):WC P w0 (.seq x y) Q n l K hs:=
 sq fun a w ha hw=>Code.wp_mono (fun e a w h=>by
  cases e with
  | normal=>obtain ⟨s,hJ,ha,hw⟩:=h;exact h2 s hJ a w ha hw
  | _=>exact h) (h1 a w ha hw)
def jx{σ:Type}{F:σ->Sl}{HK:PH}{H:σ->List PH}{J:σ->Prop}(s:σ)(hJ:J s)(hF:jz l (F s))(hK:K=HK)(hH:hs=H s):WQ w0 (JQ w0 F HK H J n Q) .normal n l K hs:=
 fun a w ha hw=>⟨s,hJ,ha.sub hF,by rw[<-hK,<-hH];exact hw⟩
def jr{σ:Type}{F:σ->Sl}{HK:PH}{H:σ->List PH}{J:σ->Prop}(h:WQ w0 Q .ret n l K hs):WQ w0 (JQ w0 F HK H J n Q) .ret n l K hs:=h
def je{σ:Type}{F:σ->Sl}{HK:PH}{H:σ->List PH}{J:σ->Prop}{i:Nat}(h:WQ w0 Q (.exit i) n l K hs):WQ w0 (JQ w0 F HK H J n Q) (.exit i) n l K hs:=h
end join
def Le(K K':PH):Prop:=∀ b o,K b=some o->K' b=some o
def Le.refl(K:PH):Le K K:=fun _ _ h=>h
def Le.trans{A B C:PH}(h:Le A B)(g:Le B C):Le A C:=fun b o x=>g b o (h b o x)
def cC.le{h h':PH}(l:Le h h'){a:Addr}{v:Value}(c:cC h a v):cC h' a v:=by
 obtain ⟨h1,cs,ty,fr,h2,h3⟩:=c;exact ⟨h1,cs,ty,fr,l _ _ h2,h3⟩
theorem aw.le{h h':PH}(l:Le h h'){ao:Option Addr}{n cap size:Nat}{xs:List Value}(x:aw h ao n cap size xs):aw h' ao n cap size xs:=
 ⟨x.1,x.2.1,fun j u hu=>by obtain ⟨a,h1,h2⟩:=x.2.2 j u hu;exact ⟨a,h1,h2.le l⟩⟩
def un(K h:PH):PH:=fun b=>match K b with|some o=>some o|none=>h b
def a7.frz{w0 w:World}{K h:PH}{hs:List PH}(s:a7 w0 w K (h::hs)):Le K (un K h)/\Le h (un K h)/\a7 w0 w (un K h) hs:=by
 have hap:∀ b o,h b=some o->K b=none:=fun b o hb=>s.apart 0 h rfl b o hb;refine ⟨fun b o hb=>by simp[un,hb],fun b o hb=>by simp[un,hap b o hb,hb],⟨s.os,s.tape,s.output,s.size,?_,s.dropHead.own,?_,s.dropHead.sep⟩⟩
 ·intro b o hb;unfold un at hb;cases hk:K b with
  | some x=>rw[hk] at hb;cases hb;exact s.imm b _ hk
  | none=>rw[hk] at hb;exact s.own 0 h I b o hb
 intro i g hg b o hb;have h1:=s.dropHead.apart i g hg b o hb;have h2:=s.sep (i+1) 0 g h (by simpa using hg) rfl qo b o hb;simp[un,h1,h2]
def a7.weak{w0 w:World}{K K':PH}{hs:List PH}(l:Le K K')(s:a7 w0 w K' hs):a7 w0 w K hs:=by
 refine ⟨s.os,s.tape,s.output,s.size,fun b o hb=>s.imm b o (l b o hb),s.own,fun i h hi b o hb=>?_,s.sep⟩;have:=s.apart i h hi b o hb;cases hk:K b with
 | none=>rfl
 | some x=>rw[l b x hk] at this;cases this
section frz
variable {P:Program} {w0:World} {ops:Array Oper} {Q:Exit->Act->World->Prop} {rest:List Oper} {n:Nat} {l:Sl} {K h:PH} {hs:List PH} {c:Code} {e:Exit}
theorem WL.frz(hk:∀ K',Le K K'->Le h K'->WL P w0 ops Q rest n l K' hs):WL P w0 ops Q rest n l K (h::hs):=fun a w ha hw=>by
 obtain ⟨h1,h2,h3⟩:=hw.frz;exact hk _ h1 h2 a w ha h3
theorem WC.frz(hk:∀ K',Le K K'->Le h K'->WC P w0 c Q n l K' hs):WC P w0 c Q n l K (h::hs):=fun a w ha hw=>by
 obtain ⟨h1,h2,h3⟩:=hw.frz;exact hk _ h1 h2 a w ha h3
theorem WQ.frz(hk:∀ K',Le K K'->Le h K'->WQ w0 Q e n l K' hs):WQ w0 Q e n l K (h::hs):=fun a w ha hw=>by
 obtain ⟨h1,h2,h3⟩:=hw.frz;exact hk _ h1 h2 a w ha h3
theorem WQ.weak{K':PH}(le:Le K K')(hk:WQ w0 Q e n l K hs):WQ w0 Q e n l K' hs:=fun a w ha hw=>hk a w ha (hw.weak le)
def In.le{K K':PH}{hs:List PH}{x:PH}(hm:In K hs x)(l:Le K K'):∃ y,In K' hs y/\Le x y:=by
 rcases hm with rfl|h
 ·exact ⟨K',.inl I,l⟩
 exact ⟨x,.inr h,Le.refl _⟩
end frz
section rules
variable {P:Program} {T:bg} {w0:World} {ops:Array Oper} {Q:Exit->Act->World->Prop} {rest rest':List Oper} {n:Nat} {l l':Sl} {K:PH} {hs:List PH}
def gj(T:bg)(ops:Array Oper)(n k:Nat)(rest:List Oper)(l:Sl):Option (Nat×Oper×List Oper×Sl):=
 match d8 T ops n k rest l with
 | some (o,r,l')=>match o.dst with
  | some d=>cond (Nat.blt d n) (some (d,o,r,l')) none
  | none=>none
 | none=>none
def DI(T:bg)(ops:Array Oper)(n k:Nat)(rest:List Oper)(l:Sl):Option (Nat×Nat×Nat×ByteArray×List Oper×Sl):=
 match d8 T ops n k rest l with
 | some (o,r,l')=>match o.dst,o.op with
  | some d,.convert t t' x=>match Nat.blt d n,ev l' x with
   | true,some (.string s)=>some (d,t,t',s,r,l')
   | _,_=>none
  | _,_=>none
 | none=>none
def D7[hT:bc P T](k:Nat){d t t':Nat}{xs:List UInt8}(h0:DI T ops n k rest l=some (d,t,t',⟨xs.toArray⟩,rest',l'))(hs':nY P t' t=true)
  (hk:∀ b cap h,aw h (some ⟨b,0,none⟩) (eq xs) cap 1 (xs.map fun b=>Value.int .u8 b.toNat)->WL P w0 ops Q rest' n ((d,.slice (some ⟨b,0,none⟩) (eq xs) cap)::l') K (h::hs)):WL P w0 ops Q rest n l K hs:=by
 unfold DI at h0
 split at h0
 ·rename_i o r l2 ho
  split at h0
  ·rename_i d' t1 t2 y hd hop
   split at h0
   ·rename_i s hb hy;simp only[aae,aag] at h0;obtain ⟨rfl,rfl,rfl,rfl,rfl,rfl⟩:=h0;unfold nY at hs';simp only[aaH] at hs';obtain ⟨q1,q2⟩:=hs';cases e1:P.underlying t2 with
    | none=>simp[e1] at q1
    | some d1=>
     cases d1 <;> simp[e1] at q1;rename_i e;cases e2:P.underlying e with
     | none=>simp[e2] at q1
     | some d2=>
      cases d2 <;> simp[e2] at q1;rename_i kd;cases kd <;> simp at q1;cases e3:P.underlying t1 with
      | none=>simp[e3] at q2
      | some d3=>
       refine WL.at' ho fun hg=>WL.val (R:=fun u K' hs'=>∃ b cap h,u=.slice (some ⟨b,0,none⟩) (eq xs) cap/\K'=K/\hs'=h::hs/\aw h (some ⟨b,0,none⟩) (eq xs) cap 1 (xs.map fun b=>Value.int .u8 b.toNat)) hd hb hg
        (fun A w ha hw=>?_) (fun u K' hs' ⟨b,cap,h,h1,h2,h3,h4⟩=>by subst h1;subst h2;subst h3;exact hk b cap h h4)
       have hsz:(⟨xs.toArray⟩:ByteArray).size=eq xs:=by rfl
       have hr:=Lib.run_convert_string_bytes (P:=P) w t1 t2 e ⟨xs.toArray⟩ e3 e1 e2;have hcap:eq xs<=grownCap w (eq xs) 0 e:=grownCap_ge w (eq xs) 0 e
       have hcs:(Lib.bytesCells w e ⟨xs.toArray⟩).toList=xs.map (fun b=>Value.int .u8 b.toNat)++List.replicate (grownCap w (eq xs) 0 e-eq xs) (.int .u8 0):=by
        simp[Lib.bytesCells,hsz]
       refine ⟨.slice (some ⟨w.heap.size,0,none⟩) (eq xs) (grownCap w (eq xs) 0 e),Lib.bytesWorld w e ⟨xs.toArray⟩,K,pt w.heap.size (Lib.bytesCells w e ⟨xs.toArray⟩) e ((Lib.bytesCells w e ⟨xs.toArray⟩).size,(Lib.bytesCells w e ⟨xs.toArray⟩).size+1)::hs,?_,?_,w.heap.size,grownCap w (eq xs) 0 e,_,I,I,I,?_⟩
       ·simp only[execOp,hop,ha.ev hy];rw[<-hsz];simp[hr]
       ·have h1:=(hw.drew.alloc (.cells (Lib.bytesCells w e ⟨xs.toArray⟩) e)).remark (i:=0) (w':=Lib.bytesWorld w e ⟨xs.toArray⟩) (fr':=((Lib.bytesCells w e ⟨xs.toArray⟩).size,(Lib.bytesCells w e ⟨xs.toArray⟩).size+1)) rfl
         (Lib.bytesWorld_at_new w e _) ?_ rfl rfl rfl ?_
        ·exact h1
        ·intro k hk;rcases aaL k w.heap.size with h|h
         ·rw[Lib.bytesWorld_at_old w e _ k h];exact (RowKit.Below.heap_alloc w.drew _ k h).symm
         have hk':w.heap.size<k:=by have:k≠w.heap.size:=hk;omega
         rw[ach (by rw[Lib.bytesWorld_size];omega),ach (by simp;omega)]
        simp[Lib.bytesWorld_size]
       refine ⟨Nm,hcap,fun j u hu=>⟨_,I,?_⟩⟩;rw[bf,aaI];refine cC.pt ?_;have hj:j<eq xs:=by grind
       rw[<-aci,hcs,abt (by simpa using hj)];exact hu
   simp at h0
  simp at h0
 simp at h0
end rules
section ret
variable {P:Program} {w0:World} {fn:Func} {R:Value->PH->List PH->Prop} {n:Nat} {l:Sl} {K:PH} {hs:List PH}
def jJ(i m:Nat){t ty b ty':Nat}{c:Array Value}{fr:Nat×Nat}(hr:fn.results=#[.cell t ty])(hv:look l t=some (Nr b))(hi:hs[i]?=some (pt b c ty' fr))(hm:iA P ty c.size=true)
  (hk:R (.agg c) K (hs.drop m)):WQ w0 (bodyPost P fn (fg w0 R)) .ret n l K hs:=
 fun _ w ha hw=>bodyPost_ret (v:=.agg c) (by
  have h2:=tg (P:=P) (w:=w) (t:=ty) (a:=⟨b,0,none⟩) (cs:=c.toList) qo rfl (fun j v hv=>hw.cell (.inr ⟨i,hi⟩) (lx c.toList (fun j v h=>by simpa using h) j v hv));have e:c.toList.toArray=c:=by simp
  rw[e] at h2;simp[results,hr,ha.slot t _ hv,asAddr,h2]) ha.defers ⟨_,_,_,rfl,hk,hw.dropN m⟩
end ret
def kU{b:Bool}{p:Prop}(h:b=true↔p):(!b)=true↔¬p:=by cases b <;> simp_all
def Ag.cut{n:Nat}{l l':Sl}{a:Act}(h:Ag n l' a)(h1:l'.drop (eq l'-eq l)=l)(h2:((l'.take (eq l'-eq l)).all fun x=>(look l x.1).isNone)=true):Ag n l a:=by
 refine ⟨h.size,h.defers,fun t v ht=>h.slot t v ?_⟩;generalize (eq l')-eq l=k at h1 h2;clear h
 induction k generalizing l' with
 | zero=>simp at h1;rw[h1];exact ht
 | succ k ih=>
  cases l' with
  | nil=>simp at h1;subst h1;exact ht
  | cons x r=>
   obtain ⟨t',u⟩:=x;simp only[abY,List.all_cons,aaH] at h2
   grind [Nat.eq_of_beq_eq_true,look]
def Ag.cons{n:Nat}{l:Sl}{a:Act}{t:Nat}{v:Value}(h:Ag n l a)(ht:a.tmps[t]?=some v):Ag n ((t,v)::l) a:=by
 refine ⟨h.size,h.defers,fun s u hs=>?_⟩;simp only[look] at hs;cases e:Nat.beq t s with
 | true=>
  simp_all
 | false=>rw[e] at hs;exact h.slot s u hs
def BJ(w0:World)(t n:Nat)(l:Sl)(q:Prop)(K:PH)(hs:List PH):Exit->Act->World->Prop:=fun e a w=>e=.normal/\∃ c:Bool,(c=true↔q)/\Ag n ((t,.bool c)::l) a/\a7 w0 w K hs
def bK{w0:World}{t n:Nat}{l l':Sl}{q:Prop}{K:PH}{hs:List PH}{c:Bool}(hc:c=true↔q)(hl:look l' t=some (.bool c))(h1:l'.drop (eq l'-eq l)=l)(h2:((l'.take (eq l'-eq l)).all fun x=>(look l x.1).isNone)=true):
  WQ w0 (BJ w0 t n l q K hs) .normal n l' K hs:=fun a w ha hw=>⟨rfl,c,hc,(ha.cut h1 h2).cons (ha.slot t _ hl),hw⟩
theorem tz{P:Program}{ops:Array Oper}{Q Q1:Exit->Act->World->Prop}{rest:List Oper}(h1:∀ e a w,Q1 e a w->e=.normal)(h2:∀ a w,Q1 .normal a w->wpList P ops Q rest a w):
  ∀ (seg:List Oper) (a:Act) (w:World),wpList P ops Q1 seg a w->wpList P ops Q (seg++rest) a w
 | [],a,w,h=>h2 a w h
 | o::seg,a,w,h=>by
  unfold wpList at h;rw[aaJ];unfold wpList
  split
  ·rename_i hw;rw[aab hw] at h;rcases h with h|⟨_,a',w',h⟩
   ·refine .inl<|Oper.wp_mono (fun a w h=>tz h1 h2 seg a w h) ?_
    grind [vf,Oper.wp]
   have:=h1 _ _ _ h;cases this
  rename_i hw;rw[aaa hw] at h;exact tz h1 h2 seg _ w h
section rules
variable {P:Program} {T:bg} {w0:World} {ops:Array Oper} {Q:Exit->Act->World->Prop} {rest rest' rest2:List Oper} {n:Nat} {l l' lE:Sl} {K:PH} {hs:List PH}
def ff(ts:List Nat)(w:Bool):Sl->Sl
 | []=>[]
 | (k,v)::r=>(k,cond (ts.any (Nat.beq k)) (.bool w) v)::ff ts w r
def bj[hT:bc P T](k m t:Nat)(ts:List Nat)(want:Bool)(b:Bool){φ q:Prop}(h0:ia T ops n k rest l=some (rest',l'))(hlf:ff ts b l'=l')(hno:ia T ops n m rest' (ff ts (!want) l')=some (rest2,lE))(hl:look lE t=some (.bool (!want)))
  (h1:lE.drop (eq lE-eq (ff ts (!want) l'))=ff ts (!want) l') (h2:((lE.take (eq lE-eq (ff ts (!want) l'))).all fun x=>(look (ff ts (!want) l') x.1).isNone)=true) (hr:rest'=rest'.take m++rest2)
  (hn:b = !want->((!want)=true↔φ)) (hq:b=want->(q↔φ))
  (hex:b=want->WL P w0 ops (BJ w0 t n (ff ts want l') q K hs) (rest'.take m) n (ff ts want l') K hs)
  (hk:∀ b',(b'=true↔φ)->WL P w0 ops Q rest2 n ((t,.bool b')::l') K hs):WL P w0 ops Q rest n l K hs:=by
 refine WL.pures k h0 ?_
 by_cases hb:b=want
 ·subst hb;rw[hlf] at hex;intro a w ha hw;rw[hr];refine tz (Q1:=BJ w0 t n l' q K hs) (fun e a w h=>h.1) (fun a w h=>?_) _ a w (hex I a w ha hw);obtain ⟨_,c,hc,hA,hS⟩:=h;exact hk c (hc.trans (hq I)) a w hA hS
 have hb':b = !want:=by cases b <;> cases want <;> first|rfl|exact absurd rfl hb
 subst hb';rw[hlf] at hno h1 h2;exact WL.pures m hno fun a w ha hw=>hk _ (hn I) a w ((ha.cut h1 h2).cons (ha.slot t _ hl)) hw
def dx[hT:bc P T](k m t:Nat)(ts:List Nat){b:Bool}{p q:Prop}(hb:b=true↔p)(h0:ia T ops n k rest l=some (rest',l'))(hlf:ff ts b l'=l')(hno:ia T ops n m rest' (ff ts true l')=some (rest2,lE))(hl:look lE t=some (.bool true))
  (h1:lE.drop (eq lE-eq (ff ts true l'))=ff ts true l') (h2:((lE.take (eq lE-eq (ff ts true l'))).all fun x=>(look (ff ts true l') x.1).isNone)=true) (hr:rest'=rest'.take m++rest2)
  (hex:¬p->WL P w0 ops (BJ w0 t n (ff ts false l') q K hs) (rest'.take m) n (ff ts false l') K hs)
  (hk:∀ b',(b'=true↔p\/q)->WL P w0 ops Q rest2 n ((t,.bool b')::l') K hs):WL P w0 ops Q rest n l K hs:=
 bj k m t ts false b (φ:=p\/q) (q:=q) h0 hlf hno hl h1 h2 hr (fun h=>by subst h;simpa using Or.inl (hb.1 rfl)) (fun h=>⟨.inr,fun g=>g.resolve_left (fun hp=>by have:=hb.2 hp;rw[h] at this;cases this)⟩)
  (fun h=>hex (fun hp=>by have:=hb.2 hp;rw[h] at this;cases this)) hk
def dU[hT:bc P T](k m t:Nat)(ts:List Nat){b:Bool}{p q:Prop}(hb:b=true↔p)(h0:ia T ops n k rest l=some (rest',l'))(hlf:ff ts b l'=l')(hno:ia T ops n m rest' (ff ts false l')=some (rest2,lE))(hl:look lE t=some (.bool false))
  (h1:lE.drop (eq lE-eq (ff ts false l'))=ff ts false l') (h2:((lE.take (eq lE-eq (ff ts false l'))).all fun x=>(look (ff ts false l') x.1).isNone)=true) (hr:rest'=rest'.take m++rest2)
  (hex:p->WL P w0 ops (BJ w0 t n (ff ts true l') q K hs) (rest'.take m) n (ff ts true l') K hs)
  (hk:∀ b',(b'=true↔p/\q)->WL P w0 ops Q rest2 n ((t,.bool b')::l') K hs):WL P w0 ops Q rest n l K hs:=
 bj k m t ts true b (φ:=p/\q) (q:=q) h0 hlf hno hl h1 h2 hr (fun h=>Iff.intro (fun h'=>absurd h' Nn) (fun h'=>by simp_all)) (fun h=>Iff.intro (fun g=>⟨hb.1 h,g⟩) (fun g=>g.2))
  (fun h=>hex (hb.1 h)) hk
def ai[hT:bc P T](k:Nat){d:Nat}{p:Prop}(h:we T ops n k rest l=some (d,p,rest',l'))(hk:∀ b:Bool,(b=true↔p)->WL P w0 ops Q rest' n ((d,.bool b)::l') K hs):WL P w0 ops Q rest n l K hs:=
 bh k h (fun hp=>hk true (by simpa using hp)) (fun hp=>hk false (by simpa using hp))
def dE[hT:bc P T](k:Nat){d:Nat}{c:Bool}(p:Prop)(h:my T ops n k rest l=some (d,.bool c,rest',l'))(hp:c=true↔p)(hk:∀ b:Bool,(b=true↔p)->WL P w0 ops Q rest' n ((d,.bool b)::l') K hs):WL P w0 ops Q rest n l K hs:=
 ar k h rfl (hk c hp)
def MK[hT:bc P T](k:Nat){d:Nat}{xs ys:List UInt8}(h:my T ops n k rest l=some (d,.bool ((⟨xs.toArray⟩:ByteArray).toList == (⟨ys.toArray⟩:ByteArray).toList),rest',l'))(hk:∀ b:Bool,(b=true↔xs=ys)->WL P w0 ops Q rest' n ((d,.bool b)::l') K hs):WL P w0 ops Q rest n l K hs:=
 ar k h rfl (hk _ Nm)
def MI[hT:bc P T](k:Nat){d:Nat}{xs ys:List UInt8}(h:my T ops n k rest l=some (d,.bool !((⟨xs.toArray⟩:ByteArray).toList == (⟨ys.toArray⟩:ByteArray).toList),rest',l'))(hk:∀ b:Bool,(b=true↔xs≠ys)->WL P w0 ops Q rest' n ((d,.bool b)::l') K hs):WL P w0 ops Q rest n l K hs:=
 ar k h rfl (hk _ Nm)
def oO{t:Nat}{c:Bool}(hk:∀ b:Bool,(b=true↔c=true)->WL P w0 ops Q rest n ((t,.bool b)::l) K hs):WL P w0 ops Q rest n ((t,.bool c)::l) K hs:=hk c Iff.rfl
end rules
def ax{P:Program}{w0:World}{Q:Exit->Act->World->Prop}{n:Nat}{l:Sl}{K:PH}{hs:List PH}{c:Operand}{x y:Code}{b:Bool}{p:Prop}(hb:b=true↔p)(hc:ev l c=some (.bool b))(h:p->WC P w0 x Q n l K hs)(h':¬p->WC P w0 y Q n l K hs):
  WC P w0 (.cond c x y) Q n l K hs:=fe hc (fun e=>h (hb.1 e)) (fun e=>h' (fun hp=>by rw[hb.2 hp] at e;cases e))
def sI{P:Program}{w0:World}{Q:Exit->Act->World->Prop}{n:Nat}{l:Sl}{K:PH}{hs:List PH}{c:Operand}{x y:Code}{b:Bool}{p:Prop}(hb:b=true↔p)(hp:p)(hc:ev l c=some (.bool b))(h:WC P w0 x Q n l K hs):
  WC P w0 (.cond c x y) Q n l K hs:=ax hb hc (fun _=>h) (fun g=>absurd hp g)
def Dt{P:Program}{w0:World}{Q:Exit->Act->World->Prop}{n:Nat}{l:Sl}{K:PH}{hs:List PH}{c:Operand}{x y:Code}{b:Bool}{p:Prop}(hb:b=true↔p)(hp:¬p)(hc:ev l c=some (.bool b))(h:WC P w0 y Q n l K hs):
  WC P w0 (.cond c x y) Q n l K hs:=ax hb hc (fun g=>absurd g hp) (fun _=>h)
def dC{P:Program}{T:bg}{w0:World}{ops:Array Oper}{Q:Exit->Act->World->Prop}{plan plan':List Nat}{z:Nat}{listed listed':Array Bool}{n:Nat}{l l':Sl}{K K0:PH}{hs A:List PH}
  [hT:bc P T] (hsel:Region.noSelect ops=true) (k:Nat) {d:Nat} {c:Bool} (p:Prop) (h0:pS T ops n z k plan listed l=some (d,.bool c,plan',listed',l')) (hp:p↔c=true)
  (hk:∀ b:Bool,(b=true↔p)->WA P w0 ops Q K0 A z plan' listed' n ((d,.bool b)::l') K hs):WA P w0 ops Q K0 A z plan listed n l K hs:=
 bA hsel k h0 rfl (hk c hp.symm)
def Ct.keep{P:Program}{w0:World}{f:FuncId}{args:List Value}{K:PH}{hs:List PH}{h:PH}{u:Value}(i:Nat)(hi:hs[i]?=some h)
  (c:Ct P w0 f args K (h::hs.eraseIdx i) (fun v K' hs'=>K'=K/\hs'=h::hs.eraseIdx i/\v=u)):Ct P w0 f args K hs (fun v K' hs'=>K'=K/\hs'=hs/\v=u):=by
 refine ⟨c.1,fun w hw=>(c.2 w (hw.perm (gU hs i h hi))).mono ?_⟩;rintro e w' ⟨v,K',hs',rfl,⟨rfl,rfl,rfl⟩,hw'⟩;exact ⟨_,_,_,I,⟨I,I,I⟩,hw'.perm (gU hs i h hi).symm⟩
def DC{P:Program}{T:bg}{w0:World}{ops:Array Oper}{Q:Exit->Act->World->Prop}{plan plan':List Nat}{z:Nat}{listed listed':Array Bool}{n:Nat}{l l':Sl}{K K0:PH}{hs A:List PH}
  [hT:bc P T] (hsel:Region.noSelect ops=true) (k:Nat) {p d t:Nat} {a:Addr} {h:PH} (cs:List Value) (h0:mC T ops n z k plan listed l=some (p,d,t,a,plan',listed',l')) (hwf:cond (Nat.blt z ops.size) (Region.waitsFor .any ops z (p / 2)) true=true)
  (hm:iA P t (eq cs)=true) (hin:In K0 A h) (hc:∀ (j:Nat) v,cs[j]?=some v->cC h (a.add j) v) (hk:WA P w0 ops Q K0 A z plan' listed' n ((d,.agg cs.toArray)::l') K hs):WA P w0 ops Q K0 A z plan listed n l K hs:=by
 unfold mC at h0
 split at h0
 ·rename_i p' o r L' l2 hh
  split at h0
  ·rename_i dd t' x hp hz hg hd hop
   split at h0
   ·rename_i a' hb hx;simp only[aae,aag] at h0;obtain ⟨rfl,rfl,rfl,rfl,rfl,rfl,rfl⟩:=h0;obtain ⟨g1,g2⟩:=jB hh;refine WA.pures hsel k g1 ?_;have hp2:p'=2*(p' / 2):=by have:=aaB hp;omega
    rw[hp2];refine WA.look g2 hsel hz hd hb (fun A' ha=>.inl ⟨fX ha hg,fun w hw=>?_⟩) hk;obtain ⟨L,hcl,hun,hst⟩:=hw;have h2:=pC (P:=P) (w:=w) (t:=t') (a:=a') (cs:=cs) hm rfl (fun j v hv=>(hst (nb hcl hun hwf)).cell hin (hc j v hv));simp only[execOp,hop,ha.ev hx];simp[h2]
   simp at h0
  simp at h0
 simp at h0
theorem WL.hs{P:Program}{w0:World}{ops:Array Oper}{Q:Exit->Act->World->Prop}{rest:List Oper}{n:Nat}{l:Sl}{K:PH}{hs:List PH}(hs':List PH)(e:hs=hs')(hk:WL P w0 ops Q rest n l K hs'):WL P w0 ops Q rest n l K hs:=by
 subst e;exact hk
end
section
def bv(l:List UInt8):List Value:=l.map fun b=>Value.int .u8 b.toNat
def jD(l r:List UInt8):bv (l++r)=bv l++bv r:=by simp[bv]
def fM(l:List UInt8):∀ u∈bv l,u.oneCell'=true:=by
 intro u hu;obtain ⟨b,_,rfl⟩:=aap.1 hu
 rfl
def pU{l:List UInt8}{j:Nat}(h:j<eq l):(bv l)[j]?=some (.int .u8 (l[j].toNat:Nat)):=by
 simp[bv,h]
def aI(n:Nat):List UInt8:=if n<128 then [UInt8.ofNat n] else UInt8.ofNat (n % 128+128)::aI (n / 128)
 termination_by n
 decreasing_by omega
def nF{n:Nat}(h:n<128):aI n=[UInt8.ofNat n]:=by rw[aI,aab h]
def ma{n:Nat}(h:¬n<128):aI n=UInt8.ofNat (n % 128+128)::aI (n / 128):=by rw[aI,aaa h]
theorem pb:∀ (k n:Nat),n<128 ^ k->0<k->eq (aI n)<=k
 | 0,n,h,h0=>by omega
 | k+1,n,h,_=>by
  by_cases hn:n<128
  ·rw[nF hn];simp
  rw[ma hn];have h2:n / 128<128 ^ k:=qo
  have hk:0<k:=by
   grind
  simp_all [pb]
theorem dH{n:Nat}(h:n<18446744073709551616):eq (aI n)<=10:=by
 refine pb 10 n ?_ qo;omega
def p9{n:Nat}(h:n<256):Value.int .u8 (n:Nat)=.int .u8 ((UInt8.ofNat n).toNat:Nat):=by
 grind [UInt8.toNat_ofNat_of_lt']
def Ch{h:PH}{ao:Option Addr}{n n' cap size:Nat}{xs ys:List Value}(x:aw h ao n cap size xs)(h1:n=n')(h2:xs=ys):aw h ao n' cap size ys:=by subst h1;subst h2;exact x
def nB(b m:Nat)(h:m<256):aw (pt b #[.int .u8 (m:Nat)] 5) (some ⟨b,0,none⟩) 1 1 1 (bv [UInt8.ofNat m]):=by
 refine Ch (aZ.ofPt (e:=5) (n:=1) (size:=1) Nm (by simp[maxLen])).isS I ?_;simp[bv,p9 h]
theorem HY:∀ m:BitVec 8,(m ||| 128#8)=BitVec.ofNat 8 (m.toNat % 128+128):=by decide
def Ia(m:Nat):Value.int .u8 (IntKind.u8.wrap (BitVec.ofInt 8 ((m % 256:Nat):Int) ||| BitVec.ofInt 8 128).toNat)=.int .u8 (m % 128+128:Nat):=by
 grind [HY,ju,BitVec.ofInt]
def Ib(m:Nat):Value.int .u64 ((m:Int).fdiv (2 ^ (min (7:Int).toNat IntKind.u64.bits)))=.int .u64 (m / 128:Nat):=by
 have:min (7:Int).toNat IntKind.u64.bits=7:=by decide
 grind
def vF(s:BitVec 32):BitVec 32:=(s >>> 1) ^^^ (0x82f63b78#32 &&& -(s &&& 1#32))
def nK:Nat->BitVec 32->BitVec 32
 | 0,s=>s
 | k+1,s=>nK k (vF s)
theorem xG:∀ (k:Nat) (s:BitVec 32),nK (k+1) s=vF (nK k s)
 | 0,s=>rfl
 | k+1,s=>by rw[nK,xG k (vF s)];rfl
def BH(s:BitVec 32)(c:UInt8):BitVec 32:=nK 8 (s ^^^ BitVec.ofNat 32 c.toNat)
def nT(s:BitVec 32)(l:List UInt8):BitVec 32:=l.foldl BH s
def lc(l:List UInt8):BitVec 32 := ~~~ nT 4294967295#32 l
def EX(s:BitVec 32)(l:List UInt8)(c:UInt8):nT s (l++[c])=BH (nT s l) c:=by simp[nT]
def wO(x:BitVec 32):BitVec.ofInt 32 ((x.toNat:Nat):Int)=x:=by
 simp
theorem se(x:BitVec 32):Value.int .u32 (IntKind.u32.wrap ((x.toNat:Nat):Int))=.int .u32 x.toNat:=Mc ⟨qo,qo⟩
def BY(x y:BitVec 32):Value.int .u32 (IntKind.u32.wrap (BitVec.ofInt 32 ((x.toNat:Nat):Int) ^^^ BitVec.ofInt 32 ((y.toNat:Nat):Int)).toNat)=.int .u32 (((x ^^^ y).toNat:Nat):Int):=by
 rw[wO,wO];exact se _
def If(x:BitVec 32):Value.int .u32 (((x.toNat:Nat):Int).fdiv (2 ^ (min (1:Int).toNat IntKind.u32.bits)))=.int .u32 (((x >>> 1).toNat:Nat):Int):=by
 have:min (1:Int).toNat IntKind.u32.bits=1:=by decide
 simp_all [Int.fdiv_eq_ediv_of_nonneg,Nat.shiftRight_eq_div_pow]
def Kg(x:BitVec 32):Value.int .u32 (IntKind.u32.wrap (0-((x.toNat:Nat):Int)))=.int .u32 (((-x).toNat:Nat):Int):=by
 congr 1
 have:=x.isLt
 grind [IntKind.wrap,IntKind.bits,IntKind.signed]
def J9(x:BitVec 32):Value.int .u32 (IntKind.u32.wrap (BitVec.ofInt 32 (if IntKind.u32.signed then -1 else IntKind.u32.max) ^^^ BitVec.ofInt 32 ((x.toNat:Nat):Int)).toNat)=.int .u32 (((~~~x).toNat:Nat):Int):=by
 have e:BitVec.ofInt 32 (if IntKind.u32.signed then -1 else IntKind.u32.max)=BitVec.allOnes 32:=by decide
 rw[e,wO,BitVec.allOnes_xor];exact se _
def Ih(x:BitVec 32):Value.int .u32 (IntKind.u32.wrap (BitVec.ofInt 32 ((x.toNat:Nat):Int) &&& BitVec.ofInt 32 1).toNat)=.int .u32 (((x &&& 1#32).toNat:Nat):Int):=by
 grind [se]
def Ig(x:BitVec 32):Value.int .u32 (IntKind.u32.wrap (BitVec.ofInt 32 2197175160 &&& BitVec.ofInt 32 ((x.toNat:Nat):Int)).toNat)=.int .u32 (((0x82f63b78#32 &&& x).toNat:Nat):Int):=by
 grind [se]
def FS(c:UInt8):Value.int .u32 (IntKind.u32.wrap ((c.toNat:Nat):Int))=.int .u32 (((BitVec.ofNat 32 c.toNat).toNat:Nat):Int):=by
 rfl
theorem lY{α:Type}(l:List α)(j:Nat)(h:j<eq l):l.take (j+1)=l.take j++[l[j]]:=by
 simp
def cm(x:List UInt8):List UInt8:=aI (eq x)++x
def dg(s:Nat):List UInt8:=[UInt8.ofNat s,UInt8.ofNat (s / 256),UInt8.ofNat (s / 65536),UInt8.ofNat (s / 16777216)]
def nO(b:List UInt8):List UInt8:=cm b++dg (lc b).toNat
def eM(i acc:Nat):List UInt8->Nat×Nat×Int
 | []=>(0,0,20)
 | c::r=>if i=9/\1<c.toNat then (0,0,21)
  else if 128<=c.toNat then eM (i+1) (acc+c.toNat % 128*128 ^ i) r
  else if c.toNat=0/\0<i then (0,0,21)
  else (acc+c.toNat % 128*128 ^ i,i+1,0)
theorem GS:∀ m:BitVec 8,(m &&& 127#8)=BitVec.ofNat 8 (m.toNat % 128):=by decide
def zB(c:UInt8):Value.int .u8 (IntKind.u8.wrap (BitVec.ofInt 8 ((c.toNat:Nat):Int) &&& BitVec.ofInt 8 127).toNat)=.int .u8 (c.toNat % 128:Nat):=by
 grind [GS,ju]
def AS(m i:Nat)(hi:i<=9)(h:m*128 ^ i<18446744073709551616):Value.int .u64 (IntKind.u64.wrap (((m:Nat):Int)*2 ^ (min ((7:Int)*(i:Nat)).toNat IntKind.u64.bits)))=.int .u64 (m*128 ^ i:Nat):=by
 have e:min ((7:Int)*(i:Nat)).toNat IntKind.u64.bits=7*i:=by
  have:IntKind.u64.bits=64:=rfl;omega
 have e2:((m:Nat):Int)*2 ^ (7*i)=((m*128 ^ i:Nat):Int):=by
  have:(128:Nat) ^ i=2 ^ (7*i):=by rw[Nat.pow_mul]
  rw[this]
  rfl
 rw[e,e2,lV,aaQ h]
def CK(x y i:Nat)(hx:x<128 ^ i)(h:x+y*128 ^ i<18446744073709551616):
  Value.int .u64 (IntKind.u64.wrap (BitVec.ofInt 64 ((x:Nat):Int) ||| BitVec.ofInt 64 ((y*128 ^ i:Nat):Int)).toNat)=.int .u64 (x+y*128 ^ i:Nat):=by
 have hp:(128:Nat) ^ i=2 ^ (7*i):=by rw[Nat.pow_mul]
 have e:(BitVec.ofInt 64 ((x:Nat):Int) ||| BitVec.ofInt 64 ((y*128 ^ i:Nat):Int)).toNat=x+y*128 ^ i:=by
  rw[BitVec.toNat_or,abl,abl,abm,abm,aaQ qo,aaQ qo,Nat.or_comm,abZ y,hp,
   <- acj qo]
  omega
 rw[e,lV,aaQ h]
abbrev Rd:=List UInt8×Int
def br:Rd->Nat×Rd
 | (b,e)=>if e=0 then (match b with|[]=>(0,([],20))|c::r=>(c.toNat,(r,0))) else (0,(b,e))
def aG(most:Nat):Rd->Nat×Rd
 | (b,e)=>if e=0 then (let x:=eM 0 0 b;if x.2.2=0 then (if most<x.1 then (0,(b,22)) else (x.1,(b.drop x.2.1,0))) else (0,(b,x.2.2))) else (0,(b,e))
def bR(most:Int):Rd->List UInt8×Rd
 | (b,e)=>let x:=aG most.toNat (b,e)
  if x.2.2=0 then (if eq x.2.1<x.1 then ([],(b,20)) else (x.2.1.take x.1,(x.2.1.drop x.1,0))) else ([],x.2)
def jp:Rd->Int
 | (b,e)=>if e=0/\0<eq b then 23 else e
def qy(i acc:Nat)(c:UInt8)(r:List UInt8):eM i acc (c::r)=if i=9/\1<c.toNat then (0,0,21)
  else if 128<=c.toNat then eM (i+1) (acc+c.toNat % 128*128 ^ i) r
  else if c.toNat=0/\0<i then (0,0,21)
  else (acc+c.toNat % 128*128 ^ i,i+1,0):=rfl
def tN{x m i:Nat}(hi:i<=9)(hx:x<128 ^ i)(hm:m<128)(h9:i=9->m<=1):x+m*128 ^ i<18446744073709551616/\(i<9->x+m*128 ^ i<128 ^ (i+1)):=by
 have h1:(m+1)*128 ^ i<=128*128 ^ i:=aa8 _ qo;rw[Nat.add_mul] at h1;have h2:(128:Nat) ^ (i+1)=128*128 ^ i:=qo
 by_cases h:i=9
 ·grind
 have h3:(128:Nat) ^ (i+1)<=128 ^ 9:=abD qo qo;omega
theorem ua:∀ (b:List UInt8) (i acc:Nat),i<=9->acc<128 ^ i->(eM i acc b).1<18446744073709551616/\(eM i acc b).2.1<=i+eq b/\((eM i acc b).2.2=0->0<(eM i acc b).2.1)
 | [],i,acc,hi,ha=>by simp[eM]
 | c::r,i,acc,hi,ha=>by
  unfold eM
  split
  ·simp
  rename_i h9;have h1:=tN (m:=c.toNat % 128) hi ha qo qo
  split
  ·rename_i h2;have hlt:i<9:=qo
   have h3:=ua r (i+1) (acc+c.toNat % 128*128 ^ i) qo (h1.2 hlt);simp only[aan];exact ⟨h3.1,qo,h3.2.2⟩
  split
  ·simp
  simp only[aan];exact ⟨h1.1,qo,fun _=>by omega⟩
def nu(m:Nat)(b:List UInt8)(e:Int):(aG m (b,e)).1<18446744073709551616/\eq (aG m (b,e)).2.1<=eq b:=by
 have h1:=ua b 0 0 qo qo
 grind [aG]
def uD(s k:Nat)(hk:k<=32):Value.int .u32 (((s:Nat):Int).fdiv (2 ^ (min ((k:Nat):Int).toNat IntKind.u32.bits)))=.int .u32 (s / 2 ^ k:Nat):=by
 have:min ((k:Nat):Int).toNat IntKind.u32.bits=k:=by
  have:IntKind.u32.bits=32:=rfl;omega
 grind
def Gu(s:Nat):[Value.int .u8 (s % 256:Nat),.int .u8 (s / 2 ^ 8 % 256:Nat),.int .u8 (s / 2 ^ 16 % 256:Nat),.int .u8 (s / 2 ^ 24 % 256:Nat)]=bv (dg s):=by
 rfl
theorem m9(x:List UInt8):eq (cm x)=eq (aI (eq x))+eq x:=by simp[cm]
end
section
open Go.En Go.ChangeShapes Go.WideShapes Go.ChangeAt Go.RowKit
open Go.ChangeMaps (open_string shut_string)
def hp(W:World):PH:=fun b=>W.heap[b]?
def Mg(W:World):a7 W W (hp W) []:=by
 refine ⟨I,I,I,aac _,fun b o h=>h,?_,?_,?_⟩
 all_goals simp
def H0{W w:World}{hs:List PH}(s:a7 W w (hp W) hs):Below W.heap.size W w:=by
 refine ⟨s.os,s.tape,s.output,s.size,fun k hk=>?_⟩;have h:W.heap[k]?=some W.heap[k]:=Array.getElem?_eq_getElem hk;rw[s.imm k _ h,h]
def HW{P:Program}{W:World}{f:FuncId}{args:List Value}(c:Ct P W f args (hp W) [] (fun v K' _=>K'=hp W/\v=.bool true)):
  Calls P f args.toArray W fun e W'=>e=.returned (.bool true)/\Below W.heap.size W W':=by
 refine (c.2 W (Mg W)).mono ?_;rintro e w' ⟨v,K',hs',rfl,⟨rfl,rfl⟩,s⟩;exact ⟨I,H0 s⟩
theorem yL{H:Type}{enc:TypeId×Value->H}{P:Program}(hl:laidOutB P=true){W W':World}{sp:Nat->Bool}:
  ∀ (ts:List TypeId) (vs:List Value) (ds:List (DataW H)) (ps:List MemPlace),(∀ t∈ts,P.readableRec t=true/\t<P.types.size)->DataW.TrodAll enc P W 0 (fun _=>true) true ts vs ds ps ->
   (∀ p∈ps,W.sameAt W' p)->(∀ p∈ps,sp p.block=true)->DataW.TrodAll enc P W' 0 sp true ts vs ds ps
 | [],[],[],ps,_,h,_,_=>h
 | [],[],_::_,ps,_,h,_,_=>h.elim
 | [],_::_,_,ps,_,h,_,_=>h.elim
 | _::_,[],_,ps,_,h,_,_=>h.elim
 | _::_,_::_,[],ps,_,h,_,_=>h.elim
 | t::ts,v::vs,d::ds,ps,ht,h,hs,hp=>by
  obtain ⟨p,q,h1,h2,rfl⟩:=h;obtain ⟨hr,hz⟩:=ht t Nm;refine ⟨p,q,WideElems.Trod_stays hl hr hz h1 (fun x hx=>hs x (by simp[hx])) (fun x hx=>hp x (by simp[hx])),yL hl ts vs ds q (fun u hu=>ht u (by simp[hu])) h2 (fun x hx=>hs x (by simp[hx])) (fun x hx=>hp x (by simp[hx])),I⟩
def Gk{H:Type}{enc:TypeId×Value->H}{P:Program}{f:Func}{s:ChangeSpec}{W W':World}{args:Array Value}{ds gs:List (DataW H)}{before:List MemPlace}{tb:TypeId}
  (hW:DataW.Whole enc P f.params.toList s.vars false W args.toList ds gs before) (hb:Below W.heap.size W W') (hl:laidOutB P=true)
  (hts:∀ t∈f.params.toList,P.readableRec t=true/\t<P.types.size) (hrt:f.resultTypes=#[tb]) (hub:P.underlying tb=some .bool) (hv:s.vars=[])
  (hres:(s.fn H (ds++gs)).results=[.lit (.bool true)]) (hargs:(s.fn H (ds++gs)).args=ds) (hvars:(s.fn H (ds++gs)).vars=[]):
  s.post enc P f false true false false W args (.bool true) W':=by
 have hlt:=hW.lt;have hW':=hW;obtain ⟨p,q,hA,hV,rfl,hfz,hnd⟩:=hW;rw[hv] at hV
 have hq:q=[]:=by
  cases gs with
  | nil=>exact hV
  | cons _ _=>exact hV.elim
 subst hq;refine ⟨ds,gs,_,[],p,[],hW',?_,?_,?_,hb.frame _,fun h=>by cases h⟩
 ·rw[hrt,hres];exact trodAll_cons_mk (shut_bool hub _) trodAll_mk0
 ·rw[hargs];exact yL hl _ _ _ _ hts hA (fun x hx=>hb.same (hlt x (by simp[hx]))) (fun x hx=>by simpa using hlt x (by simp[hx]))
 rw[hv,hvars];rfl
def L4{H:Type}{l:List (DataW H)}(hk:Rows.uptoSmall H l=true):Rows.uptoBulkAll l<=1048576:=by
 simpa[Rows.uptoSmall] using hk
def own:ownKnob Tryz.prog.godebug=none:=by kernel_rfl
theorem laid:laidOutB Tryz.prog=true:=by kernel_rfl
end
section
open Go.En Go.ChangeShapes Go.WideShapes Go.ChangeAt Go.RowKit Go.Deep
section opens
variable {H:Type} {enc:TypeId×Value->H} {P:Program} {W:World} {α β γ:Type}
def dV(enc:TypeId×Value->H)(P:Program)(W:World)(t:TypeId)(sz:Nat)(R:List Value->α->Prop)(m:α->Nat):Prop:=
 P.cellsOf t=sz/\∀ fuel cs (x:DataW H×List MemPlace),DataW.trod enc P W 0 (fun _=>true) true fuel t cs=some x->∃ v,R cs v/\m v<=Rows.uptoBulk x.1/\eq cs=sz
def RI(k:IntKind)(cs:List Value)(n:Int):Prop:=cs=[.int k n]/\(Lit.int k n).wf=true
theorem dV.int{t:TypeId}{k:IntKind}(ht:P.underlying t=some (.int k))(hc:P.cellsOf t=1):dV enc P W t 1 (RI k) (fun _=>1):=by
 refine ⟨hc,fun fuel cs x h=>?_⟩;obtain ⟨n,rfl,rfl,hw⟩:=DataW.trod_int ht h;exact ⟨n,⟨I,hw⟩,by simp[Rows.uptoBulk],I⟩
def RB(cs:List Value)(b:Bool):Prop:=cs=[.bool b]
theorem dV.bool{t:TypeId}(ht:P.underlying t=some .bool)(hc:P.cellsOf t=1):dV enc P W t 1 RB (fun _=>1):=by
 refine ⟨hc,fun fuel cs x h=>?_⟩;obtain ⟨n,rfl,rfl⟩:=DataW.trod_bool ht h;exact ⟨n,I,by simp[Rows.uptoBulk],I⟩
def dP(R:List Value->α->Prop):List (List Value)->List α->Prop
 | [],[]=>True
 | c::cs,x::xs=>R c x/\dP R cs xs
 | _,_=>False
theorem dP.snoc{R:List Value->α->Prop}{c:List Value}{x:α}(h:R c x):∀ {cs:List (List Value)} {xs:List α},dP R cs xs->dP R (cs++[c]) (xs++[x])
 | [],[],_=>⟨h,trivial⟩
 | _::_,_::_,g=>⟨g.1,dP.snoc h g.2⟩
 | [],_::_,g=>g.elim
 | _::_,[],g=>g.elim
def kz(W:World)(sz:Nat)(R:List Value->α->Prop)(cs:List Value)(xs:List α):Prop:=
 ∃ ao cap,∃ css:List (List Value),cs=[.slice ao (eq xs) cap]/\aw (hp W) ao (eq xs) cap sz css.flatten/\dP R css xs
theorem zC(m:α->Nat)(v:α)(eS:List α->Nat)(h0:eS []=0)(h1:∀ x r,eS (x::r)=m x+eS r):∀ xs,eS (xs++[v])=eS xs+m v
 | []=>by simp[h0,h1]
 | x::r=>by rw[aaJ,h1,h1,zC m v eS h0 h1 r];omega
def eS(m:α->Nat):List α->Nat
 | []=>0
 | x::r=>m x+eS m r
def JT{W:World}{a:Addr}{v:Value}(h:W.cell? a=some v):cC (hp W) a v:=by
 unfold World.cell? at h
 split at h
 ·rename_i c ty fr hb
  split at h
  ·cases h
  rename_i hs;exact ⟨by cases hh:a.spot <;> simp[hh] at hs ⊢,c,ty,fr,hb,h⟩
 cases h
def HV{W:World}{base:Nat}{a:Addr}{n:Nat}{cs:List Value}(h:W.cells? base a n=some cs):eq cs=n/\∀ (j:Nat) u,cs[j]?=some u->W.cell? (a.add j)=some u:=by
 unfold World.cells? at h
 split at h
 ·refine ⟨by simpa using mapM_some_length h,fun j u hu=>?_⟩;have hj:j<eq cs:=(aax.1 hu).1;have hl:=mapM_some_length h;have hj':j<n:=by simp at hl;omega
  have:=mapM_some_get h j j (by simp[hj']);rw[this,hu]
 cases h
theorem dV.slice{t e:TypeId}{sz:Nat}{R:List Value->α->Prop}{m:α->Nat}(ht:P.underlying t=some (.slice e))(hc:P.cellsOf t=1)(o:dV enc P W e sz R m):dV enc P W t 1 (kz W sz R) (fun xs=>eS m xs+1):=by
 refine ⟨hc,fun fuel cs x h=>?_⟩;rcases open_slice ht h with ⟨rfl,rfl⟩|⟨a,len,cap,m',n,D,Pl,rfl,_,hlc,hcm,hm',rfl,hall⟩
 ·exact ⟨[],⟨none,0,[],I,aw.nil _ _ _ _,trivial⟩,by simp[eS,Rows.uptoBulk],I⟩
 simp only[if_true] at hm';subst hm'
 have hall':∀ i,i<len->∃ (cs':List Value) (v:α),(∀ (j:Nat) u,cs'[j]?=some u->W.cell? ((a.add (i*sz)).add j)=some u)/\eq cs'=sz/\R cs' v/\m v<=Rows.uptoBulk (D i):=fun i hi=>by
  obtain ⟨cs',h1,h2⟩:=hall i qo;rw[o.1] at h1;obtain ⟨h3,h4⟩:=HV h1;obtain ⟨v,h5,h6,_⟩:=o.2 _ _ _ h2;exact ⟨cs',v,h4,h3,h5,h6⟩
 have build:∀ k,k<=len->∃ (css:List (List Value)) (xs:List α),eq css=k/\eq xs=k/\dP R css xs/\eq css.flatten=k*sz/\(∀ (j:Nat) u,css.flatten[j]?=some u->W.cell? (a.add j)=some u)/\eS m xs<=Rows.uptoBulkAll ((List.range k).map D):=by
  intro k
  induction k with
  | zero=>intro _;exact ⟨[],[],I,I,trivial,Nm,Nm,by simp[eS]⟩
  | succ k ih=>
   intro hk;obtain ⟨css,xs,h1,h2,h3,h4,h5,h6⟩:=ih qo;obtain ⟨cs',v,g1,g2,g3,g4⟩:=hall' k qo;have hfl:(css++[cs']).flatten=css.flatten++cs':=by simp
   refine ⟨css++[cs'],xs++[v],by simp[h1],by simp[h2],h3.snoc g3,?_,?_,?_⟩
   ·grind
   ·intro j u hu;rw[hfl] at hu;rcases aaL j (k*sz) with hj|hj
    ·grind
    rw[abn qo,h4] at hu;have:=g1 _ u hu
    simp_all [add_add]
   rw[zC m v (eS m) rfl (fun _ _=>rfl),List.range_succ,aaX]
   have e:∀ l r:List (DataW H),Rows.uptoBulkAll (l++r)=Rows.uptoBulkAll l+Rows.uptoBulkAll r:=fun l r=>by
    induction l with
    | nil=>simp[Rows.uptoBulkAll]
    | cons x l ih=>grind [Rows.uptoBulkAll]
   grind [Rows.uptoBulkAll]
 obtain ⟨css,xs,h1,h2,h3,h4,h5,h6⟩:=build len (aac _);refine ⟨xs,⟨some a,m',css,by rw[h2],⟨by rw[h4,h2],qo,fun j u hu=>⟨a,I,JT (h5 j u hu)⟩⟩,h3⟩,?_,I⟩;simp only[Rows.uptoBulk];omega
def gI(enc:TypeId×Value->H)(P:Program)(W:World)(off:Nat)(fs:List Field)(sz:Nat)(R:List Value->α->Prop)(m:α->Nat):Prop:=
 ∀ (n:Nat) (cs:List Value) (xs:List (DataW H×List MemPlace)),eq cs=off+sz->eq xs=eq fs ->
  (∀ (i:Nat) (f:Field),fs[i]?=some f->DataW.trod enc P W 0 (fun _=>true) true n f.type ((cs.drop f.offset).take (P.cellsOf f.type))=xs[i]?)->∃ v,R (cs.drop off) v/\m v<=Rows.uptoBulkAll (xs.map (·.1))
def R0(cs:List Value)(_:Unit):Prop:=cs=[]
theorem gI.nil{off:Nat}:gI enc P W off [] 0 R0 (fun _=>0):=fun n cs xs h1 h2 h3=>⟨(),aa6 qo,aad _⟩
def RP(R1:List Value->α->Prop)(R2:List Value->β->Prop)(cs:List Value)(x:α×β):Prop:=∃ c1 c2,cs=c1++c2/\R1 c1 x.1/\R2 c2 x.2
theorem gI.cons{off sz1 sz2:Nat}{f:Field}{fs:List Field}{R1:List Value->α->Prop}{R2:List Value->β->Prop}{m1:α->Nat}{m2:β->Nat}(hf:f.offset=off)(o1:dV enc P W f.type sz1 R1 m1)(o2:gI enc P W (off+sz1) fs sz2 R2 m2):
  gI enc P W off (f::fs) (sz1+sz2) (RP R1 R2) (fun x=>m1 x.1+m2 x.2):=by
 intro n cs xs h1 h2 h3;cases xs with
 | nil=>simp at h2
 | cons x xs=>
  have h4:=h3 0 f rfl;rw[hf,o1.1] at h4;obtain ⟨v,g1,g2,g3⟩:=o1.2 _ _ _ h4;obtain ⟨u,k1,k2⟩:=o2 n cs xs qo (by simpa using h2) (fun i f' hi=>h3 (i+1) f' (by simpa using hi));refine ⟨(v,u),⟨_,_,(aaA sz1 (cs.drop off)).symm,g1,?_⟩,?_⟩
  ·rw[aaR];exact k1
  grind [Rows.uptoBulkAll]
theorem dV.struct{t:TypeId}{sz:Nat}{fs:Array Field}{R:List Value->α->Prop}{m:α->Nat}(ht:P.underlying t=some (.struct fs))(hc:P.cellsOf t=sz)(o:gI enc P W 0 fs.toList sz R m):dV enc P W t sz R (fun x=>m x+1):=by
 refine ⟨hc,fun fuel cs x h=>?_⟩;obtain ⟨xs,n,_,rfl,hl,hlen,hf⟩:=DataW.trod_struct ht h;obtain ⟨v,h1,h2⟩:=o n cs xs qo qo (fun i f hi=>hf i f (by simpa using hi))
 grind [Rows.uptoBulk]
def dV.arg{t:TypeId}{sz:Nat}{R:List Value->α->Prop}{m:α->Nat}(o:dV enc P W t sz R m){v:Value}{d:DataW H}{ps:List MemPlace}(h:DataW.Trod enc P W 0 (fun _=>true) true t v d ps):∃ x,R v.cells.toList x/\m x<=Rows.uptoBulk d:=by
 obtain ⟨fuel,hf⟩:=h;obtain ⟨x,h1,h2,_⟩:=o.2 _ _ _ hf;exact ⟨x,h1,h2⟩
end opens
end
section
section rules
variable {P:Program} {T:bg} {w0:World} {ops:Array Oper} {Q:Exit->Act->World->Prop} {rest rest':List Oper} {n:Nat} {l l':Sl} {K:PH} {hs:List PH}
def oh[hT:bc P T](k i:Nat)(xs ys:List UInt8){d:Nat}{si:d9}{ao ao2:Option Addr}{c1 c2:Nat}{h h2:PH}(h0:jN T ops n k rest l=some (d,si,(ao,eq xs,c1),(ao2,eq ys,c2),rest',l'))
  (hi:hs[i]?=some h) (hsz:(si.size,si.bytes,si.zero.cells.size)=(1,1,1)) (o:aZ h ao (eq xs) c1 si.elem 1 (bv xs)) (hm:In K hs h2) (x:aw h2 ao2 (eq ys) c2 1 (bv ys)) (hb:eq xs+eq ys<=140737488355328)
  (hk:∀ ao' cap' h',aZ h' ao' (eq (xs++ys)) cap' si.elem 1 (bv (xs++ys))->WL P w0 ops Q rest' n ((d,.slice ao' (eq (xs++ys)) cap')::l') K (hs.set i h')):WL P w0 ops Q rest n l K hs:=by
 simp only[aag] at hsz;obtain ⟨e1,e2,e3⟩:=hsz;refine app k i h0 hi (by rw[e1];exact o) hm (by rw[e1];exact x) (by rw[e1,e3]) (by rw[e1];decide) (fM _) (by rw[e2];omega) (by simp only[maxLen];omega) fun ao' cap' h' o'=>?_;rw[e1,<-jD,<-aah] at o';have:=hk ao' cap' h' o'
 rwa [aah] at this
end rules
def In.cons3{K h x y z:PH}{hs:List PH}(hm:In K hs h):In K (x::y::z::hs) h:=In.cons (In.cons (In.cons hm))
end
section
attribute [local irreducible] Code.wp wpList Calls
section rules
variable {P:Program} {T:bg} {w0:World} {ops:Array Oper} {Q:Exit->Act->World->Prop} {rest rest':List Oper} {n:Nat} {l l':Sl} {K:PH} {hs:List PH}
def Df(T:bg)(ops:Array Oper)(n k:Nat)(rest:List Oper)(l:Sl):Option (Nat×ByteArray×Int×List Oper×Sl):=
 match d8 T ops n k rest l with
 | some (o,r,l')=>match o.dst,o.op with
  | some d,.index t x i=>match Nat.blt d n,asc T.kinds t,ev l' x,ev l' i with
   | true,some .str,some (.string s),some (.int _ j)=>some (d,s,j,r,l')
   | _,_,_,_=>none
  | _,_=>none
 | _=>none
def HJ{d:TypeDesc}(h:UK.fits .str d=true):d=.string:=by cases d <;> simp[UK.fits] at h ⊢
def MJ[hT:bc P T](k:Nat){d:Nat}{i:Int}(xs:List UInt8)(j:Nat){b:UInt8}{s:ByteArray}
  (h0:Df T ops n k rest l=some (d,s,i,rest',l')) (hs1:s=⟨xs.toArray⟩) (hj:i=(j:Int)) (hb':xs[j]?=some b)
  (hk:WL P w0 ops Q rest' n ((d,.int .u8 b.toNat)::l') K hs):WL P w0 ops Q rest n l K hs:=by
 unfold Df at h0
 split at h0
 ·rename_i o r l2 ho
  split at h0
  ·rename_i d' t x' i' hd hop
   split at h0
   ·rename_i s' kk jj hb hsi hx hi;simp only[aae,aag] at h0;obtain ⟨rfl,rfl,rfl,rfl,rfl⟩:=h0;subst hj hs1;obtain ⟨dd,g1,g2⟩:=hT.kind hsi;obtain rfl:=HJ g2;refine WL.at' ho fun hg=>WL.val (R:=fun u K' hs'=>u=.int .u8 b.toNat/\K'=K/\hs'=hs) hd hb hg (fun A w ha hw=>⟨_,w,K,hs,?_,hw,I,I,I⟩) ?_
    ·have h2:(⟨xs.toArray⟩:ByteArray)[j]?=some b:=by
      obtain ⟨hlt,he⟩:=aax.1 hb';have hsz:j<(⟨xs.toArray⟩:ByteArray).size:=by simpa[ByteArray.size] using hlt
      simp_all [ByteArray.getElem_eq_getElem_data]
     simp only[execOp,hop,ha.ev hx,ha.ev hi];simp[Instr.index,asIntOf,run_underlying g1,h2]
    rintro u K' hs' ⟨rfl,rfl,rfl⟩;exact hk
   simp at h0
  simp at h0
 simp at h0
def Nh(T:bg)(ops:Array Oper)(n k:Nat)(rest:List Oper)(l:Sl):Option (Nat×ByteArray×Option Int×Option Int×List Oper×Sl):=
 match d8 T ops n k rest l with
 | some (o,r,l')=>match o.dst,o.op with
  | some d,.slice t x (some lo) none none=>match Nat.blt d n,asc T.kinds t,ev l' x,ev l' lo with
   | true,some .str,some (.string s),some (.int _ i)=>some (d,s,some i,none,r,l')
   | _,_,_,_=>none
  | some d,.slice t x (some lo) (some hi) none=>match Nat.blt d n,asc T.kinds t,ev l' x,ev l' lo,ev l' hi with
   | true,some .str,some (.string s),some (.int _ i),some (.int _ j)=>some (d,s,some i,some j,r,l')
   | _,_,_,_,_=>none
  | _,_=>none
 | _=>none
def Dv(T:bg)(ops:Array Oper)(n k:Nat)(rest:List Oper)(l:Sl):Option (Nat×Nat×Addr×Int×List Oper×Sl):=
 match d8 T ops n k rest l with
 | some (o,r,l')=>match o.dst,o.op with
  | some d,.indexAddr t x i=>match Nat.blt d n,ev l' x,ev l' i with
   | true,some (.pointer (some a)),some (.int _ j)=>some (d,t,a,j,r,l')
   | _,_,_=>none
  | _,_=>none
 | _=>none
def sW[hT:bc P T](k:Nat){d t len e sz:Nat}{a:Addr}{i:Int}(j:Nat)(h0:Dv T ops n k rest l=some (d,t,a,i,rest',l'))(hu:P.underlying t=some (.array len e))(he:(P.info? e).map (·.size)=some sz)(hj:i=(j:Int))(hjn:j<len)
  (hk:WL P w0 ops Q rest' n ((d,.pointer (some (a.add (j*sz))))::l') K hs):WL P w0 ops Q rest n l K hs:=by
 unfold Dv at h0
 split at h0
 ·rename_i o r l2 ho
  split at h0
  ·rename_i d' t x' i' hd hop
   split at h0
   ·rename_i a' kk jj hb hx hi;simp only[aae,aag] at h0;obtain ⟨rfl,rfl,rfl,rfl,rfl,rfl⟩:=h0;subst hj;cases hii:P.info? e with
    | none=>rw[hii] at he;cases he
    | some ii=>
     rw[hii] at he;have hsz:ii.size=sz:=by simpa using he
     refine WL.at' ho fun hg=>WL.val (R:=fun u K' hs'=>u=.pointer (some<|a'.add (j*sz))/\K'=K/\hs'=hs) hd hb hg (fun A w ha hw=>⟨_,w,K,hs,?_,hw,I,I,I⟩) ?_
     ·simp only[execOp,hop,ha.ev hx,ha.ev hi];simp[Instr.indexAt,Instr.sureAddr,asIntOf,run_underlying hu,sizeOf,typeInfo,hii,hsz,hjn]
     rintro u K' hs' ⟨rfl,rfl,rfl⟩;exact hk
   simp at h0
  simp at h0
 simp at h0
end rules
section make
variable {P:Program} {T:bg} {w0:World} {ops:Array Oper} {Q:Exit->Act->World->Prop} {rest rest':List Oper} {n:Nat} {l l':Sl} {K:PH} {hs:List PH}
def CR(T:bg)(ops:Array Oper)(n k:Nat)(rest:List Oper)(l:Sl):Option (Nat×d9×Int×Int×List Oper×Sl):=
 match d8 T ops n k rest l with
 | some (o,r,l')=>match o.dst,o.op with
  | some d,.makeSlice t x y=>match Nat.blt d n,asc T.sls t,ev l' x,ev l' y with
   | true,some si,some (.int .i64 i),some (.int .i64 j)=>some (d,si,i,j,r,l')
   | _,_,_,_=>none
  | _,_=>none
 | _=>none
def DY[hT:bc P T](k:Nat){d:Nat}{si:d9}{i j:Int}(N:Nat)(z:Value)(h0:CR T ops n k rest l=some (d,si,i,j,rest',l'))(hi:i=(N:Int))(hj:j=(N:Int))(hz:(si.size,si.zero.cells)=(1,#[z]))(hr:N*si.bytes<=roomBytes)(hN0:0<N)(hN:N<=16777216)(hb2:si.bytes<=1024)
  (hk:∀ b,aZ (pt b (Array.replicate N z) si.elem) (some ⟨b,0,none⟩) N N si.elem 1 (List.replicate N z)->WL P w0 ops Q rest' n ((d,.slice (some ⟨b,0,none⟩) N N)::l') K (pt b (Array.replicate N z) si.elem::hs)):WL P w0 ops Q rest n l K hs:=by
 simp only[aag] at hz;obtain ⟨z1,z2⟩:=hz;unfold CR at h0
 split at h0
 ·rename_i o r l2 ho
  split at h0
  ·rename_i d' t x y hd hop
   split at h0
   ·rename_i si' ii jj hb hsi hx hy;simp only[aae,aag] at h0;obtain ⟨rfl,rfl,rfl,rfl,rfl,rfl⟩:=h0;subst hi hj;obtain ⟨h1,im,h2,h3,h4,h5⟩:=hT.sl hsi
    refine WL.at' ho fun hg=>WL.val (R:=fun u K' hs'=>∃ b,u=.slice (some ⟨b,0,none⟩) N N/\K'=K/\hs'=pt b (Array.replicate N z) si'.elem::hs) hd hb hg
     (fun A w ha hw=>⟨.slice (some ⟨w.heap.size,0,none⟩) N N,_,K,_,?_,hw.alloc _,w.heap.size,rfl,rfl,rfl⟩) ?_
    ·have e1:IntKind.i64.wrap ((N:Nat):Int)=(N:Int):=by grind [IntKind.wrap,IntKind.bits]
     simp only[execOp,hop,ha.ev hx,ha.ev hy];rw[h5.symm] at hr hb2;have hm:im.bytes*N<=1024*16777216:=Nat.mul_le_mul hb2 hN
     have c2:¬(281474976710656:Int)<(im.bytes:Int)*(N:Int):=by
      omega
     have c1:¬((N:Nat):Int)<0:=qo
     have c3:¬roomBytes<N*im.bytes:=qo
     have hz:N≠0:=qo
     have hz2:(Array.map (fun x=>[z][x % 1]?.getD default) (Array.range N))=Array.replicate N z:=by
      grind
     simp[Instr.makeSlice,asInt,asIntOf,run_underlying h1,sizeOf,typeInfo,h2,h4,e1,z1,c1,c2,c3,askRoom,newRow,zeroValue,h3,z2,hz,hz2,pt]
    rintro u K' hs' ⟨b,rfl,rfl,rfl⟩;exact hk b (by simpa using aZ.ofPt (b:=b) (c:=Array.replicate N z) (e:=si'.elem) (n:=N) (size:=1) Nm (by simp only[maxLen];omega))
   simp at h0
  simp at h0
 simp at h0
end make
section three
variable {P:Program} {T:bg} {w0:World} {ops:Array Oper} {Q:Exit->Act->World->Prop} {rest rest':List Oper} {n:Nat} {l l':Sl} {K:PH} {hs:List PH}
def Nj(T:bg)(ops:Array Oper)(n k:Nat)(rest:List Oper)(l:Sl):Option (Nat×d9×(Option Addr×Nat×Nat)×Int×Int×Int×List Oper×Sl):=
 match d8 T ops n k rest l with
 | some (o,r,l')=>match o.dst,o.op with
  | some d,.slice t x (some lo) (some hi) (some mx)=>match Nat.blt d n,asc T.sls t,ev l' x,ev l' lo,ev l' hi,ev l' mx with
   | true,some si,some (.slice a1 n1 c1),some (.int _ i),some (.int _ j),some (.int _ m)=>some (d,si,(a1,n1,c1),i,j,m,r,l')
   | _,_,_,_,_,_=>none
  | _,_=>none
 | _=>none
end three
section openx
variable {P:Program} {T:bg} {w0:World} {ops:Array Oper} {Q:Exit->Act->World->Prop} {plan plan':List Nat} {z:Nat} {listed listed':Array Bool} {n:Nat} {l l':Sl} {K K0:PH} {hs A:List PH}
def C5(T:bg)(ops:Array Oper)(n z k:Nat)(plan:List Nat)(L:Array Bool)(l:Sl):Option (Nat×Oper×Nat×Addr×Int×List Nat×Array Bool×Sl):=
 match lU T ops n z k plan L l with
 | some (d,o,r,L',l')=>match o.op with
  | .indexAddr t x i=>match ev l' x,ev l' i with
   | some (.pointer (some a)),some (.int _ j)=>some (d,o,t,a,j,r,L',l')
   | _,_=>none
  | _=>none
 | none=>none
def od[hT:bc P T](hsel:Region.noSelect ops=true)(k:Nat){d t len e sz:Nat}{o:Oper}{a:Addr}{i:Int}(j:Nat)
  (h0:C5 T ops n z k plan listed l=some (d,o,t,a,i,plan',listed',l')) (hu:P.underlying t=some (.array len e)) (he:(P.info? e).map (·.size)=some sz) (hj:i=(j:Int)) (hjn:j<len)
  (hk:WA P w0 ops Q K0 A z plan' listed' n ((d,.pointer (some (a.add (j*sz))))::l') K hs):WA P w0 ops Q K0 A z plan listed n l K hs:=by
 unfold C5 at h0
 split at h0
 ·rename_i d' o' r L' l2 hh
  split at h0
  ·rename_i t x' i' hop
   split at h0
   ·rename_i a' kk jj hx hi;simp only[aae,aag] at h0;obtain ⟨rfl,rfl,rfl,rfl,rfl,rfl,rfl,rfl⟩:=h0;subst hj;cases hii:P.info? e with
    | none=>rw[hii] at he;cases he
    | some ii=>
     rw[hii] at he;have hsz:ii.size=sz:=by simpa using he
     refine oZ hsel k hh (fun A w ha=>?_) hk;simp only[execOp,hop,ha.ev hx,ha.ev hi];simp[Instr.indexAt,Instr.sureAddr,asIntOf,run_underlying hu,sizeOf,typeInfo,hii,hsz,hjn]
   simp at h0
  simp at h0
 simp at h0
end openx
section clear
variable {P:Program} {T:bg} {w0:World} {ops:Array Oper} {Q:Exit->Act->World->Prop} {rest rest':List Oper} {n:Nat} {l l':Sl} {K:PH} {hs:List PH}
def WL.val0{o:Oper}{K':PH}{hs':List PH}(hd:o.dst=none)(hg:fo ops l o.guard=some true)
  (h:∀ a w,Ag n l a->a7 w0 w K hs->∃ v w',(execOp a.eval o).run P w=.ok (.value v) w'/\a7 w0 w' K' hs')
  (hk:WL P w0 ops Q rest n l K' hs'):WL P w0 ops Q (o::rest) n l K hs:=by
 intro a w ha hw;obtain ⟨v,w',hrun,hw'⟩:=h a w ha hw;have h1:=fX ha hg;unfold wpList;rw[aab h1];refine .inl ?_;unfold Oper.wp;rw[hrun];simp only[Oper.upon,hd,Act.put];exact hk _ _ ha hw'
def C9(T:bg)(ops:Array Oper)(n k:Nat)(rest:List Oper)(l:Sl):Option (d9×Addr×Nat×List Oper×Sl):=
 match d8 T ops n k rest l with
 | some (o,r,l')=>match o.dst,o.op with
  | none,.call { callee:=.builtin .clear,args,argTypes }=>match args.toList,argTypes.toList with
   | [x],[t]=>match asc T.sls t,ev l' x with
    | some si,some (.slice (some a) m _)=>some (si,a,m,r,l')
    | _,_=>none
   | _,_=>none
  | _,_=>none
 | none=>none
def clr[hT:bc P T](k i:Nat){b off m ty:Nat}{si:d9}{c:Array Value}{z:Value}(h0:C9 T ops n k rest l=some (si,⟨b,off,none⟩,m,rest',l'))(hi:hs[i]?=some (pt b c ty))(hz:(si.size,si.zero.cells)=(1,#[z]))(h1:z.oneCell'=true)(hm:0<m)(hf:off+m<=c.size)
  (hk:WL P w0 ops Q rest' n l' K (hs.set i (pt b (c.toList.take off++List.replicate m z++c.toList.drop (off+m)).toArray ty))):WL P w0 ops Q rest n l K hs:=by
 simp only[aag] at hz;obtain ⟨z1,z2⟩:=hz;unfold C9 at h0
 split at h0
 ·rename_i o r l2 ho
  split at h0
  ·rename_i args argTypes hd hop
   split at h0
   ·rename_i x t e1 e2
    split at h0
    ·rename_i si' a' m' c' hsi hx;simp only[aae,aag] at h0;obtain ⟨rfl,rfl,rfl,rfl,rfl⟩:=h0;have a1':args=#[x]:=by cases args;simp_all
     have a2':argTypes=#[t]:=by cases argTypes;simp_all
     subst a1' a2';obtain ⟨g1,ii,g2,g3,g4,g5⟩:=hT.sl hsi;refine WL.at' ho fun hg=>WL.val0 hd hg (fun A w ha hw=>⟨.tuple #[],_,?_,hw.setRow hi _⟩) hk;have hb:w.heap[b]?=some (.cells c ty (0,0)):=hw.own i _ hi b _ Nm
     have hzc:(Builtin.zeroCells #[z] m').toList=List.replicate m' z:=by
      unfold Builtin.zeroCells
      apply ab0
      grind
     have h2:=run_storeCells_at P b off ty (List.replicate m' z) 0 c w hb (by simpa using hf) (by simp_all);simp only[aa5,ack] at h2;obtain ⟨q,rfl⟩:∃ q,m'=q+1:=⟨m'-1,qo⟩;simp only[execOp,hop];simp[resolve,invoke,builtin,ha.ev hx,Builtin.clear_,run_underlying g1,zeroValue,typeInfo,g2,g3,z2,hzc,h2]
    simp at h0
   simp at h0
  simp at h0
 simp at h0
end clear
end
section
def fz(r:Option Nat):Fence:={ fn:=fun _=>True,depth:=none,alive:=false,round:=r }
def wd(ds:List Deferred)(a:Act):Act:={ a with defers:=ds }
def jc(ds:List Deferred)(Q:Exit->Act->World->Prop):Exit->Act->World->Prop
 | .outgrown,_,_=>False
 | e,a,w=>a.defers=[]/\Q e (wd ds a) w
def WX(P:Program)(w0:World)(r:Option Nat)(ds:List Deferred)(c:Code)(Q:Exit->Act->World->Prop)(n:Nat)(l:Sl)(K:PH)(hs:List PH):Prop:=
 ∀ a w,Ag n l a->a7 w0 w K hs->c.wpIn (fz r) 0 P Q (wd ds a) w
def cW(ds:List Deferred)(w0:World)(Q:Exit->Act->World->Prop)(e:Exit)(n:Nat)(l:Sl)(K:PH)(hs:List PH):Prop:=
 ∀ a w,Ag n l a->a7 w0 w K hs->Q e (wd ds a) w
def gQ(P:Program)(w0:World)(r:Option Nat)(ds:List Deferred)(ops:Array Oper)(Q:Exit->Act->World->Prop)(rest:List Oper)(n:Nat)(l:Sl)(K:PH)(hs:List PH):Prop:=
 ∀ a w,Ag n l a->a7 w0 w K hs->wpListIn (fz r) 0 P ops Q rest (wd ds a) w
def nL(ds:List Deferred)(a:Act)(d:Option Tmp)(v:Value):wd ds (a.put d v)=(wd ds a).put d v:=by cases d <;> rfl
def HX{r:Option Nat}{P:Program}{f:FuncId}{args:Array Value}{w:World}{R:Ending->World->Prop}(h:Calls P f args w R):CallsIn (fz r) 0 P f args w R:=by
 have h1:CallsIn Fence.wide 0 P f args w R:=callsIn_wide.2 h;cases r with
 | none=>exact h1
 | some l=>exact h1
def IJ{r:Option Nat}{P:Program}{row:String}{args:Array Value}{w:World}{R:Value->World->Prop}(h:Rows P row args w R):RowsIn (fz r) 0 P row args w R:=
 fun c cs _=>let ⟨v,w',hr,s⟩:=h c cs;⟨v,w',hr,(stepsIn_wide.2 s:StepsIn (Machine.fenced P Fence.wide) P _ _)⟩
theorem wg{ds:List Deferred}{Q:Exit->Act->World->Prop}{e:Exit}{a:Act}{w:World}(h:jc ds Q e a w):a.defers=[]:=by cases e <;> first|exact h.1|exact h.elim
theorem lP(a:Act)(d:Option Tmp)(v:Value):(a.put d v).defers=a.defers:=by cases d <;> rfl
def BX{P:Program}{o:Oper}{a:Act}{N:Act->World->Prop}{Q:Exit->Act->World->Prop}(hN:∀ a w,N a w->a.defers=[])(hQ:∀ e a w,Q e a w->a.defers=[])(hg:∀ a w,¬Q .outgrown a w){x:Result Next}(h:o.upon P a N Q x):a.defers=[]:=by
 cases x with
 | ok n w'=>
  cases n <;> simp only[Oper.upon] at h <;> first
   | exact (lP _ _ _).symm.trans (hN _ _ h)
   | exact h.elim
   | (
     have:=hN _ _ h
     rw[lP] at this;cases this)
   | (
     obtain ⟨v,w1,hR,_⟩:=h default []
     exact (lP _ _ _).symm.trans (hN _ _ hR))
   | (
     obtain ⟨e,w1,fr,hR,_⟩:=h []
     cases e with
     | returned v=>exact (lP _ _ _).symm.trans (hN _ _ hR)
     | panicked c=>exact hQ _ _ _ hR
     | outgrown=>obtain ⟨a1,w1,hh⟩:=hR;exact (hg _ _ hh).elim)
 | halt x w'=>
  cases x <;> simp only[Oper.upon] at h <;> first
   | exact h.elim
   | exact hQ _ _ _ h
def H8{r:Option Nat}{P:Program}{o:Oper}{a:Act}{ds:List Deferred}{N N':Act->World->Prop}{Q Q':Exit->Act->World->Prop}(hd:∀ a w,N a w->a.defers=[])(hN:∀ a w,N a w->N' (wd ds a) w)(hQ:∀ c w,Q (.panic c) a w->Q' (.panic c) (wd ds a) w)
  (hg:∀ a w,¬Q .outgrown a w) {x:Result Next} (h:o.upon P a N Q x):o.uponIn (fz r) 0 P (wd ds a) N' Q' x:=by
 cases x with
 | ok n w'=>
  cases n <;> simp only[Oper.upon] at h <;> first
   | (simp only[Oper.uponIn,<-nL];exact hN _ _ h)
   | exact h.elim
   | (
     have:=hd _ _ h
     rw[lP] at this;cases this)
   | (
     refine ⟨by simp[fz],(IJ h).mono fun v w'' he=>?_⟩
     simp only[<-nL];exact hN _ _ he)
   | (
     refine ⟨by simp[fz],(HX h).mono fun e w'' he=>?_⟩
     cases e with
     | returned v=>simp only[<-nL];exact hN _ _ he
     | panicked c=>exact hQ _ _ he
     | outgrown=>obtain ⟨a1,w1,hh⟩:=he;exact (hg _ _ hh).elim)
 | halt x w'=>
  cases x <;> simp only[Oper.upon] at h ⊢ <;> first
   | exact h.elim
   | exact hQ _ _ h
theorem um{P:Program}{ops:Array Oper}{ds:List Deferred}{Q:Exit->Act->World->Prop}:∀ (rest:List Oper) (a:Act) (w:World),wpList P ops (jc ds Q) rest a w->a.defers=[]
 | [],a,w,h=>wg h
 | o::rest,a,w,h=>by
  unfold wpList at h
  split at h
  ·rcases h with h|⟨_,a1,w1,h⟩
   ·exact BX (Q:=jc ds Q) (fun a w=>um rest a w) (fun e a w h=>wg h) (fun a w h=>h) h
   exact h.elim
  exact (lP _ _ _).symm.trans<|um rest _ _ h
def E7{P:Program}{o:Oper}{a:Act}{w:World}{N:Act->World->Prop}{Q:Exit->Act->World->Prop}(hN:∀ a w,N a w->a.defers=[])(h:o.wp P a w N Q){c:Call}(hc:o.op=.defer c):∃ v w',(resolve a.eval c o.type).run P w=.halt v w':=by
 unfold Oper.wp at h;simp only[execOp,hc] at h;rw[Sem.run_bind] at h;cases e:(resolve a.eval c o.type).run P w with
 | ok x w1=>
  grind [Sem.run_pure,lP,Result.andThen,Oper.upon]
 | halt v w1=>simp
def AN{r:Option Nat}{P:Program}{o:Oper}{a:Act}{w:World}{ds:List Deferred}{N N':Act->World->Prop}{Q Q':Exit->Act->World->Prop}(hd:∀ a w,N a w->a.defers=[])(hN:∀ a w,N a w->N' (wd ds a) w)(hQ:∀ c w,Q (.panic c) a w->Q' (.panic c) (wd ds a) w)
  (hg:∀ a w,¬Q .outgrown a w) (h:o.wp P a w N Q):o.wpIn (fz r) 0 P (wd ds a) w N' Q':=by
 refine ⟨fun _ _=>trivial,?_⟩;have h1:=H8 (r:=r) hd hN hQ hg h
 by_cases hc:∃ c,o.op=.defer c
 ·obtain ⟨c,hc⟩:=hc;obtain ⟨v,w1,he⟩:=E7 hd h hc;have e1:(execOp a.eval o).run P w=.halt v w1:=by simp_all [execOp]
  rw[e1] at h1
  have e2:(o.semAt (fz r).round (wd ds a).eval).run P w=.halt v w1:=by
   cases r with
   | none=>exact e1
   | some l=>
    simp only[Oper.semAt,fz,hc];rw[Sem.run_bind];show Result.andThen ((resolve a.eval c o.type).run P w) _=_;rw[he];rfl
  rw[e2];exact h1
 have e2:o.semAt (fz r).round (wd ds a).eval=execOp a.eval o:=Oper.semAt_eq _ _ _ (fun c hh=>hc ⟨c,hh⟩);rw[e2];exact h1
theorem qY{r:Option Nat}{P:Program}{ops:Array Oper}{ds:List Deferred}{Q Q':Exit->Act->World->Prop}(rest2:List Oper)(hn:∀ a w,Q .normal (wd ds a) w->wpListIn (fz r) 0 P ops Q' rest2 (wd ds a) w)(hp:∀ c a w,Q (.panic c) (wd ds a) w->Q' (.panic c) (wd ds a) w):∀ (rest:List Oper) (a:Act) (w:World),wpList P ops (jc ds Q) rest a w->wpListIn (fz r) 0 P ops Q' (rest++rest2) (wd ds a) w
 | [],a,w,h=>hn a w h.2
 | o::rest,a,w,h=>by
  unfold wpList at h;rw[aaJ];unfold wpListIn;show if Region.wanted o (yielded ops a.tmps)=true then _ else _
  split at h
  ·rename_i hw;rw[aab hw];rcases h with h|⟨_,a1,w1,h⟩
   ·exact AN (fun a w=>um rest a w) (fun a w=>qY rest2 hn hp rest a w) (fun c w h=>hp c a w h.2) (fun a w h=>h) h
   exact h.elim
  rename_i hw;rw[aaa hw];exact ⟨fun _ _=>trivial,by rw[<-nL];exact qY rest2 hn hp rest _ w h⟩
def Bn{r:Option Nat}{P:Program}{ops:Array Oper}{ds:List Deferred}{Q:Exit->Act->World->Prop}(rest:List Oper)(a:Act)(w:World)(h:wpList P ops (jc ds Q) rest a w):wpListIn (fz r) 0 P ops Q rest (wd ds a) w:=by
 have:=qY (r:=r) (ds:=ds) (Q:=Q) (Q':=Q) (P:=P) (ops:=ops) [] (fun a w h=>h) (fun c a w h=>h) rest a w h
 rwa [aar] at this
theorem J0{ds:List Deferred}{Q:Exit->Act->World->Prop}(e:Exit)(a:Act)(w:World)(h:jc ds Q e a w):Q e (wd ds a) w:=by cases e <;> first|exact h.2|exact h.elim
theorem sh{P:Program}{md:Region.Mode}{ops:Array Oper}{q:Act->World->Prop}{S:Array Bool->World->Prop}(hq:∀ a w,q a w->a.defers=[]):∀ (f:Nat) (L:Array Bool) (a:Act) (w:World),tr P md ops q S f L a w->a.defers=[]
 | 0,_,a,w,h=>hq _ _ h.2
 | f+1,L,a,w,h=>by
  cases e:Region.ready md ops L with
  | nil=>exact hq _ _ (h.1 e)
  | cons i rs=>
   have h1:=h.2 i (by rw[e];simp);unfold wpOp at h1
   split at h1
   ·exact sh hq f _ _ _ h1.2
   split at h1
   ·rcases h1 with h1|⟨_,a1,w1,h1⟩
    ·exact BX (fun a w h=>sh hq f _ _ _ h.2) (fun e a w h=>by cases e <;> first|exact hq _ _ h|exact h.elim) (fun a w h=>h) h1
    exact h1.elim
   exact (lP _ _ _).symm.trans<|sh hq f _ _ _ h1.2
theorem rS{r:Option Nat}{P:Program}{md:Region.Mode}{ops:Array Oper}{ds:List Deferred}{q:Act->World->Prop}{S:Array Bool->World->Prop}{Q:Exit->Act->World->Prop}(hd:∀ a w,q a w->a.defers=[])(hq:∀ a w,q a w->Q .normal (wd ds a) w):
  ∀ (f:Nat) (L:Array Bool) (a:Act) (w:World),tr P md ops q S f L a w->wpAnyIn (fz r) 0 P md ops Q f L (wd ds a) w
 | 0,_,a,w,h=>⟨h.1,hq _ _ h.2⟩
 | f+1,L,a,w,h=>by
  refine ⟨fun h0=>hq _ _ (h.1 h0),fun i hi=>?_⟩;have h1:=h.2 i hi;unfold wpOp at h1;unfold wpOpIn
  split at h1
  ·rename_i e;simp only[e];exact rS hd hq f _ _ _ h1.2
  rename_i o e;simp only[e]
  split at h1
  ·rename_i hw;rw[aab (show Region.wanted o (yielded ops (wd ds a).tmps)=true from hw)];rcases h1 with h1|⟨_,a1,w1,h1⟩
   ·exact AN (fun a w h=>sh hd f _ _ _ h.2) (fun a w h=>rS hd hq f _ _ _ h.2) (fun c w h=>h.elim) (fun a w h=>h) h1
   exact h1.elim
  rename_i hw;rw[aaa (show ¬Region.wanted o (yielded ops (wd ds a).tmps)=true from hw)];exact ⟨fun _ _=>trivial,by rw[<-nL];exact rS hd hq f _ _ _ h1.2⟩
section code
variable {P:Program} {w0:World} {r:Option Nat} {ds:List Deferred} {Q:Exit->Act->World->Prop} {n:Nat} {l:Sl} {K:PH} {hs:List PH}
def cI{x y:Code}(h:WX P w0 r ds x (Exit.then (y.wpIn (fz r) 0 P Q) Q) n l K hs):WX P w0 r ds (.seq x y) Q n l K hs:=
 fun a w ha hw=>wpIn_seq (h a w ha hw)
def ey{id:Nat}{o:List Oper}(h:WL P w0 o.toArray (jc ds Q) o n l K hs):WX P w0 r ds (.region id o.toArray false) Q n l K hs:=
 fun a w ha hw=>wpIn_region_lit (Bn o a w (h a w ha hw))
def jy{id:Nat}{c:Code}(h:WX P w0 r ds c (Exit.inBlock id Q) n l K hs):WX P w0 r ds (.block id c) Q n l K hs:=
 fun a w ha hw=>wpIn_block (h a w ha hw)
def sX{id:Nat}(h:cW ds w0 Q (.exit id) n l K hs):WX P w0 r ds (.exit id) Q n l K hs:=
 fun a w ha hw=>wpIn_exit (h a w ha hw)
def jQ(h:cW ds w0 Q .ret n l K hs):WX P w0 r ds .ret Q n l K hs:=
 fun a w ha hw=>wpIn_ret (h a w ha hw)
def kX(h:cW ds w0 Q .normal n l K hs):WX P w0 r ds .skip Q n l K hs:=
 fun a w ha hw=>wpIn_skip (h a w ha hw)
def qn{n:Nat}{l:Sl}{a:Act}(h:Ag n l a){x:Operand}{v:Value}(hx:ev l x=some v):(wd ds a).eval x=v:=h.ev hx
def qc{c:Operand}{x y:Code}(hc:ev l c=some (.bool true))(h:WX P w0 r ds x Q n l K hs):WX P w0 r ds (.cond c x y) Q n l K hs:=
 fun a w ha hw=>wpIn_cond_true (qn ha hc) (h a w ha hw)
def qd{c:Operand}{x y:Code}(hc:ev l c=some (.bool false))(h:WX P w0 r ds y Q n l K hs):WX P w0 r ds (.cond c x y) Q n l K hs:=
 fun a w ha hw=>wpIn_cond_false (qn ha hc) (h a w ha hw)
def Mu{c:Operand}{x y:Code}{b:Bool}(hc:ev l c=some (.bool b))(h:b=true->WX P w0 r ds x Q n l K hs)(h':b=false->WX P w0 r ds y Q n l K hs):WX P w0 r ds (.cond c x y) Q n l K hs:=
 fun a w ha hw=>wpIn_cond_split (qn ha hc) (fun e=>h e a w ha hw) (fun e=>h' e a w ha hw)
def oc{c:Operand}{x y:Code}{b:Bool}{p:Prop}(hb:b=true↔p)(hc:ev l c=some (.bool b))(h:p->WX P w0 r ds x Q n l K hs)(h':¬p->WX P w0 r ds y Q n l K hs):WX P w0 r ds (.cond c x y) Q n l K hs:=
 Mu hc (fun e=>h (hb.1 e)) (fun e=>h' (fun hp=>by rw[hb.2 hp] at e;cases e))
def dc(h:cW ds w0 Q .normal n l K hs):WQ w0 (jc ds Q) .normal n l K hs:=fun a w ha hw=>⟨ha.defers,h a w ha hw⟩
def da{y:Code}{Q':Exit->Act->World->Prop}(h:WX P w0 r ds y Q n l K hs):cW ds w0 (Exit.then (y.wpIn (fz r) 0 P Q) Q') .normal n l K hs:=h
def kx{id:Nat}(h:cW ds w0 Q .normal n l K hs):cW ds w0 (Exit.inBlock id Q) .normal n l K hs:=h
def mT{id:Nat}{N:Act->World->Prop}(h:cW ds w0 Q (.exit id) n l K hs):cW ds w0 (Exit.then N Q) (.exit id) n l K hs:=h
def sQ{id:Nat}(h:cW ds w0 Q .normal n l K hs):cW ds w0 (Exit.inBlock id Q) (.exit id) n l K hs:=fun a w ha hw=>by
 simpa[Exit.inBlock] using h a w ha hw
def MF{id id':Nat}(hne:Nat.beq id' id=false)(h:cW ds w0 Q (.exit id') n l K hs):cW ds w0 (Exit.inBlock id Q) (.exit id') n l K hs:=fun a w ha hw=>by
 have:id'≠id:=abV hne;simpa[Exit.inBlock,this] using h a w ha hw
def oJ{N:Act->World->Prop}(h:cW ds w0 Q .ret n l K hs):cW ds w0 (Exit.then N Q) .ret n l K hs:=h
def oK{id:Nat}(h:cW ds w0 Q .ret n l K hs):cW ds w0 (Exit.inBlock id Q) .ret n l K hs:=h
def rW{σ:Type}{body:Code}(F:σ->Sl)(HK:σ->PH)(H:σ->List PH)(J:σ->Prop)(μ:σ->Nat)(x0:σ)(h0:J x0)(hF:jz l (F x0))(hK:K=HK x0)(hH:hs=H x0)
  (round:∀ x,J x->WX P w0 r ds body (Exit.then (fun a w=>∃ x',J x'/\μ x'<μ x/\(∃ a',a=wd ds a'/\Ag n (F x') a')/\a7 w0 w (HK x') (H x')) Q) n (F x) (HK x) (H x)):
  WX P w0 r ds (.loop body) Q n l K hs:=fun a w ha hw=>by
 subst hK;subst hH;refine wpIn_loop_ghost (fun m a w=>∃ x,J x/\μ x=m/\(∃ a',a=wd ds a'/\Ag n (F x) a')/\a7 w0 w (HK x) (H x)) (μ x0) ⟨x0,h0,I,⟨a,I,ha.sub hF⟩,hw⟩ ?_;rintro m a w ⟨x,hJ,rfl,⟨a',rfl,hA⟩,hS⟩;refine wpIn_mono (round x hJ a' w hA hS) ?_
 grind
def rR{σ:Type}{F:σ->Sl}{HK:σ->PH}{H:σ->List PH}{J:σ->Prop}{μ:σ->Nat}{x:σ}{Q':Exit->Act->World->Prop}(x':σ)(hF:jz l (F x'))(hK:K=HK x')(hH:hs=H x')
  (h1:J x') (h2:μ x'<μ x):cW ds w0 (Exit.then (fun a w=>∃ x',J x'/\μ x'<μ x/\(∃ a',a=wd ds a'/\Ag n (F x') a')/\a7 w0 w (HK x') (H x')) Q') .normal n l K hs:=fun a w ha hw=>by
 subst hK;subst hH;exact ⟨x',h1,h2,⟨a,I,ha.sub hF⟩,hw⟩
def n5{id:Nat}{o:List Oper}(A:List PH)(z:Nat)(plan:List Nat)(hA:∀ h∈A,h∈hs)(hm:P.follows .mixedOrders=true)(hp:(fu .any o.toArray plan (Array.replicate o.toArray.size false) && Nat.beq (eq plan) o.toArray.size)=true)
  (h:WA P w0 o.toArray (jc ds Q) K A z plan (Array.replicate o.toArray.size false) n l K hs):WX P w0 r ds (.region id o.toArray true) Q n l K hs:=by
 intro a w ha hw;simp only[aaH] at hp;refine wpIn_region_any hm ?_;have hlen:eq plan=o.toArray.size:=aaB hp.2;have hw':a7 w0 { w with drawn:=w.drawn+1 } K hs:=hw.drew
 have hc:eX .any o.toArray (Array.replicate o.toArray.size false):=by
  refine ⟨Nm,?_⟩
  grind [getD_replicate_false]
 have hh:=h hp.1 hc a { w with drawn:=w.drawn+1 } ha hw' (fun _=>er.ofMem hw' hA)
 grind [rS,wg,J0]
end code
def kY(D:Nat):Deferred:={ target:=.collected D,args:=#[] }
def fp(D:Nat):PH:=sg D (.deferred (some []))
theorem a7.putObj{w0 w:World}{K:PH}{hs:List PH}(s:a7 w0 w K hs){i b:Nat}{o:Obj}(hi:hs[i]?=some (sg b o))(o':Obj):a7 w0 (w.putObj b o') K (hs.set i (sg b o')):=by
 have hb:w.heap[b]?=some o:=s.own i _ hi b _ Nm;refine s.upd hi I I I Nm ?_ ?_ ?_
 ·intro x u hx;simp only[sg] at hx
  grind [World.putObj_heap_same]
 ·intro x hx hn;simp only[sg] at hn
  grind [World.putObj_heap_other]
 simp
def a7.dropLast{w0 w:World}{K x:PH}{hs:List PH}(s:a7 w0 w K (hs++[x])):a7 w0 w K hs:=(s.perm (abo x hs)).dropHead
def a7.putLast{w0 w:World}{K:PH}{hs:List PH}{b:Nat}{o:Obj}(s:a7 w0 w K (hs++[sg b o]))(o':Obj):a7 w0 (w.putObj b o') K (hs++[sg b o']):=by
 have:=s.putObj (i:=eq hs) (b:=b) (o:=o) Nm o'
 simp_all
theorem a7.last{w0 w:World}{K:PH}{hs:List PH}{b:Nat}{o:Obj}(s:a7 w0 w K (hs++[sg b o])):w.heap[b]?=some o:=s.own (eq hs) (sg b o) Nm b o Nm
def mu{P:Program}{w0:World}{f:FuncId}{fn:Func}{c:Code}{n:Nat}{args:List Value}{K:PH}{hs:List PH}{R:Value->PH->List PH->Prop}
  (hf:P.funcs[f]?=some fn) (hcal:iG P f=true) (hb:fn.body=some c) (hn:fn.ntmps=n) (hl:Nat.ble (eq args) n=true)
  (h:WX P w0 none [] c (bodyPostM (fz none) 0 P fn (fg w0 R)) n (params 0 args) K hs):Ct P w0 f args K hs R:=by
 refine ⟨hcal,fun w hw=>callsIn_wide.1 (callsIn_of_wp_marks (F:=fz none) (n:=0) hf hb trivial<|h { tmps:=args.toArray++Array.replicate (fn.ntmps-args.toArray.size) undef,defers:=[] } w ⟨?_,I,?_⟩ hw)⟩
 ·simp_all
 intro t v ht;obtain ⟨h1,h2⟩:=tv args 0 t v ht
 grind
section ret
variable {P:Program} {w0:World} {fn:Func} {R:Value->PH->List PH->Prop} {n:Nat} {l:Sl} {K:PH} {hs hs':List PH} {v x y:Value}
def CO{e:Exit}(he:e=.ret\/e=.normal)(hres:∀ a w,Ag n l a->a7 w0 w K hs->(results fn a.tmps).run P w=.ok v w)(h:R v K hs):cW [] w0 (bodyPostM (fz none) 0 P fn (fg w0 R)) e n l K hs:=by
 intro a w ha hw;rcases he with rfl|rfl <;> exact ⟨v,hres a w ha hw,v,K,hs,rfl,h,hw⟩
def Ly{e:Exit}(D:Nat)(hh:hs=hs'++[fp D])(he:e=.ret\/e=.normal)(hres:∀ a w,Ag n l a->a7 w0 w K hs'->(results fn a.tmps).run P w=.ok v w)(h:R v K hs'):cW [kY D] w0 (bodyPostM (fz none) 0 P fn (fg w0 R)) e n l K hs:=by
 subst hh;intro a w ha hw;have h1:a7 w0 (w.putObj D (.deferred none)) K hs':=(hw.putLast (.deferred none)).dropLast;have h2:=run_takeDeferred (P:=P) (hw.last);rcases he with rfl|rfl <;> exact ⟨Nm,.inl ⟨D,_,rfl,h2,v,hres a _ ha h1,v,K,hs',rfl,h,h1⟩⟩
def Dh(hr:fn.results=#[]){a:Act}{w:World}:(results fn a.tmps).run P w=.ok (.tuple #[]) w:=results_none hr _ _ _
def Mh{t:Nat}(hr:fn.results=#[.tmp t])(hv:look l t=some v){a:Act}(ha:Ag n l a){w:World}:(results fn a.tmps).run P w=.ok v w:=by
 have:=results_tmp hr a.tmps P w;rw[this];simp[ha.slot t v hv]
def vK(hr:fn.results=#[])(h:R (.tuple #[]) K hs):cW [] w0 (bodyPostM (fz none) 0 P fn (fg w0 R)) .ret n l K hs:=CO (.inl rfl) (fun _ _ _ _=>Dh hr) h
def vW(hr:fn.results=#[])(h:R (.tuple #[]) K hs):cW [] w0 (bodyPostM (fz none) 0 P fn (fg w0 R)) .normal n l K hs:=CO (.inr rfl) (fun _ _ _ _=>Dh hr) h
def Lz(D:Nat)(hh:hs=hs'++[fp D]){t:Nat}(hr:fn.results=#[.tmp t])(hv:look l t=some v)(h:R v K hs'):cW [kY D] w0 (bodyPostM (fz none) 0 P fn (fg w0 R)) .ret n l K hs:=Ly D hh (.inl rfl) (fun _ _ ha _=>Mh hr hv ha) h
end ret
def o8(P:Program)(w0:World)(L:Nat)(vs:List Value)(K:PH)(hs:List PH)(R:Value->PH->List PH->Prop):Prop:=∀ w,a7 w0 w K hs->∃ fn tmps assign body,(Instr.yield L vs.toArray).run P w=.ok (.round L fn tmps assign body) w/\RoundIn (fz none) 0 P L fn tmps assign body w (fg w0 R)
def wJ(P:Program)(w0:World)(f:Nat)(cap:List Value)(xs:List (List Value))(Rd:PH->List PH->Prop):Prop:=
 ∀ (L:Nat) (St:Nat->PH->List PH->Prop) (Sp:PH->List PH->Prop),(∀ i K hs,St i K hs->Rd K hs) ->
  (∀ i vs K hs,xs[i]?=some vs->St i K hs->o8 P w0 L vs K hs (fun v K' hs'=>(v=.bool true/\St (i+1) K' hs')\/(v=.bool false/\Sp K' hs'))) ->
  ∀ K hs,St 0 K hs->Ct P w0 f (.func (.yield L) #[] #[]::cap) K hs (fun _ K' hs'=>St (eq xs) K' hs'\/Sp K' hs')
section it
variable {P:Program} {T:bg} {w0:World} {r:Option Nat} {ds:List Deferred} {ops:Array Oper} {Q:Exit->Act->World->Prop} {rest rest':List Oper} {n:Nat} {l:Sl} {K:PH} {hs:List PH}
def wN{id:Nat}{o:List Oper}(h:gQ P w0 r ds o.toArray Q o n l K hs):WX P w0 r ds (.region id o.toArray false) Q n l K hs:=fun a w ha hw=>wpIn_region_lit (h a w ha hw)
def gQ.fin(h:WL P w0 ops (jc ds Q) rest n l K hs):gQ P w0 r ds ops Q rest n l K hs:=fun a w ha hw=>Bn rest a w (h a w ha hw)
def wE(P:Program)(r:Option Nat)(ops:Array Oper)(Q:Exit->Act->World->Prop)(rest2:List Oper):Exit->Act->World->Prop
 | .normal,a,w=>wpListIn (fz r) 0 P ops Q rest2 a w
 | _,_,_=>False
def gQ.cut(k:Nat)(h:WL P w0 ops (jc ds (wE P r ops Q (rest.drop k))) (rest.take k) n l K hs):gQ P w0 r ds ops Q rest n l K hs:=fun a w ha hw=>by
 have:=qY (r:=r) (Q:=wE P r ops Q (rest.drop k)) (Q':=Q) (rest.drop k) (fun a w h=>h) (fun c a w h=>h.elim) (rest.take k) a w (h a w ha hw)
 rwa [aaA] at this
def wD{rest2:List Oper}(h:gQ P w0 r ds ops Q rest2 n l K hs):WQ w0 (jc ds (wE P r ops Q rest2)) .normal n l K hs:=fun a w ha hw=>⟨ha.defers,h a w ha hw⟩
def DR(ops:Array Oper)(n:Nat)(rest:List Oper)(l:Sl):Option (Nat×Nat×List Value×List Oper):=
 match rest with
 | o::r=>match fo ops l o.guard,o.dst,o.op with
  | some true,some d,.call { callee:=.value f,args,.. }=>match Nat.blt d n,ev l f,args.toList.mapM (ev l) with
   | true,some (.func (.yield L) first captured),some vs=>match first.toList with
    | []=>some (d,L,vs,r)
    | _=>none
   | _,_,_=>none
  | _,_,_=>none
 | []=>none
def wL{d L:Nat}{vs:List Value}{R:Value->PH->List PH->Prop}(h0:DR ops n rest l=some (d,L,vs,rest'))(hc:o8 P w0 L vs K hs R)(hk:∀ v K' hs',R v K' hs'->gQ P w0 r ds ops Q rest' n ((d,v)::l) K' hs'):gQ P w0 r ds ops Q rest n l K hs:=by
 unfold DR at h0
 split at h0
 ·rename_i o rr
  split at h0
  ·rename_i d' f args ats hg hd hop
   split at h0
   ·rename_i L' first captured vs' hb hf hvs
    split at h0
    ·rename_i hfi;simp only[aae,aag] at h0;obtain ⟨rfl,rfl,rfl,rfl⟩:=h0;have hfi':first=#[]:=by cases first;simp_all
     subst hfi';intro a w ha hw;have h1:=fX ha hg;have h6:=vD ha _ _ hvs
     have h7:args.map a.eval=vs'.toArray:=by
      apply Array.ext'
      simpa using h6
     obtain ⟨fn,tmps,assign,body,hy,hR⟩:=hc w hw;unfold wpListIn;rw[aab (show Region.wanted o (yielded ops (wd ds a).tmps)=true from h1)];refine ⟨fun _ _=>trivial,?_⟩;have e1:o.semAt (fz r).round (wd ds a).eval=execOp a.eval o:=Oper.semAt_eq _ _ _ (fun c hh=>by rw[hop] at hh;cases hh)
     have e2:(execOp a.eval o).run P w=.ok (.round L' fn tmps assign body) w:=by
      simp only[execOp,hop];simp[resolve,h7,ha.ev hf,Deferred.ofValue,invoke,hy]
     rw[e1,e2];refine ⟨by simp[fz],RoundIn.mono (R:=fg w0 R) hR fun e w' he=>?_⟩;obtain ⟨v,K',hs',rfl,hr,hs2⟩:=he;simp only[<-nL,hd];exact hk v K' hs' hr _ w' (ha.put hb) hs2
    simp at h0
   simp at h0
  simp at h0
 simp at h0
def prm:List Nat->List Value->Sl->Sl
 | t::ts,v::vs,l=>prm ts vs ((t,v)::l)
 | _,_,l=>l
theorem Ag.prm:∀ (ts:List Nat) (vs:List Value) {l:Sl} {a:Act} (h:Ag n l a) (ht:∀ t∈ts,t<n),Ag n (prm ts vs l) { tmps:=(ts.zip vs).foldl (fun tmps (x:Nat×Value)=>tmps.setIfInBounds x.1 x.2) a.tmps,defers:=[] }
 | [],vs,l,a,h,_=>⟨by simpa using h.size,rfl,by simpa[En.prm] using h.slot⟩
 | t::ts,[],l,a,h,_=>⟨by simpa using h.size,rfl,by simpa[En.prm] using h.slot⟩
 | t::ts,v::vs,l,a,h,ht=>by
  have h1:=h.put (d:=t) (v:=v) (Nat.ble_eq_true_of_le (ht t Nm));have h2:=Ag.prm ts vs h1 (fun x hx=>ht x (by simp[hx]));simpa[En.prm,Act.put] using h2
def rQ(w0:World)(St:Nat->PH->List PH->Prop)(Jm:Code->PH->List PH->Prop)(t u:PH)(i:Nat):Exit->Act->World->Prop
 | .normal,_,w=>∃ K hs,a7 w0 w K (hs++[t,u])/\St (i+1) K hs
 | .ret,_,w=>∃ K hs,a7 w0 w K (hs++[t,u])/\Jm .ret K hs
 | .exit id,_,w=>∃ K hs,a7 w0 w K (hs++[t,u])/\Jm (.exit id) K hs
 | _,_,_=>False
def aQ(P:Program)(w0:World)(L n:Nat)(body:Code)(St:Nat->PH->List PH->Prop)(Jm:Code->PH->List PH->Prop)(t u:PH)(i:Nat)(a:Act)(w:World):Prop:=
 ∃ l' K' hs',Ag n l' a/\a7 w0 w K' (hs'++[t,u])/\∀ u,WX P w0 (some L) [] body (rQ w0 St Jm t u i) n l' K' (hs'++[t,u])
def va{n:Nat}{l:Sl}{a:Act}(h:Ag n l a):wd [] a=a:=by cases a;have:=h.defers;simp only at this;subst this;rfl
def wG{L:Nat}{body:Code}{St:Nat->PH->List PH->Prop}{Jm:Code->PH->List PH->Prop}{t u:PH}{i:Nat}{hs':List PH}(hh:hs=hs'++[t,u])(h:∀ u,WX P w0 (some L) [] body (rQ w0 St Jm t u i) n l K (hs'++[t,u])):
  cW [] w0 (Exit.then (aQ P w0 L n body St Jm t u i) (fun _ _ _=>False)) .normal n l K hs:=fun a w ha hw=>by
 subst hh;rw[va ha];exact ⟨l,K,hs',ha,hw,h⟩
def wx{St:Nat->PH->List PH->Prop}{Jm:Code->PH->List PH->Prop}{t u:PH}{i:Nat}{hs':List PH}(hh:hs=hs'++[t,u])(h:St (i+1) K hs'):cW [] w0 (rQ w0 St Jm t u i) .normal n l K hs:=fun a w ha hw=>by
 subst hh;exact ⟨K,hs',hw,h⟩
def Ds{St:Nat->PH->List PH->Prop}{Jm:Code->PH->List PH->Prop}{t u:PH}{i:Nat}{hs':List PH}(hh:hs=hs'++[t,u])(h:Jm .ret K hs'):cW [] w0 (rQ w0 St Jm t u i) .ret n l K hs:=fun a w ha hw=>by
 subst hh;exact ⟨K,hs',hw,h⟩
def fB{α:Type}(hs:List α)(t u:α):hs++[t,u]=(hs++[t])++[u]:=by simp
def DS{g:Operand}{ps:Array Tmp}{assign body:Code}{f:Nat}(cap:List Value)(xs:List (List Value))(Rd:PH->List PH->Prop)(hg:ev l g=some (.func (.func f) #[] cap.toArray))(it:wJ P w0 f cap xs Rd)(hcal:iG P f=true)
  (hps:∀ vs∈xs,eq vs=ps.size) (hpn:(ps.toList.all fun t=>Nat.blt t n)=true) (St:Nat->PH->List PH->Prop) (Jm:Code->PH->List PH->Prop) (h0:St 0 K hs) (hRd:∀ i K hs t u,St i K hs->Rd K (hs++[t,u]))
  (round:∀ L i vs K hs t u,xs[i]?=some vs->St i K hs->WX P w0 (some L) [] assign (Exit.then (aQ P w0 L n body St Jm t u i) (fun _ _ _=>False)) n (prm ps.toList vs l) K (hs++[t,u]))
  (done:∀ D K' hs',St (eq xs) K' hs'->cW (kY D::ds) w0 Q .normal n l K' (hs'++[fp D]))
  (stop:∀ D c K' hs',Jm c K' hs'->WX P w0 none (kY D::ds) c Q n l K' (hs'++[fp D])):WX P w0 none ds (.rangeFunc g ps assign body) Q n l K hs:=by
 intro a w ha hw;refine wpIn_rangeFunc ?_;intro fn _;obtain ⟨rec,hrec⟩:∃ rec:LoopState->Option Code->Loop,rec=fun st pe=>{ state:=st,pending:=pe,fn,tmps:=a.tmps,params:=ps,assign,body,defers:=w.heap.size }:=⟨_,rfl⟩;obtain ⟨D,hD⟩:=be w.heap.size;obtain ⟨W1,hW1⟩:∃ W1,(w.alloc (.deferred (some []))).alloc (.loop (rec .ready none))=W1:=⟨_,rfl⟩
 have hS1:a7 w0 W1 K (hs++[fp D,sg (D+1) (.loop (rec .ready none))]):=by
  have h1:=(hw.alloc (.deferred (some []))).alloc (.loop (rec .ready none));rw[World.size_alloc,<-hD,hW1] at h1;refine h1.perm ?_;rw[fB];exact ((abo _ _).symm.cons _).trans (abo _ _).symm
 refine ⟨D+1,[kY D],W1,{ target:=.fn (.func f) cap.toArray,args:=#[.func (.yield (D+1)) #[] #[]] },W1,f,#[.func (.yield (D+1)) #[] #[]]++cap.toArray,W1,?_,?_,?_,?_,fun h=>by simp[fz] at h,?_⟩
 ·rw[<-hW1,hrec,hD];exact run_enterLoop_outer _ _ _ _ _
 ·simp only[resolve,qn ha hg];simp[Deferred.ofValue]
  rfl
 ·intro f' _;trivial
 ·have hcal':=hcal;unfold iG at hcal';cases hfn:P.funcs[f]? with
  | none=>simp[hfn] at hcal'
  | some fn=>
   simp only[hfn,aaH,abO] at hcal';have hbn:¬fn.body=none:=fun e=>by simp[e] at hcal'
   simp_all [invoke,callFunc]
 have hargs:(#[Value.func (.yield (D+1)) #[] #[]]++cap.toArray:Array Value)=(Value.func (.yield (D+1)) #[] #[]::cap).toArray:=by simp
 rw[hargs]
 have key:=it (D+1) (fun i K hs=>∃ hs',hs=hs'++[fp D,sg (D+1) (.loop (rec .ready none))]/\St i K hs') (fun K hs=>∃ c hs',hs=hs'++[fp D,sg (D+1) (.loop (rec .done (some c)))]/\Jm c K hs')
  (by grind) ?_ K _ ⟨hs,rfl,h0⟩
 ·refine (callsIn_wide.2 (key.2 _ hS1)).mono ?_;rintro e w2 ⟨v,K2,hs2,rfl,hh,hw2⟩;rcases hh with ⟨hs',rfl,hst⟩|⟨c,hs',rfl,hjm⟩
  ·rw[fB] at hw2;have h1:=run_endLoop (P:=P) hw2.last (by rw[hrec];simp);rw[hrec] at h1;exact ⟨none,_,h1,done D K2 hs' hst a _ ha (hw2.putLast _).dropLast⟩
  rw[fB] at hw2;have h1:=run_endLoop (P:=P) hw2.last (by rw[hrec];simp);rw[hrec] at h1;exact ⟨some c,_,h1,stop D c K2 hs' hjm a _ ha (hw2.putLast _).dropLast⟩
 rintro i vs K1 hs1 hvs ⟨hs',rfl,hst⟩ w1 hw1;have hl1:w1.heap[D+1]?=some (.loop (rec .ready none)):=by rw[fB] at hw1;exact hw1.last
 have hsz:vs.toArray.size=(rec .ready none).params.size:=by grind
 have hy:=run_yield (P:=P) hl1 hsz;refine ⟨_,_,_,_,hy,roundIn_of_wpIn (F:=fz none) trivial ?_⟩
 have hA:Ag n (prm ps.toList vs l) { tmps:=((rec .ready none).params.zip vs.toArray).foldl (fun tmps (t,a)=>tmps.setIfInBounds t a) (rec .ready none).tmps,defers:=[] }:=by
  have h1:=Ag.prm ps.toList vs ha (fun t ht=>abU (aaV.1 hpn t ht));rw[hrec]
  have e1:(ps.zip vs.toArray).foldl (fun tmps (x:Nat×Value)=>tmps.setIfInBounds x.1 x.2) a.tmps=(ps.toList.zip vs).foldl (fun tmps (x:Nat×Value)=>tmps.setIfInBounds x.1 x.2) a.tmps:=by
   rw[<-Array.foldl_toList];simp
  simp_all
 have h2:=round (D+1) i vs K1 hs' (fp D) (sg (D+1) (.loop (rec .ready none))) hvs hst _ w1 hA hw1;rw[hrec] at h2 ⊢;refine wpIn_mono h2 ?_;intro e a3 w3 hq;cases e with
 | normal=>
  obtain ⟨l',K',hs3,hA3,hS3,hb⟩:=hq;rw[fB] at hS3;refine ⟨_,run_beginRound hS3.last I,?_⟩;have hS4:=hS3.putLast (.loop { rec .ready none with state:=.busy });rw[hrec] at hS4;have h5:=hb _ a3 _ hA3 (by rw[fB];exact hS4);rw[va hA3] at h5;refine wpIn_mono h5 ?_;intro e a4 w4 hq4;cases e with
  | normal=>
   obtain ⟨K5,hs5,hS5,hst5⟩:=hq4;rw[fB] at hS5;refine ⟨_,_,run_endRound none hS5.last,_,K5,_,I,.inl ⟨I,hs5,I,hst5⟩,?_⟩;rw[fB];exact hS5.putLast _
  | ret=>
   obtain ⟨K5,hs5,hS5,hst5⟩:=hq4;rw[fB] at hS5;refine ⟨_,_,run_endRound (some .ret) hS5.last,_,K5,_,I,.inr ⟨I,.ret,hs5,I,hst5⟩,?_⟩;rw[fB];exact hS5.putLast _
  | exit id=>
   obtain ⟨K5,hs5,hS5,hst5⟩:=hq4;rw[fB] at hS5;refine ⟨_,_,run_endRound (some (.exit id)) hS5.last,_,K5,_,I,.inr ⟨I,.exit id,hs5,I,hst5⟩,?_⟩;rw[fB];exact hS5.putLast _
  | goto l=>exact hq4.elim
  | panic ch=>exact hq4.elim
  | outgrown=>exact hq4.elim
 | exit id=>exact hq.elim
 | goto l=>exact hq.elim
 | ret=>exact hq.elim
 | panic ch=>exact hq.elim
 | outgrown=>exact hq.elim
end it
end
section
attribute [local irreducible] Code.wp wpList Calls
def fk{κ:Type}[DecidableEq κ](k:κ):List (κ×Value)->Nat->Option (Nat×Value)
 | [],_=>none
 | (k',v)::m,i=>if k=k' then some (i,v) else fk k m (i+1)
structure gM (P:Program) (kt:Nat) {κ:Type} [DecidableEq κ] (enc:κ->Value):Prop where
 chk:∀ e k w,(Instr.checkKey e 10000 kt (enc k)).run P w=.ok () w
 fnd:∀ (k:κ) (es:List MapEntry) (m:List (κ×Value)) w,es.map (fun e=>(e.key,e.val))=m.map (fun x=>(enc x.1,x.2))->(Instr.findKey kt (enc k) es).run P w=.ok (fk k m 0) w
 sam:∀ k,Instr.sameBits 10000 (enc k) (enc k)=true
theorem Cu{P:Program}{kt:Nat}{d:TypeDesc}{κ:Type}[DecidableEq κ]{enc:κ->Value}(h:∀ a b,Instr.sameNow d (enc a) (enc b)=some (decide (a=b)))(k:κ):∀ (es:List MapEntry) (m:List (κ×Value)) (i:Nat),
  es.map (fun e=>(e.key,e.val))=m.map (fun x=>(enc x.1,x.2))->Instr.findNow d (enc k) es i=some (fk k m i)
 | [],[],i,_=>rfl
 | [],_::_,i,h0=>by simp at h0
 | _::_,[],i,h0=>by simp at h0
 | e::es,(k',v)::m,i,h0=>by
  simp only[aaq,List.cons.injEq,aag] at h0;obtain ⟨⟨h1,h2⟩,h3⟩:=h0;simp only[Instr.findNow,h1,h,fk]
  by_cases hk:k=k'
  ·simp[hk,h2]
  simp[hk,Cu (P:=P) (kt:=kt) h k es m (i+1) h3]
def gM.ofNow{P:Program}{kt:Nat}{d:TypeDesc}{κ:Type}[DecidableEq κ]{enc:κ->Value}(hu:P.underlying kt=some d)(h:∀ a b,Instr.sameNow d (enc a) (enc b)=some (decide (a=b)))
  (hc:∀ e k w,(Instr.checkKey e 10000 kt (enc k)).run P w=.ok () w) (hs:∀ k,Instr.sameBits 10000 (enc k) (enc k)=true):gM P kt enc:=
 ⟨hc,fun k es m w h0=>by unfold Instr.findKey;rw[Sem.run_bind,run_underlying hu];simp[Result.andThen,Cu (P:=P) (kt:=kt) h k es m 0 h0],hs⟩
def Cf{P:Program}{kt:Nat}{kk:IntKind}(hu:P.underlying kt=some (.int kk)):gM P kt (κ:=Int) (fun n=>.int kk n):=
 gM.ofNow hu (fun a b=>by simp only[Instr.sameNow,if_true];rfl) (fun e k w=>by
  rw[show (10000:Nat)=9999+1 from rfl];unfold Instr.checkKey;rw[Sem.run_bind,run_underlying hu]
  rfl) (fun k=>by simp[Instr.sameBits])
def dX{κ ν:Type}(enc:κ->Value)(encv:ν->Value)(h:PH)(b:Nat)(m:List (κ×ν)):Prop:=
 ∃ es clock,h=sg b (.map es clock)/\es.toList.map (fun e=>(e.key,e.val))=m.map (fun x=>(enc x.1,encv x.2))/\(es.toList.map (·.born)).Pairwise (· < ·)/\∀ e∈es.toList,e.born<clock
def a8{κ ν:Type}[DecidableEq κ](k:κ):List (κ×ν)->Option ν
 | []=>none
 | (k',v)::m=>if k=k' then some v else a8 k m
def cj{κ ν:Type}[DecidableEq κ](k:κ)(v:ν):List (κ×ν)->List (κ×ν)
 | []=>[(k,v)]
 | (k',v')::m=>if k=k' then (k,v)::m else (k',v')::cj k v m
def dv{κ ν:Type}[DecidableEq κ](k:κ):List (κ×ν)->List (κ×ν)
 | []=>[]
 | (k',v')::m=>if k=k' then m else (k',v')::dv k m
theorem kB{κ ν:Type}[DecidableEq κ](k j:κ)(v:ν):∀ m:List (κ×ν),a8 j (cj k v m)=if j=k then some v else a8 j m
 | []=>by rfl
 | (k',v')::m=>by
  have ih:=kB k j v m
  by_cases h:k=k'
  ·subst h
   by_cases hj:j=k <;> simp[cj,a8,hj]
  by_cases hj:j=k'
  ·subst hj;have:¬j=k:=fun e=>h e.symm;simp[cj,a8,h,this]
  simp[cj,a8,h,hj,ih]
theorem pj{κ ν:Type}[DecidableEq κ](k:κ)(v:ν):∀ m:List (κ×ν),eq (cj k v m)=if (a8 k m).isSome then eq m else eq m+1
 | []=>by rfl
 | (k',v')::m=>by
  have ih:=pj k v m
  grind [cj,a8]
theorem qM{κ ν:Type}[DecidableEq κ](k:κ)(v:ν):∀ m:List (κ×ν),(cj k v m).map (·.1)=if (a8 k m).isSome then m.map (·.1) else m.map (·.1)++[k]
 | []=>by rfl
 | (k',v')::m=>by
  have ih:=qM k v m
  grind [cj,a8]
theorem f8{κ ν:Type}[DecidableEq κ]{k:κ}{v:ν}:∀ {m:List (κ×ν)},a8 k m=some v->(k,v)∈m
 | [],h=>by simp[a8] at h
 | (k',v')::m,h=>by
  simp only[a8] at h
  split at h
  ·rename_i e;subst e;simp only[aae] at h;subst h;simp
  exact aa4 _<|f8 h
theorem fQ{κ ν:Type}[DecidableEq κ]{k:κ}:∀ {m:List (κ×ν)},a8 k m=none↔k∉m.map (·.1)
 | []=>by simp[a8]
 | (k',v')::m=>by
  have ih:=fQ (k:=k) (m:=m)
  by_cases h:k=k' <;> simp_all [a8]
theorem vC{κ ν:Type}[DecidableEq κ]{encv:ν->Value}(k:κ):∀ (m:List (κ×ν)) (i:Nat),(fk k (m.map fun x=>(x.1,encv x.2)) i).map (·.2)=(a8 k m).map encv
 | [],i=>rfl
 | (k',v)::m,i=>by
  by_cases h:k=k'
  ·simp[fk,a8,h]
  simp[fk,a8,h,vC k m (i+1)]
theorem nD{κ:Type}[DecidableEq κ](k:κ):∀ (m:List (κ×Value)) (i:Nat),fk k m i=(fk k m 0).map fun x=>(i+x.1,x.2)
 | [],i=>rfl
 | (k',v)::m,i=>by
  by_cases h:k=k'
  ·simp[fk,h]
  simp only[fk,h,if_false];rw[nD k m (i+1),nD k m (0+1)];cases fk k m 0 with
  | none=>rfl
  | some x=>simp;omega
def dX.empty{κ ν:Type}{enc:κ->Value}{encv:ν->Value}(b c:Nat):dX (κ:=κ) (ν:=ν) enc encv (sg b (.map #[] c)) b []:=⟨#[],c,rfl,rfl,Nm,Nm⟩
section look
variable {κ ν:Type} [DecidableEq κ] {enc:κ->Value} {encv:ν->Value} {P:Program} {h:PH} {b:Nat} {m:List (κ×ν)}
def oT(ok:Bool)(v:Value)(is:Bool):Value:=cond ok (.tuple #[v,.bool is]) v
theorem dX.map(hm:dX enc encv h b m):∃ es clock,h=sg b (.map es clock)/\es.toList.map (fun e=>(e.key,e.val))=(m.map fun x=>(x.1,encv x.2)).map (fun x=>(enc x.1,x.2)):=by
 obtain ⟨es,c,h1,h2,_⟩:=hm;exact ⟨es,c,h1,by rw[h2];simp⟩
def jX{w:World}{es:Array MapEntry}{c:Nat}(h:w.heap[b]?=some (.map es c)):(getObj b).run P w=.ok (.map es c) w:=by simp[getObj,Sem.run,h]
def tG{t kt et:Nat}{z:Value}(hu:P.underlying t=some (.map kt et))(hK:gM P kt enc)(hz:(P.info? et).bind (·.zero)=some z)(hm:dX enc encv h b m){w:World}(hw:∀ b o,h b=some o->w.heap[b]?=some o)(k:κ)(ok:Bool):
  (Instr.lookup t (.map (some b)) (enc k) ok).run P w=.ok (oT ok (match a8 k m with|some v=>encv v|none=>z) (a8 k m).isSome) w:=by
 obtain ⟨es,c,rfl,h2⟩:=hm.map;have hb:=hw b (.map es c) Nm;have hf:=hK.fnd k es.toList _ w h2;have hg:=vC (encv:=encv) k m 0;obtain ⟨i,hi,hz'⟩:=acg.1 hz;unfold Instr.lookup;simp only[Sem.run_bind,run_underlying hu,Result.andThen,jX hb,Sem.run_pure,hK.chk,hf];cases e:fk k (m.map fun x=>(x.1,encv x.2)) 0 with
 | none=>
  rw[e] at hg;have hn:a8 k m=none:=by cases h3:a8 k m with|none=>rfl|some v=>simp[h3] at hg
  simp only[hn];have:(zeroValue et).run P w=.ok z w:=by simp[zeroValue,typeInfo,hi,hz']
  rw[Sem.run_bind,this];cases ok <;> rfl
 | some x=>
  rw[e] at hg
  obtain ⟨v,hv,hx⟩:∃ v,a8 k m=some v/\x.2=encv v:=by
   cases h3:a8 k m with
   | none=>simp[h3] at hg
   | some v=>simp[h3] at hg;exact ⟨v,I,hg⟩
  simp only[hv,hx];cases ok <;> rfl
def Ep{t kt et:Nat}{z:Value}(hu:P.underlying t=some (.map kt et))(hK:gM P kt enc)(hz:(P.info? et).bind (·.zero)=some z){w:World}(k:κ)(ok:Bool):
  (Instr.lookup t (.map none) (enc k) ok).run P w=.ok (oT ok z false) w:=by
 have hf:=hK.fnd k [] [] w rfl;obtain ⟨i,hi,hz'⟩:=acg.1 hz;unfold Instr.lookup;simp only[Sem.run_bind,run_underlying hu,Result.andThen,Sem.run_pure,hK.chk,show (#[]:Array MapEntry).toList=[] from rfl,hf,fk];have:(zeroValue et).run P w=.ok z w:=by simp[zeroValue,typeInfo,hi,hz']
 rw[this];cases ok <;> rfl
def i6(k v:Value)(c:Nat):Option (Nat×Value)->List MapEntry->List MapEntry
 | some (i,_),es=>es.modify i fun e=>{ e with key:=k,val:=v }
 | none,es=>es++[{ key:=k,val:=v,born:=c }]
theorem uC(k:κ)(v:ν)(c:Nat):∀ (es:List MapEntry) (m:List (κ×ν)),es.map (fun e=>(e.key,e.val))=m.map (fun x=>(enc x.1,encv x.2)) ->
  (i6 (enc k) (encv v) c (fk k (m.map fun x=>(x.1,encv x.2)) 0) es).map (fun e=>(e.key,e.val))=(cj k v m).map (fun x=>(enc x.1,encv x.2))
 | [],[],_=>rfl
 | [],_::_,h0=>by simp at h0
 | _::_,[],h0=>by simp at h0
 | e::es,(k',v')::m,h0=>by
  simp only[aaq,List.cons.injEq,aag] at h0;obtain ⟨⟨h1,h2⟩,h3⟩:=h0;have ih:=uC k v c es m h3
  by_cases hk:k=k'
  ·simp[fk,cj,hk,i6,h3]
  simp only[aaq,fk,cj,hk,if_false];rw[nD];cases hf:fk k (m.map fun x=>(x.1,encv x.2)) 0 with
  | none=>
   simp_all [i6]
  | some x=>
   grind [i6]
def zg(k v:Value)(c:Nat)(f:Option (Nat×Value))(es:List MapEntry)(h:(es.map (·.born)).Pairwise (· < ·))(hc:∀ e∈es,e.born<c):
  ((i6 k v c f es).map (·.born)).Pairwise (· < ·)/\∀ e∈i6 k v c f es,e.born<(match f with|some _=>c|none=>c+1):=by
 cases f with
 | none=>
  refine ⟨?_,?_⟩
  ·simp only[i6,aaX,aaq,List.map_nil]
   grind
  intro e he;simp only[i6,aaj,aaz] at he
  grind
 | some x=>
  obtain ⟨i,x⟩:=x
  have e1:(es.modify i fun e=>{ e with key:=k,val:=v }).map (·.born)=es.map (·.born):=by
   clear h hc
   induction es generalizing i with
   | nil=>simp
   | cons e es ih=>
    grind
  refine ⟨by simp only[i6];rw[e1];exact h,?_⟩;intro e he;simp only[i6] at he;have:e.born∈(es.modify i fun e=>{ e with key:=k,val:=v }).map (·.born):=aap.2 ⟨e,he,rfl⟩
  grind
def Cv{es:List MapEntry}{m:List (κ×Value)}(k:κ){i:Nat}{v:Value}(h0:es.map (fun e=>(e.key,e.val))=m.map (fun x=>(enc x.1,x.2)))(hf:fk k m 0=some (i,v)):(es[i]?).map (·.key)=some (enc k):=by
 induction m generalizing es i v with
 | nil=>simp[fk] at hf
 | cons x m ih=>
  obtain ⟨k',v'⟩:=x;cases es with
  | nil=>simp at h0
  | cons e es=>
   simp only[aaq,List.cons.injEq,aag] at h0;obtain ⟨⟨h1,h2⟩,h3⟩:=h0
   by_cases hk:k=k'
   ·simp only[fk,hk,if_true,aae,aag] at hf
    grind
   simp only[fk,hk,if_false] at hf;rw[nD] at hf;cases hf2:fk k m 0 with
   | none=>simp[hf2] at hf
   | some y=>
    grind
def Ey{w0:World}{K:PH}{hs:List PH}{t kt et i:Nat}(hu:P.underlying t=some (.map kt et))(hK:gM P kt enc)(hm:dX enc encv h b m){w:World}(s:a7 w0 w K hs)(hi:hs[i]?=some h)(k:κ)(v:ν):
  ∃ h' w',dX enc encv h' b (cj k v m)/\(Instr.mapUpdate t (.map (some b)) (enc k) (encv v)).run P w=.ok () w'/\a7 w0 w' K (hs.set i h'):=by
 obtain ⟨es,c,rfl,h2,h3,h4⟩:=hm;have h2':es.toList.map (fun e=>(e.key,e.val))=(m.map fun x=>(x.1,encv x.2)).map (fun x=>(enc x.1,x.2)):=by rw[h2];simp
 have hb:w.heap[b]?=some (.map es c):=s.own i _ hi b _ Nm;have hf:=hK.fnd k es.toList _ w h2';have e1:=uC (enc:=enc) (encv:=encv) k v c es.toList m h2;have e2:=zg (enc k) (encv v) c (fk k (m.map fun x=>(x.1,encv x.2)) 0) es.toList h3 h4;have hset:∀ o:Obj,(setObj b o).run P w=.ok () (w.putObj b o):=fun o=>by simp[setObj,Sem.run,hb,World.putObj]
 unfold Instr.mapUpdate;simp only[Sem.run_bind,run_underlying hu,Result.andThen,jX hb,Sem.run_pure,hK.chk,hf];cases hk:fk k (m.map fun x=>(x.1,encv x.2)) 0 with
 | none=>
  rw[hk] at e1 e2;simp only[i6] at e1 e2;refine ⟨sg b (.map (es.push { key:=enc k,val:=encv v,born:=c }) (c+1)),_,⟨_,_,I,by rw[acl];exact e1,by rw[acl];exact e2.1,by rw[acl];exact e2.2⟩,hset _,s.putObj hi _⟩
 | some x=>
  obtain ⟨j,x⟩:=x;rw[hk] at e1 e2;simp only[i6] at e1 e2;have hkey:=Cv (enc:=enc) k h2' hk;have hkey':((es[j]?).map (·.key)).getD (enc k)=enc k:=by rw[<-aci,hkey];rfl
  have hst:(Instr.keyThatStays (enc k) (enc k)).run P w=.ok (enc k) w:=by unfold Instr.keyThatStays;simp[hK.sam]
  refine ⟨sg b (.map (es.modify j fun e=>{ e with key:=enc k,val:=encv v }) c),w.putObj b (.map (es.modify j fun e=>{ e with key:=enc k,val:=encv v }) c),⟨_,_,I,by rw[abQ];exact e1,by rw[abQ];exact e2.1,by rw[abQ];exact e2.2⟩,?_,s.putObj hi _⟩
  simp_all
def yp{t kt et ty:Nat}(hu:P.underlying t=some (.map kt et))(hm:dX enc encv h b m){w:World}(hw:∀ b o,h b=some o->w.heap[b]?=some o):(Builtin.len_ #[t] ty #[.map (some b)]).run P w=.ok (.int .i64 (eq m)) w:=by
 obtain ⟨es,c,rfl,h2,_⟩:=hm;have hb:=hw b (.map es c) Nm;have hl:es.size=eq m:=by have:=congrArg List.length h2;simpa using this
 unfold Builtin.len_;simp[Sem.run_bind,run_underlying hu,Result.andThen,jX hb,hl,goInt]
end look
section rules
variable {P:Program} {T:bg} {w0:World} {ops:Array Oper} {Q:Exit->Act->World->Prop} {rest rest':List Oper} {n:Nat} {l l':Sl} {K:PH} {hs:List PH}
variable {κ ν:Type} [DecidableEq κ] {enc:κ->Value} {encv:ν->Value} {h:PH} {b:Nat} {m:List (κ×ν)}
def iT[hT:bc P T](k:Nat){d:Nat}{o:Oper}{v:Value}(h0:gj T ops n k rest l=some (d,o,rest',l'))(hv:∀ a w,Ag n l' a->a7 w0 w K hs->(execOp a.eval o).run P w=.ok (.value v) w)
  (hk:WL P w0 ops Q rest' n ((d,v)::l') K hs):WL P w0 ops Q rest n l K hs:=by
 unfold gj at h0
 split at h0
 ·rename_i o' r l2 ho
  split at h0
  ·rename_i d' hd;cases hb:Nat.blt d' n with
   | false=>simp[hb] at h0
   | true=>
    simp only[hb,cond_true,aae,aag] at h0;obtain ⟨rfl,rfl,rfl,rfl⟩:=h0;exact WL.at' ho fun hg=>WL.val (R:=fun u K' hs'=>u=v/\K'=K/\hs'=hs) hd hb hg (fun A w ha hw=>⟨v,w,K,hs,hv A w ha hw,hw,I,I,I⟩) (fun u K' hs' ⟨h1,h2,h3⟩=>by subst h1;subst h2;subst h3;exact hk)
  simp at h0
 simp at h0
def sw(T:bg)(ops:Array Oper)(n k:Nat)(rest:List Oper)(l:Sl):Option (Oper×List Oper×Sl):=
 match d8 T ops n k rest l with
 | some (o,r,l')=>match o.dst with
  | none=>some (o,r,l')
  | some _=>none
 | none=>none
def DT[hT:bc P T](k:Nat){o:Oper}{R:PH->List PH->Prop}(h0:sw T ops n k rest l=some (o,rest',l'))(hv:∀ a w,Ag n l' a->a7 w0 w K hs->∃ w' K' hs',(execOp a.eval o).run P w=.ok .skip w'/\a7 w0 w' K' hs'/\R K' hs')
  (hk:∀ K' hs',R K' hs'->WL P w0 ops Q rest' n l' K' hs'):WL P w0 ops Q rest n l K hs:=by
 unfold sw at h0
 split at h0
 ·rename_i o' r l2 ho
  split at h0
  ·rename_i hd;simp only[aae,aag] at h0;obtain ⟨rfl,rfl,rfl⟩:=h0;refine WL.at' ho fun hg=>?_;intro a w ha hw;obtain ⟨w',K',hs',hrun,hw',hR⟩:=hv a w ha hw;have h1:=fX ha hg;unfold wpList;rw[aab h1];refine .inl ?_;unfold Oper.wp;rw[hrun];simp only[Oper.upon,hd,Act.put];exact hk K' hs' hR _ _ ha hw'
  simp at h0
 simp at h0
def ql[hT:bc P T](k:Nat){d:Nat}{o:Oper}{R:Value->PH->List PH->Prop}(h0:gj T ops n k rest l=some (d,o,rest',l'))(hv:∀ a w,Ag n l' a->a7 w0 w K hs->∃ v w' K' hs',(execOp a.eval o).run P w=.ok (.value v) w'/\a7 w0 w' K' hs'/\R v K' hs')
  (hk:∀ v K' hs',R v K' hs'->WL P w0 ops Q rest' n ((d,v)::l') K' hs'):WL P w0 ops Q rest n l K hs:=by
 unfold gj at h0
 split at h0
 ·rename_i o' r l2 ho
  split at h0
  ·rename_i d' hd;cases hb:Nat.blt d' n with
   | false=>simp[hb] at h0
   | true=>
    simp only[hb,cond_true,aae,aag] at h0;obtain ⟨rfl,rfl,rfl,rfl⟩:=h0;exact WL.at' ho fun hg=>WL.val hd hb hg hv hk
  simp at h0
 simp at h0
def a7.inn{w:World}(s:a7 w0 w K hs)(hm:In K hs h):∀ b o,h b=some o->w.heap[b]?=some o:=fun b o hb=>s.block hm hb
def vP(T:bg)(ops:Array Oper)(n k:Nat)(rest:List Oper)(l:Sl):Option (Nat×Oper×List Oper×Sl):=
 match gj T ops n k rest l with
 | some (d,o,r,l')=>match o.op with
  | .makeMap _ none=>some (d,o,r,l')
  | _=>none
 | none=>none
def Fv{k d:Nat}{o:Oper}(h:vP T ops n k rest l=some (d,o,rest',l')):gj T ops n k rest l=some (d,o,rest',l')/\∃ t,o.op=.makeMap t none:=by
 unfold vP at h
 grind
def sU[hT:bc P T](k:Nat){d:Nat}{o:Oper}(h0:vP T ops n k rest l=some (d,o,rest',l'))(hk:∀ b,WL P w0 ops Q rest' n ((d,.map (some b))::l') K (sg b (.map #[] 0)::hs)):WL P w0 ops Q rest n l K hs:=by
 obtain ⟨h1,t,hop⟩:=Fv h0;refine ql k (R:=fun v K' hs'=>∃ b,v=.map (some b)/\K'=K/\hs'=sg b (.map #[] 0)::hs) h1 (fun a w ha hw=>⟨.map (some w.heap.size),w.alloc (.map #[] 0),K,_,?_,hw.alloc _,w.heap.size,I,I,I⟩) ?_
 ·simp_all [execOp,Instr.makeMap]
 rintro v K' hs' ⟨b,rfl,rfl,rfl⟩;exact hk b
def sG(T:bg)(ops:Array Oper)(n k:Nat)(rest:List Oper)(l:Sl):Option (Nat×Oper×Nat×Value×Value×Bool×List Oper×Sl):=
 match gj T ops n k rest l with
 | some (d,o,r,l')=>match o.op with
  | .lookup t x y ok=>match ev l' x,ev l' y with
   | some u,some v=>some (d,o,t,u,v,ok,r,l')
   | _,_=>none
  | _=>none
 | none=>none
def y8{k d t:Nat}{o:Oper}{u v:Value}{ok:Bool}(h:sG T ops n k rest l=some (d,o,t,u,v,ok,rest',l')):gj T ops n k rest l=some (d,o,rest',l')/\∃ x y,o.op=.lookup t x y ok/\ev l' x=some u/\ev l' y=some v:=by
 unfold sG at h
 grind
def il[hT:bc P T](k:Nat){d t kt et:Nat}{o:Oper}{z v:Value}{ok:Bool}(j:κ)(h0:sG T ops n k rest l=some (d,o,t,.map (some b),v,ok,rest',l'))(hu:P.underlying t=some (.map kt et))(hz:(P.info? et).bind (·.zero)=some z)(hK:gM P kt enc)(hv:v=enc j)(hin:In K hs h)(hm:dX enc encv h b m)
  (hk:WL P w0 ops Q rest' n ((d,oT ok (match a8 j m with|some v=>encv v|none=>z) (a8 j m).isSome)::l') K hs):WL P w0 ops Q rest n l K hs:=by
 obtain ⟨h1,x,y,hop,hx,hy⟩:=y8 h0;subst hv;refine iT k h1 (fun a w ha hw=>?_) hk;have:=tG (P:=P) hu hK hz hm (hw.inn hin) j ok;simp only[execOp,hop,ha.ev hx,ha.ev hy];simp[this]
def D4[hT:bc P T](k:Nat){d t kt et:Nat}{o:Oper}{z v:Value}{ok:Bool}(j:κ)(h0:sG T ops n k rest l=some (d,o,t,.map none,v,ok,rest',l'))(hu:P.underlying t=some (.map kt et))(hz:(P.info? et).bind (·.zero)=some z)(hK:gM P kt enc)(hv:v=enc j)
  (hk:WL P w0 ops Q rest' n ((d,oT ok z false)::l') K hs):WL P w0 ops Q rest n l K hs:=by
 obtain ⟨h1,x,y,hop,hx,hy⟩:=y8 h0;subst hv;refine iT k h1 (fun a w ha hw=>?_) hk;have:=Ep (P:=P) (w:=w) hu hK hz j ok;simp only[execOp,hop,ha.ev hx,ha.ev hy];simp[this]
def sB(T:bg)(ops:Array Oper)(n k:Nat)(rest:List Oper)(l:Sl):Option (Oper×Nat×Value×Value×Value×List Oper×Sl):=
 match sw T ops n k rest l with
 | some (o,r,l')=>match o.op with
  | .mapUpdate t x y z=>match ev l' x,ev l' y,ev l' z with
   | some u,some v,some w=>some (o,t,u,v,w,r,l')
   | _,_,_=>none
  | .insert t x y z=>match ev l' x,ev l' y,ev l' z with
   | some u,some v,some w=>some (o,t,u,v,w,r,l')
   | _,_,_=>none
  | _=>none
 | none=>none
def yZ{k t:Nat}{o:Oper}{u v y:Value}(h:sB T ops n k rest l=some (o,t,u,v,y,rest',l')):sw T ops n k rest l=some (o,rest',l')/\∀ a,Ag n l' a->execOp a.eval o=(do Instr.mapUpdate t u v y;pure .skip):=by
 unfold sB at h
 split at h
 ·rename_i o' r l2 ho
  split at h
  ·rename_i t' x1 x2 x3 hop
   split at h
   ·rename_i u' v' y' h1 h2 h3;simp only[aae,aag] at h;obtain ⟨rfl,rfl,rfl,rfl,rfl,rfl,rfl⟩:=h;exact ⟨ho,fun a ha=>by simp only[execOp,hop,ha.ev h1,ha.ev h2,ha.ev h3]⟩
   simp at h
  ·rename_i t' x1 x2 x3 hop
   split at h
   ·rename_i u' v' y' h1 h2 h3;simp only[aae,aag] at h;obtain ⟨rfl,rfl,rfl,rfl,rfl,rfl,rfl⟩:=h;exact ⟨ho,fun a ha=>by simp only[execOp,hop,ha.ev h1,ha.ev h2,ha.ev h3]⟩
   simp at h
  simp at h
 simp at h
def sT[hT:bc P T](k i:Nat){t kt et:Nat}{o:Oper}{v y:Value}(j:κ)(x:ν)(h0:sB T ops n k rest l=some (o,t,.map (some b),v,y,rest',l'))(hi:hs[i]?=some h)(hu:P.underlying t=some (.map kt et))(hK:gM P kt enc)(hv:v=enc j)(hy:y=encv x)(hm:dX enc encv h b m)
  (hk:∀ h',dX enc encv h' b (cj j x m)->WL P w0 ops Q rest' n l' K (hs.set i h')):WL P w0 ops Q rest n l K hs:=by
 obtain ⟨h1,h2⟩:=yZ h0;subst hv hy;refine DT k (R:=fun K' hs'=>∃ h',dX enc encv h' b (cj j x m)/\K'=K/\hs'=hs.set i h') h1 (fun a w ha hw=>?_) ?_
 ·obtain ⟨h',w',g1,g2,g3⟩:=Ey (P:=P) (t:=t) (et:=et) (i:=i) hu hK hm hw hi j x;refine ⟨w',K,_,?_,g3,h',g1,I,I⟩;rw[h2 a ha,Sem.run_bind,g2]
  rfl
 rintro K' hs' ⟨h',g1,rfl,rfl⟩;exact hk h' g1
def Dl(T:bg)(ops:Array Oper)(n k:Nat)(rest:List Oper)(l:Sl):Option (Nat×Oper×Nat×Value×List Oper×Sl):=
 match gj T ops n k rest l with
 | some (d,o,r,l')=>match o.op with
  | .call { callee:=.builtin .len,args,argTypes }=>match args.toList,argTypes.toList with
   | [x],[t]=>match ev l' x with
    | some u=>some (d,o,t,u,r,l')
    | none=>none
   | _,_=>none
  | _=>none
 | none=>none
def MT[hT:bc P T](k:Nat){d t kt et:Nat}{o:Oper}(h0:Dl T ops n k rest l=some (d,o,t,.map (some b),rest',l'))(hu:P.underlying t=some (.map kt et))(hin:In K hs h)(hm:dX enc encv h b m)
  (hk:WL P w0 ops Q rest' n ((d,.int .i64 (eq m))::l') K hs):WL P w0 ops Q rest n l K hs:=by
 unfold Dl at h0
 split at h0
 ·rename_i d' o' r l2 ho
  split at h0
  ·rename_i args argTypes hop
   split at h0
   ·rename_i x t' e1 e2
    split at h0
    ·rename_i u hx;simp only[aae,aag] at h0;obtain ⟨rfl,rfl,rfl,rfl,rfl,rfl⟩:=h0;have a1':args=#[x]:=by cases args;simp_all
     have a2':argTypes=#[t']:=by cases argTypes;simp_all
     subst a1' a2';refine iT k ho (fun a w ha hw=>?_) hk;have:=yp (P:=P) (ty:=o'.type) (encv:=encv) hu hm (hw.inn hin);simp only[execOp,hop];simp[resolve,invoke,builtin,ha.ev hx,this]
    simp at h0
   simp at h0
  simp at h0
 simp at h0
end rules
section opn
variable {P:Program} {T:bg} {w0:World} {ops:Array Oper} {Q:Exit->Act->World->Prop} {plan plan':List Nat} {z:Nat} {listed listed':Array Bool} {n:Nat} {l l':Sl} {K K0:PH} {hs A:List PH}
variable {κ ν:Type} [DecidableEq κ] {enc:κ->Value} {encv:ν->Value} {h:PH} {b:Nat} {m:List (κ×ν)}
def rZ(T:bg)(ops:Array Oper)(n z k:Nat)(plan:List Nat)(L:Array Bool)(l:Sl):Option (Nat×Oper×List Nat×Array Bool×Sl):=
 match j3 T ops n z k plan L l with
 | some (p,o,r,L',l')=>match Nat.beq (p % 2) 0,Nat.beq (p / 2) z,cond (Nat.blt z ops.size) (Region.waitsFor .any ops z (p / 2)) true,fo ops l' o.guard,o.dst with
  | true,false,true,some true,some d=>match Nat.blt d n with
   | true=>some (d,o,r,L'.setIfInBounds (p / 2) true,l')
   | false=>none
  | _,_,_,_,_=>none
 | none=>none
def qf[hT:bc P T](hsel:Region.noSelect ops=true)(k:Nat){d:Nat}{o:Oper}{v:Value}(h0:rZ T ops n z k plan listed l=some (d,o,plan',listed',l'))(hv:∀ a w,Ag n l' a->er K0 A w->(execOp a.eval o).run P w=.ok (.value v) w)
  (hk:WA P w0 ops Q K0 A z plan' listed' n ((d,v)::l') K hs):WA P w0 ops Q K0 A z plan listed n l K hs:=by
 unfold rZ at h0
 split at h0
 ·rename_i p o r L' l2 hh
  split at h0
  ·rename_i dd hp hz hwf hg hd
   split at h0
   ·rename_i hb;simp only[aae,aag] at h0;obtain ⟨rfl,rfl,rfl,rfl,rfl⟩:=h0;obtain ⟨g1,g2⟩:=jB hh;refine WA.pures hsel k g1 ?_;have hp2:p=2*(p / 2):=by have:=aaB hp;omega
    rw[hp2];refine WA.look g2 hsel hz hd hb (fun A' ha=>.inl ⟨fX ha hg,fun w hw=>?_⟩) hk;obtain ⟨L,hcl,hun,hst⟩:=hw;exact hv A' w ha (hst (nb hcl hun hwf))
   simp at h0
  simp at h0
 simp at h0
def er.inn{w:World}(s:er K A w)(hm:In K A h):∀ b o,h b=some o->w.heap[b]?=some o:=by
 rcases hm with rfl|⟨i,hi⟩
 ·exact s.1
 exact s.2 h<|aao hi
def CZ(T:bg)(ops:Array Oper)(n z k:Nat)(plan:List Nat)(L:Array Bool)(l:Sl):Option (Nat×Oper×Nat×Value×Value×Bool×List Nat×Array Bool×Sl):=
 match rZ T ops n z k plan L l with
 | some (d,o,r,L',l')=>match o.op with
  | .lookup t x y ok=>match ev l' x,ev l' y with
   | some u,some v=>some (d,o,t,u,v,ok,r,L',l')
   | _,_=>none
  | _=>none
 | none=>none
def DA[hT:bc P T](hsel:Region.noSelect ops=true)(k:Nat){d t kt et:Nat}{o:Oper}{zv v:Value}{ok:Bool}(j:κ)(h0:CZ T ops n z k plan listed l=some (d,o,t,.map (some b),v,ok,plan',listed',l'))(hu:P.underlying t=some (.map kt et))(hz:(P.info? et).bind (·.zero)=some zv)(hK:gM P kt enc)(hv:v=enc j)(hin:In K0 A h)(hm:dX enc encv h b m)
  (hk:WA P w0 ops Q K0 A z plan' listed' n ((d,oT ok (match a8 j m with|some v=>encv v|none=>zv) (a8 j m).isSome)::l') K hs):WA P w0 ops Q K0 A z plan listed n l K hs:=by
 unfold CZ at h0
 split at h0
 ·rename_i d' o' r L' l2 ho
  split at h0
  ·rename_i t' x y ok' hop
   split at h0
   ·rename_i u' v' hx hy;simp only[aae,aag] at h0;obtain ⟨rfl,rfl,rfl,rfl,rfl,rfl,rfl,rfl,rfl⟩:=h0;subst hv;refine qf hsel k ho (fun a w ha hw=>?_) hk;have:=tG (P:=P) hu hK hz hm (hw.inn hin) j ok';simp only[execOp,hop,ha.ev hx,ha.ev hy];simp[this]
   simp at h0
  simp at h0
 simp at h0
end opn
end
section
attribute [local irreducible] Code.wp wpList Calls
def aw.pre{h:PH}{ao:Option Addr}{n cap size:Nat}{xs:List Value}(x:aw h ao n cap size xs)(m:Nat)(hm:m<=n):aw h ao m cap size (xs.take (m*size)):=by
 obtain ⟨h1,h2,h3⟩:=x;have:m*size<=n*size:=aa8 _ hm;refine ⟨by simp;omega,qo,fun j u hu=>?_⟩
 grind
section rules
variable {P:Program} {T:bg} {w0:World} {ops:Array Oper} {Q:Exit->Act->World->Prop} {rest rest':List Oper} {n:Nat} {l l':Sl} {K:PH} {hs:List PH}
def wF(T:bg)(ops:Array Oper)(n k:Nat)(rest:List Oper)(l:Sl):Option (Nat×Oper×Builtin×Nat×Nat×Value×Value×List Oper×Sl):=
 match gj T ops n k rest l with
 | some (d,o,r,l')=>match o.op with
  | .call { callee:=.builtin b,args,argTypes }=>match args.toList,argTypes.toList with
   | [x,y],[t,u]=>match ev l' x,ev l' y with
    | some vx,some vy=>some (d,o,b,t,u,vx,vy,r,l')
    | _,_=>none
   | _,_=>none
  | _=>none
 | none=>none
def GW{k d t u:Nat}{o:Oper}{b:Builtin}{vx vy:Value}(h:wF T ops n k rest l=some (d,o,b,t,u,vx,vy,rest',l')):
  gj T ops n k rest l=some (d,o,rest',l')/\∀ a w,Ag n l' a->∃ cs,(execOp a.eval o).run P w=(builtin b #[t,u] o.type cs #[vx,vy]).run P w:=by
 unfold wF at h
 split at h
 ·rename_i d' o' r l2 ho
  split at h
  ·rename_i b' args argTypes hop
   split at h
   ·rename_i x y t' u' e1 e2
    split at h
    ·rename_i vx' vy' hx hy;simp only[aae,aag] at h;obtain ⟨rfl,rfl,rfl,rfl,rfl,rfl,rfl,rfl,rfl⟩:=h;have a1':args=#[x,y]:=by cases args;simp_all
     have a2':argTypes=#[t',u']:=by cases argTypes;simp_all
     subst a1' a2';refine ⟨ho,fun a w ha=>⟨#[x,y].map fun|.const _=>true|_=>false,?_⟩⟩;simp only[execOp,hop];simp[resolve,invoke,ha.ev hx,ha.ev hy]
     rfl
    simp at h
   simp at h
  simp at h
 simp at h
def D8[hT:bc P T](k i:Nat){d t u b off ty nd cd ns csrc:Nat}{o:Oper}{si:d9}{aos:Option Addr}{h2:PH}{c:Array Value}{xs:List Value}(m:Nat)
  (h0:wF T ops n k rest l=some (d,o,.copy,t,u,.slice (some ⟨b,off,none⟩) nd cd,.slice aos ns csrc,rest',l')) (hsi:asc T.sls t=some si) (hi:hs[i]?=some (pt b c ty)) (hin:In K hs h2) (x:aw h2 aos ns csrc si.size xs)
  (hm:m=min ns nd) (h1:∀ u∈xs.take (m*si.size),u.oneCell'=true) (hf:off+m*si.size<=c.size)
  (hk:WL P w0 ops Q rest' n ((d,.int .i64 (m:Int))::l') K (hs.set i (pt b (c.toList.take off++xs.take (m*si.size)++c.toList.drop (off+m*si.size)).toArray ty))):WL P w0 ops Q rest n l K hs:=by
 obtain ⟨ho,hex⟩:=GW h0;refine ql k (R:=fun v K' hs'=>v=.int .i64 (m:Int)/\K'=K/\hs'=hs.set i (pt b (c.toList.take off++xs.take (m*si.size)++c.toList.drop (off+m*si.size)).toArray ty)) ho (fun a w ha hw=>?_) ?_
 ·obtain ⟨cs,he⟩:=hex a w ha;obtain ⟨g1,ii,g2,g3,g4,g5⟩:=hT.sl hsi;have hb:w.heap[b]?=some (.cells c ty (0,0)):=hw.own i _ hi b _ Nm;have x2:=x.pre m qo
  have hfc:(Builtin.firstCells si.size m (.slice aos ns csrc)).run P w=.ok (xs.take (m*si.size)).toArray w:=by
   have:=tc (P:=P) hw hin x2;cases aos <;> exact this
  have hlen:eq (xs.take (m*si.size))=m*si.size:=x2.1;have hst:=run_storeCells_at P b off ty (xs.take (m*si.size)) 0 c w hb qo (by intro u hu;exact h1 u hu);simp only[aa5,hlen] at hst;refine ⟨_,_,K,_,?_,hw.setRow hi _,I,I,I⟩;rw[he];simp only[builtin]
  simp_all [run_underlying,Builtin.copy_,Builtin.lenOf,sizeOf,typeInfo,goInt]
 rintro v K' hs' ⟨rfl,rfl,rfl⟩;exact hk
def mV[hT:bc P T](k:Nat){d:Nat}{si:d9}{ao:Option Addr}{n1 c1:Nat}{lo hi:Option Int}(L N:Nat)
  (h0:n3 T ops n k rest l=some (d,si,(ao,n1,c1),lo,hi,rest',l')) (hL:lo.getD 0=(L:Int)) (hH:hi.getD n1=((L+N:Nat):Int)) (hN:L+N<=c1)
  (hk:WL P w0 ops Q rest' n ((d,.slice (dm ao c1 L si.size) N (c1-L))::l') K hs):WL P w0 ops Q rest n l K hs:=by
 obtain ⟨o,ho,hd,hb,hrun⟩:=qV (P:=P) L (L+N) h0 hL hH qo hN;refine WL.at' ho fun hg=>WL.val (R:=fun u K' hs'=>u=.slice (dm ao c1 L si.size) N (c1-L)/\K'=K/\hs'=hs) hd hb hg (fun A w ha hw=>⟨_,w,K,hs,hrun A w ha,hw,?_,I,I⟩) ?_
 ·simp
 rintro u K' hs' ⟨rfl,rfl,rfl⟩;exact hk
def BG{g off c L size:Nat}(h:L<c):dm (some ⟨g,off,none⟩) c L size=some ⟨g,off+L*size,none⟩:=by
 rw[dm,aaa qo];simp[bf]
def pT{ao:Option Addr}{c size:Nat}:dm ao c 0 size=ao:=by
 simp[dm,Addr.add]
end rules
section ext
variable {P:Program} {T:bg} {w0:World} {ops:Array Oper} {Q:Exit->Act->World->Prop} {rest rest':List Oper} {n:Nat} {l l':Sl} {K:PH} {hs:List PH}
end ext
section three
variable {P:Program} {T:bg} {w0:World} {ops:Array Oper} {Q:Exit->Act->World->Prop} {rest rest':List Oper} {n:Nat} {l l':Sl} {K:PH} {hs:List PH}
def CN(T:bg)(ops:Array Oper)(n k:Nat)(rest:List Oper)(l:Sl):Option (Nat×Oper×d9×(Option Addr×Nat×Nat)×Option Int×Int×Int×List Oper×Sl):=
 match gj T ops n k rest l with
 | some (d,o,r,l')=>match o.op with
  | .slice t x none (some hi) (some mx)=>match asc T.sls t,ev l' x,ev l' hi,ev l' mx with
   | some si,some (.slice a1 n1 c1),some (.int _ j),some (.int _ m)=>some (d,o,si,(a1,n1,c1),none,j,m,r,l')
   | _,_,_,_=>none
  | .slice t x (some lo) (some hi) (some mx)=>match asc T.sls t,ev l' x,ev l' lo,ev l' hi,ev l' mx with
   | some si,some (.slice a1 n1 c1),some (.int _ i),some (.int _ j),some (.int _ m)=>some (d,o,si,(a1,n1,c1),some i,j,m,r,l')
   | _,_,_,_,_=>none
  | _=>none
 | none=>none
def wu[hT:bc P T](k:Nat){d:Nat}{o:Oper}{si:d9}{ao:Option Addr}{n1 c1:Nat}{lo:Option Int}{hi mx:Int}(L N M:Nat)(h0:CN T ops n k rest l=some (d,o,si,(ao,n1,c1),lo,hi,mx,rest',l'))
  (hL:lo.getD 0=(L:Int)) (hH:hi=((L+N:Nat):Int)) (hM:mx=(M:Int)) (hN:L+N<=M) (hc:M<=c1)
  (hk:WL P w0 ops Q rest' n ((d,.slice (dm ao M L si.size) N (M-L))::l') K hs):WL P w0 ops Q rest n l K hs:=by
 unfold CN at h0
 split at h0
 ·rename_i d' o' r l2 ho;have c1':((M:Nat):Int)<=((c1:Nat):Int):=qo
  have t1:(((L:Nat):Int)+((N:Nat):Int)).toNat=L+N:=qo
  have t2:(((L:Nat):Int)+((N:Nat):Int))<=((M:Nat):Int):=qo
  have t3:0<=((L:Nat):Int)+((N:Nat):Int):=qo
  split at h0
  ·rename_i t x hi' mx' hop
   split at h0
   ·rename_i si' a1 m1 k1 kk jj kk2 mm hsi hx h2' h3';simp only[aae,aag] at h0;obtain ⟨rfl,rfl,rfl,⟨rfl,rfl,rfl⟩,rfl,rfl,rfl,rfl,rfl⟩:=h0;subst hH hM;simp only[abk] at hL;obtain rfl:L=0:=qo
    obtain ⟨h1,im,h2,h3,h4,h5⟩:=hT.sl hsi;refine iT k ho (fun a w ha hw=>?_) hk;have q1:N<=M:=qo
    have q2:((N:Nat):Int)<=((M:Nat):Int):=qo
    simp only[execOp,hop,ha.ev hx];simp[Instr.sliceAt,Instr.slice,Instr.sliceBounds,Instr.sliceBound,asIntOf,run_underlying h1,ha.ev h2',ha.ev h3',sizeOf,typeInfo,h2,h4,dm,hc,q1,q2]
   simp at h0
  ·rename_i t x lo' hi' mx' hop
   split at h0
   ·rename_i si' a1 m1 k1 kk0 ii kk jj kk2 mm hsi hx h1' h2' h3';simp only[aae,aag] at h0;obtain ⟨rfl,rfl,rfl,⟨rfl,rfl,rfl⟩,rfl,rfl,rfl,rfl,rfl⟩:=h0;subst hH hM;simp only[aa0] at hL;subst hL;obtain ⟨h1,im,h2,h3,h4,h5⟩:=hT.sl hsi;refine iT k ho (fun a w ha hw=>?_) hk;simp only[execOp,hop,ha.ev hx];simp[Instr.sliceAt,Instr.slice,Instr.sliceBounds,Instr.sliceBound,asIntOf,run_underlying h1,ha.ev h1',ha.ev h2',ha.ev h3',sizeOf,typeInfo,h2,h4,dm,hc];rw[aab qo,t1]
    simp
   simp at h0
  simp at h0
 simp at h0
end three
section openc
variable {P:Program} {T:bg} {w0:World} {ops:Array Oper} {Q:Exit->Act->World->Prop} {plan plan':List Nat} {z:Nat} {listed listed':Array Bool} {n:Nat} {l l':Sl} {K K0:PH} {hs A:List PH}
def mK[hT:bc P T](hsel:Region.noSelect ops=true)(k:Nat){d d':Nat}{o:Oper}{si:d9}{ao:Option Addr}{n1 c1:Nat}{lo hi:Option Int}(L N:Nat)
  (h0:lU T ops n z k plan listed l=some (d,o,plan',listed',l')) (h1:n3 T ops n 0 [o] l'=some (d',si,(ao,n1,c1),lo,hi,[],l')) (hL:lo.getD 0=(L:Int)) (hH:hi.getD n1=((L+N:Nat):Int)) (hN:L+N<=c1)
  (hk:WA P w0 ops Q K0 A z plan' listed' n ((d,.slice (dm ao c1 L si.size) N (c1-L))::l') K hs):WA P w0 ops Q K0 A z plan listed n l K hs:=by
 obtain ⟨o',ho,hd,hb,hrun⟩:=qV (P:=P) L (L+N) h1 hL hH qo hN
 have ho':o'=o:=by
  have e:ia T ops n 0 [o] l'=some ([o],l'):=rfl
  grind [d8]
 grind [oZ]
end openc
def aZ.behind{g off n cap e:Nat}{cur:Array Value}{xs:List Value}(o:aZ (pt g cur e) (some ⟨g,off,none⟩) n cap e 1 xs)(hc:cur.size=off+cap*1)(ht:(cur.toList.drop off).take (n*1)=xs)(p:Nat)(ys:List Value)(h1:off+n<=p)(h2:p+eq ys<=cur.size):
  aZ (pt g (cur.toList.take p++ys++cur.toList.drop (p+eq ys)).toArray e) (some ⟨g,off,none⟩) n cap e 1 xs:=by
 refine ⟨o.1,o.2.1,o.2.2.1,.inr ⟨g,off,_,I,I,?_,?_⟩⟩
 ·grind
 have hl:eq cur.toList=cur.size:=abN;rw[<-ht];simp only[aaf];rw[aaD,ab1 (by simp;omega),abE,abu (by simp;omega),abF,Nat.min_eq_left qo]
def aZ.pts{h:PH}{ao:Option Addr}{n cap e:Nat}{xs:List Value}(o:aZ h ao n cap e 1 xs)(hn:0<cap):∃ g off cur,ao=some ⟨g,off,none⟩/\h=pt g cur e/\cur.size=off+cap/\(cur.toList.drop off).take n=xs:=by
 obtain ⟨_,_,_,h4⟩:=o
 grind
def aZ.mkp{g off n cap e:Nat}{cur:Array Value}{xs:List Value}(h1:cur.size=off+cap)(h2:n<=cap)(h3:cap<=maxLen)(h4:(cur.toList.drop off).take n=xs):aZ (pt g cur e) (some ⟨g,off,none⟩) n cap e 1 xs:=by
 have hl:eq cur.toList=cur.size:=abN;exact ⟨by rw[<-h4];simp;omega,h2,h3,.inr ⟨g,off,cur,rfl,rfl,qo,by simpa using h4⟩⟩
end
section
def dY{α:Type}(R:List Value->α->Prop):List (List Value)->List α->Prop
 | [],[]=>True
 | c::cs,x::xs=>R c x/\dY R cs xs
 | _,_=>False
section al
variable {α:Type} {R R':List Value->α->Prop}
theorem dY.imp(h:∀ c x,R c x->R' c x):∀ {cs:List (List Value)} {xs:List α},dY R cs xs->dY R' cs xs
 | [],[],_=>trivial
 | _::_,_::_,g=>⟨h _ _ g.1,dY.imp h g.2⟩
 | [],_::_,g=>g.elim
 | _::_,[],g=>g.elim
theorem dY.len:∀ {cs:List (List Value)} {xs:List α},dY R cs xs->eq cs=eq xs
 | [],[],_=>rfl
 | _::_,_::_,g=>by simp[dY.len g.2]
 | [],_::_,g=>g.elim
 | _::_,[],g=>g.elim
theorem dY.get:∀ {cs:List (List Value)} {xs:List α} {i:Nat} {x:α},dY R cs xs->xs[i]?=some x->∃ c,cs[i]?=some c/\R c x
 | [],[],i,x,_,h=>by simp at h
 | c::cs,y::xs,0,x,g,h=>by simp at h;subst h;exact ⟨c,Nm,g.1⟩
 | c::cs,y::xs,i+1,x,g,h=>by
  obtain ⟨d,h1,h2⟩:=dY.get (i:=i) g.2 (by simpa using h);exact ⟨d,by simpa using h1,h2⟩
 | [],_::_,_,_,g,_=>g.elim
 | _::_,[],_,_,g,_=>g.elim
theorem dY.append:∀ {cs ds:List (List Value)} {xs ys:List α},dY R cs xs->dY R ds ys->dY R (cs++ds) (xs++ys)
 | [],_,[],_,_,h=>h
 | _::_,_,_::_,_,g,h=>⟨g.1,dY.append g.2 h⟩
 | [],_,_::_,_,g,_=>g.elim
 | _::_,_,[],_,g,_=>g.elim
theorem dY.drop:∀ (k:Nat) {cs:List (List Value)} {xs:List α},dY R cs xs->dY R (cs.drop k) (xs.drop k)
 | 0,_,_,h=>h
 | k+1,[],[],_=>trivial
 | k+1,_::_,_::_,g=>dY.drop k g.2
 | k+1,[],_::_,g=>g.elim
 | k+1,_::_,[],g=>g.elim
theorem dY.take:∀ (k:Nat) {cs:List (List Value)} {xs:List α},dY R cs xs->dY R (cs.take k) (xs.take k)
 | 0,_,_,_=>trivial
 | k+1,[],[],_=>trivial
 | k+1,_::_,_::_,g=>⟨g.1,dY.take k g.2⟩
 | k+1,[],_::_,g=>g.elim
 | k+1,_::_,[],g=>g.elim
theorem q9{size:Nat}:∀ {cs:List (List Value)} {i:Nat} {c:List Value},(∀ d∈cs,eq d=size)->cs[i]?=some c->∀ (j:Nat) v,c[j]?=some v->cs.flatten[i*size+j]?=some v
 | [],i,c,_,h,_,_,_=>by simp at h
 | d::cs,0,c,hl,h,j,v,hv=>by
  grind
 | d::cs,i+1,c,hl,h,j,v,hv=>by
  have hd:=hl d Nm;rw[abc,ab2,show i*size+size+j=eq d+(i*size+j) from qo,abn qo,abR];exact q9 (fun x hx=>hl x (by simp[hx])) (by simpa using h) j v hv
theorem Aw{size:Nat}:∀ {cs:List (List Value)},(∀ d∈cs,eq d=size)->eq cs.flatten=eq cs*size
 | [],_=>by simp
 | d::cs,h=>by rw[abc,aah,h d Nm,Aw (fun x hx=>h x (by simp[hx])),aan,ab2];omega
theorem ug{size:Nat}:∀ (k:Nat) {cs:List (List Value)},(∀ d∈cs,eq d=size)->cs.flatten.drop (k*size)=(cs.drop k).flatten
 | 0,cs,_=>by simp
 | k+1,[],_=>by simp
 | k+1,d::cs,h=>by
  rw[abc,ab2,show k*size+size=eq d+k*size from by rw[h d Nm];omega,<-aaR,List.drop_left,ug k (fun x hx=>h x (by simp[hx]))]
  simp
theorem zf{size:Nat}:∀ (k:Nat) {cs:List (List Value)},(∀ d∈cs,eq d=size)->cs.flatten.take (k*size)=(cs.take k).flatten
 | 0,cs,_=>by simp
 | k+1,[],_=>by simp
 | k+1,d::cs,h=>by
  simp_all [ab2,acm,aav,zf]
def dn(size:Nat)(R:List Value->α->Prop)(H:PH)(ao:Option Addr)(n cap:Nat)(xs:List α):Prop:=
 ∃ css:List (List Value),n=eq xs/\aw H ao n cap size css.flatten/\dY R css xs/\∀ d∈css,eq d=size
theorem dn.le{size:Nat}{H H':PH}{ao:Option Addr}{n cap:Nat}{xs:List α}(h:dn size R H ao n cap xs)(l:Le H H')(hR:∀ c x,R c x->R' c x):dn size R' H' ao n cap xs:=by
 obtain ⟨css,h1,h2,h3,h4⟩:=h;exact ⟨css,h1,h2.le l,h3.imp hR,h4⟩
theorem dn.nil(size:Nat)(H:PH)(ao:Option Addr)(cap:Nat):dn size R H ao 0 cap []:=⟨[],rfl,aw.nil H ao cap size,trivial,Nm⟩
def dn.cells{size:Nat}{H:PH}{a:Addr}{n cap i:Nat}{xs:List α}{x:α}(h:dn size R H (some a) n cap xs)(hx:xs[i]?=some x):∃ c,R c x/\eq c=size/\∀ (j:Nat) v,c[j]?=some v->cC H ((a.add (i*size)).add j) v:=by
 obtain ⟨css,h1,h2,h3,h4⟩:=h;obtain ⟨c,hc,hr⟩:=h3.get hx;refine ⟨c,hr,h4 c (aao hc),fun j v hv=>?_⟩;obtain ⟨a',e,hcell⟩:=h2.2.2 _ v (q9 h4 hc j v hv)
 grind [Addr.add]
def dn.isS{size:Nat}{H:PH}{ao:Option Addr}{n cap:Nat}{xs:List α}(h:dn size R H ao n cap xs):∃ vs,aw H ao n cap size vs:=by
 obtain ⟨css,_,h2,_⟩:=h;exact ⟨_,h2⟩
def dn.len{size:Nat}{H:PH}{ao:Option Addr}{n cap:Nat}{xs:List α}(h:dn size R H ao n cap xs):n=eq xs:=by
 obtain ⟨css,h1,_⟩:=h;exact h1
theorem dn.addr{size:Nat}{H:PH}{ao:Option Addr}{n cap:Nat}{xs:List α}(h:dn size R H ao n cap xs)(hn:0<n)(hs:0<size):∃ a,ao=some a:=by
 obtain ⟨css,_,h2,_⟩:=h;exact h2.addr hn hs
theorem dn.cut{size:Nat}{H:PH}{ao:Option Addr}{n cap:Nat}{xs:List α}(h:dn size R H ao n cap xs)(L:Nat)(hL:L<=n):dn size R H (dm ao cap L size) (n-L) (cap-L) (xs.drop L):=by
 obtain ⟨css,h1,h2,h3,h4⟩:=h;have hl:eq css=n:=by rw[h3.len,h1]
 refine ⟨css.drop L,by simp[h1],h2.cut L (n-L) qo ?_,h3.drop L,fun d hd=>h4 d (aaM hd)⟩;rw[ug L h4];exact aav (by rw[Aw (fun d hd=>h4 d (aaM hd))];simp[hl])
def jd(size e:Nat)(R:List Value->α->Prop)(h:PH)(ao:Option Addr)(n cap:Nat)(xs:List α):Prop:=
 ∃ css:List (List Value),n=eq xs/\aZ h ao n cap e size css.flatten/\dY R css xs/\∀ d∈css,eq d=size
theorem jd.nil(size e:Nat):jd size e R em none 0 0 []:=⟨[],rfl,aZ.nil e size,trivial,Nm⟩
def jd.slS{size e:Nat}{h:PH}{ao:Option Addr}{n cap:Nat}{xs:List α}(x:jd size e R h ao n cap xs):dn size R h ao n cap xs:=by
 obtain ⟨css,h1,h2,h3,h4⟩:=x;exact ⟨css,h1,h2.isS,h3,h4⟩
theorem jd.imp{size e:Nat}{h:PH}{ao:Option Addr}{n cap:Nat}{xs:List α}(hR:∀ c x,R c x->R' c x)(x:jd size e R h ao n cap xs):jd size e R' h ao n cap xs:=by
 obtain ⟨css,h1,h2,h3,h4⟩:=x;exact ⟨css,h1,h2,h3.imp hR,h4⟩
end al
section app
variable {P:Program} {T:bg} {w0:World} {ops:Array Oper} {Q:Exit->Act->World->Prop} {rest rest':List Oper} {n:Nat} {l l':Sl} {K:PH} {hs:List PH} {α:Type} {R:List Value->α->Prop}
def MB[hT:bc P T](k i:Nat){d:Nat}{si:d9}{ao:Option Addr}{n1 c1 b:Nat}{h:PH}{xs:List α}(c:List Value)(x:α)(h0:jN T ops n k rest l=some (d,si,(ao,n1,c1),(some ⟨b,0,none⟩,1,1),rest',l'))
  (h2:hs[0]?=some (pt b c.toArray si.elem)) (hi:hs[i]?=some h) (o:jd si.size si.elem R h ao n1 c1 xs) (hc:R c x) (hl:eq c=si.size) (h1:∀ u∈c,u.oneCell'=true) (hz:si.zero.cells.size=si.size) (hsz:0<si.size) (hb:(n1+1)*si.bytes<=140737488355328) (h63:n1+1<=maxLen)
  (hk:∀ ao' cap' h',jd si.size si.elem R h' ao' (n1+1) cap' (xs++[x])->WL P w0 ops Q rest' n ((d,.slice ao' (n1+1) cap')::l') K (hs.set i h')):WL P w0 ops Q rest n l K hs:=by
 obtain ⟨css,q1,q2,q3,q4⟩:=o
 have xv:aw (pt b c.toArray si.elem) (some ⟨b,0,none⟩) 1 1 si.size c:=by
  simpa using (aZ.ofPt (b:=b) (c:=c.toArray) (e:=si.elem) (n:=1) (size:=si.size) (by simpa using hl) (by simp[maxLen])).isS
 refine app k i h0 hi q2 (.inr ⟨0,h2⟩) xv hz hsz h1 hb h63 fun ao' cap' h' o'=>hk ao' cap' h' ⟨css++[c],by simp[q1],by simpa using o',q3.append ⟨hc,trivial⟩,?_⟩
 grind
end app
def cZ:List PH->PH
 | []=>em
 | h::l=>un h (cZ l)
def Dj(h h':PH):Prop:=∀ b,h b=none\/h' b=none
def gT(l:List PH):Prop:=l.Pairwise Dj
theorem uq:∀ {l:List PH} {b:Nat} {o:Obj},cZ l b=some o->∃ h∈l,h b=some o
 | [],b,o,h=>by simp[cZ,em] at h
 | x::l,b,o,h=>by
  simp only[cZ,un] at h;cases e:x b with
  | some o'=>rw[e] at h;simp only[aae] at h;subst h;exact ⟨x,Nm,e⟩
  | none=>
   rw[e] at h;obtain ⟨y,h1,h2⟩:=uq h;exact ⟨y,by simp[h1],h2⟩
theorem vg:∀ {l:List PH} (d:gT l) {h:PH} (hm:h∈l) {b:Nat} {o:Obj},h b=some o->cZ l b=some o
 | [],_,_,hm,_,_,_=>by cases hm
 | x::l,d,h,hm,b,o,hb=>by
  simp only[cZ,un];rcases aay.1 hm with rfl|hm
  ·rw[hb]
  have h1:=(aa1.1 d).1 h hm b;cases e:x b with
  | none=>exact vg (aa1.1 d).2 hm hb
  | some o'=>
   simp_all
def G3{l:List PH}{b:Nat}(h:∀ x∈l,x b=none):cZ l b=none:=by
 cases e:cZ l b with
 | none=>rfl
 | some o=>grind [uq]
def a7.split{w0 w:World}{K:PH}{l hs:List PH}(s:a7 w0 w K (cZ l::hs))(d:gT l):a7 w0 w K (l++hs):=by
 rw[a7.iff] at s ⊢;obtain ⟨⟨h1,h2,h3,h4,h5,h6⟩,h7⟩:=s;rw[aa1] at h7;refine ⟨⟨h1,h2,h3,h4,h5,fun h hm b o hb=>?_⟩,?_⟩
 ·rcases aaj.1 hm with hm|hm
  ·exact h6 (cZ l) Nm b o<|vg d hm hb
  exact h6 h (by simp[hm]) b o hb
 rw[ab3];refine ⟨d,h7.2,fun x hx y hy b=>?_⟩;cases e:x b with
 | none=>simp
 | some o=>
  rcases h7.1 y hy b with h|h
  all_goals grind [vg]
def a7.join{w0 w:World}{K:PH}(l:List PH){hs:List PH}(s:a7 w0 w K (l++hs)):gT l/\a7 w0 w K (cZ l::hs):=by
 rw[a7.iff] at s ⊢;obtain ⟨⟨h1,h2,h3,h4,h5,h6⟩,h7⟩:=s;rw[ab3] at h7;obtain ⟨d,h8,h9⟩:=h7;refine ⟨d,⟨h1,h2,h3,h4,h5,fun h hm b o hb=>?_⟩,?_⟩
 ·rcases aay.1 hm with rfl|hm
  ·obtain ⟨x,g1,g2⟩:=uq hb;exact h6 x (by simp[g1]) b o g2
  exact h6 h (by simp[hm]) b o hb
 rw[aa1];refine ⟨fun y hy b=>?_,h8⟩;cases e:y b with
 | none=>simp
 | some o=>
  refine .inl (G3 fun x hx=>?_);rcases h9 x hx y hy b with h|h
  ·exact h
  rw[e] at h;cases h
section sj
variable {P:Program} {w0:World} {ops:Array Oper} {Q:Exit->Act->World->Prop} {rest:List Oper} {n:Nat} {l:Sl} {K:PH} {hs:List PH} {c:Code} {e:Exit} {r:Option Nat} {ds:List Deferred}
theorem WL.split{m:List PH}(d:gT m)(hk:WL P w0 ops Q rest n l K (m++hs)):WL P w0 ops Q rest n l K (cZ m::hs):=fun a w ha hw=>hk a w ha (hw.split d)
theorem WC.split{m:List PH}(d:gT m)(hk:WC P w0 c Q n l K (m++hs)):WC P w0 c Q n l K (cZ m::hs):=fun a w ha hw=>hk a w ha (hw.split d)
theorem WQ.split{m:List PH}(d:gT m)(hk:WQ w0 Q e n l K (m++hs)):WQ w0 Q e n l K (cZ m::hs):=fun a w ha hw=>hk a w ha (hw.split d)
theorem WL.join(m:List PH)(hk:gT m->WL P w0 ops Q rest n l K (cZ m::hs)):WL P w0 ops Q rest n l K (m++hs):=fun a w ha hw=>hk (hw.join m).1 a w ha (hw.join m).2
theorem WC.join(m:List PH)(hk:gT m->WC P w0 c Q n l K (cZ m::hs)):WC P w0 c Q n l K (m++hs):=fun a w ha hw=>hk (hw.join m).1 a w ha (hw.join m).2
theorem WQ.join(m:List PH)(hk:gT m->WQ w0 Q e n l K (cZ m::hs)):WQ w0 Q e n l K (m++hs):=fun a w ha hw=>hk (hw.join m).1 a w ha (hw.join m).2
theorem cW.drop{h:PH}(hk:cW ds w0 Q e n l K hs):cW ds w0 Q e n l K (h::hs):=fun a w ha hw=>hk a w ha hw.dropHead
def WQ.drop1{h x:PH}(hk:WQ w0 Q e n l K (h::hs)):WQ w0 Q e n l K (h::x::hs):=fun a w ha hw=>hk a w ha (hw.perm (aat x h hs)).dropHead
theorem WX.drop{h:PH}(hk:WX P w0 r ds c Q n l K hs):WX P w0 r ds c Q n l K (h::hs):=fun a w ha hw=>hk a w ha hw.dropHead
theorem cW.perm{hs':List PH}(p:hs.Perm hs')(hk:cW ds w0 Q e n l K hs'):cW ds w0 Q e n l K hs:=fun a w ha hw=>hk a w ha (hw.perm p)
theorem WX.perm{hs':List PH}(p:hs.Perm hs')(hk:WX P w0 r ds c Q n l K hs'):WX P w0 r ds c Q n l K hs:=fun a w ha hw=>hk a w ha (hw.perm p)
theorem WX.frz{h:PH}(hk:∀ K',Le K K'->Le h K'->WX P w0 r ds c Q n l K' hs):WX P w0 r ds c Q n l K (h::hs):=fun a w ha hw=>by
 obtain ⟨h1,h2,h3⟩:=hw.frz;exact hk _ h1 h2 a w ha h3
theorem WX.em(hk:WX P w0 r ds c Q n l K (En.em::hs)):WX P w0 r ds c Q n l K hs:=fun a w ha hw=>hk a w ha hw.addEm
end sj
def vX{P:Program}{w0:World}{ops:Array Oper}{Q:Exit->Act->World->Prop}{plan:List Nat}{z:Nat}{n:Nat}{l:Sl}{K K0:PH}{hs A:List PH}{L:Array Bool}(A':List PH)(hA:∀ h∈A',h∈hs)(hAA:∀ h∈A,h∈A')(hK:Le K0 K)(hk:WA P w0 ops Q K A' z plan L n l K hs):
  WL P w0 ops (fun e a w=>fu .any ops plan L=true->eX .any ops L->jU P w0 ops Q K0 A z plan L e a w) [] n l K hs:=by
 intro a w ha hw;refine wpList_nil fun hp hc=>?_;have up:∀ L w,fT z (er K A') L w->fT z (er K0 A) L w:=fun L w h hz=>⟨fun b o hb=>(h hz).1 b o (hK b o hb),fun x hx=>(h hz).2 x (hAA x hx)⟩;have hst:fT z (er K A') L w:=fun _=>er.ofMem hw hA;exact ⟨up _ _ hst,wo up _ _ _ _ (hk hp hc a w ha hw hst)⟩
def eK{P:Program}{w0:World}{ops:Array Oper}{Q:Exit->Act->World->Prop}{plan:List Nat}{z:Nat}{n:Nat}{l:Sl}{K K0:PH}{hs A:List PH}{L:Array Bool}(hA:∀ h∈A,h∈hs)(hK:Le K0 K)(hk:WA P w0 ops Q K A z plan L n l K hs):
  WL P w0 ops (fun e a w=>fu .any ops plan L=true->eX .any ops L->jU P w0 ops Q K0 A z plan L e a w) [] n l K hs:=vX A hA (fun _ h=>h) hK hk
section jw
variable {P:Program} {T:bg} {w0:World} {ops:Array Oper} {Q:Exit->Act->World->Prop} {plan plan':List Nat} {z:Nat} {listed listed':Array Bool} {n:Nat} {l l':Sl} {K K0:PH} {hs A:List PH}
def C7(T:bg)(ops:Array Oper)(n z k:Nat)(plan:List Nat)(L:Array Bool)(l:Sl):Option (Nat×Oper×Nat×List (Nat×Value)×List Nat×Array Bool×Sl):=
 match lU T ops n z k plan L l with
 | some (d,o,r,L',l')=>match o.op with
  | .build t parts=>match parts.toList.mapM (fun x=>(ev l' x.2).map (fun v=>(x.1,v))) with
   | some vs=>some (d,o,t,vs,r,L',l')
   | none=>none
  | _=>none
 | none=>none
def jw[hT:bc P T](hsel:Region.noSelect ops=true)(k:Nat){d t:Nat}{o:Oper}{vs:List (Nat×Value)}(v:Value)(h0:C7 T ops n z k plan listed l=some (d,o,t,vs,plan',listed',l'))(hv:∀ w,(Instr.build t vs.toArray).run P w=.ok v w)
  (hk:WA P w0 ops Q K0 A z plan' listed' n ((d,v)::l') K hs):WA P w0 ops Q K0 A z plan listed n l K hs:=by
 unfold C7 at h0
 split at h0
 ·rename_i d' o' r L' l2 hh
  split at h0
  ·rename_i t' parts hop
   split at h0
   ·rename_i vs' hvs;simp only[aae,aag] at h0;obtain ⟨rfl,rfl,rfl,rfl,rfl,rfl,rfl⟩:=h0;refine oZ hsel k hh (fun a w ha=>?_) hk;have h6:=rv ha _ _ hvs
    have h7:(parts.map fun x=>(x.1,a.eval x.2))=vs'.toArray:=by
     apply Array.ext'
     simpa using h6
    simp_all [execOp]
   simp at h0
  simp at h0
 simp at h0
end jw
end
section
section
variable {P:Program} {T:bg} {w0:World} {ops:Array Oper} {Q:Exit->Act->World->Prop} {rest rest':List Oper} {n:Nat} {l l':Sl} {K:PH} {hs:List PH}
variable {κ:Type} [DecidableEq κ] {enc:κ->Value} {h:PH} {b:Nat} {m:List (κ×Value)}
end
attribute [local irreducible] Code.wp wpList Calls
def El{P:Program}{w0 w:World}{K:PH}{hs:List PH}(t ty e:TypeId)(i:TypeInfo)(z:Value)(ht:P.underlying t=some (.slice e))(hi:P.info? e=some i)(hz:i.zero=some z)
  (hzs:z.cells.size=i.size) (s0:a7 w0 w K hs) {hv h2:PH} {ao ao2:Option Addr} {n cap m c2:Nat} {xs news:List Value} (hm1:In K hs hv) (o:aw hv ao n cap i.size xs) (hnone:ao=none->cap=0)
  (hm:In K hs h2) (x:aw h2 ao2 m c2 i.size news) (hsz:0<i.size) (hroom:¬n+m<=cap) (hb:(n+m)*i.bytes<=140737488355328) (h63:n+m<=maxLen):
  ∃ ao' cap' h' w',(Builtin.append_ #[t,t] ty #[.slice ao n cap,.slice ao2 m c2]).run P w=.ok (.slice ao' (n+m) cap') w'/\aZ h' ao' (n+m) cap' e i.size (xs++news)/\a7 w0 w' K (h'::hs):=by
 have hlen:eq (xs++news)=(n+m)*i.size:=by rw[aah,o.1,x.1,Nat.add_mul]
 have s:a7 w0 w K (em::hs):=s0.addEm;have hm0:0<m:=by have:=o.2.1;omega
 obtain ⟨a2,rfl⟩:=x.addr hm0 hsz
 have hnews:∀ (j:Nat) v,news[j]?=some v->w.cell? (a2.add j)=some v:=fun j v hv=>by
  obtain ⟨a',ha,hc⟩:=x.2.2 j v hv;cases ha;exact s0.cell hm hc
 have grown:∀ old,old<n+m->aZ (pt w.heap.size (xs.toArray++news.toArray++Builtin.zeroCells z.cells (grownCap w (n+m) old e-(n+m))) e) (some ⟨w.heap.size,0,none⟩) (n+m) (grownCap w (n+m) old e) e i.size (xs++news) /\
   a7 w0 (w.drew.alloc (.cells (xs.toArray++news.toArray++Builtin.zeroCells z.cells (grownCap w (n+m) old e-(n+m))) e)) K ((em::hs).set 0 (pt w.heap.size (xs.toArray++news.toArray++Builtin.zeroCells z.cells (grownCap w (n+m) old e-(n+m))) e)):=by
  intro old ho;have hge:=grownCap_ge w (n+m) old e;have hcm:grownCap w (n+m) old e<=maxLen:=grownCap_le_maxLen w (n+m) old e h63;refine ⟨⟨hlen,hge,hcm,.inr ⟨_,0,_,I,I,?_,?_⟩⟩,?_⟩
  ·simp only[Array.size_append,abX,size_zeroCells,hzs,o.1,x.1,<-Nat.add_mul,aaI]
   congr 1
   omega
  ·grind
  refine s.upd (i:=0) I I I I Nm ?_ ?_ ?_
  ·intro b ob hb';simp only[pt,sg] at hb'
   split at hb'
   ·rename_i e1;subst e1;cases hb';exact heap_alloc_new w.drew _
   cases hb'
  ·intro b hb' _;exact RowKit.Below.heap_alloc w.drew _ b hb'
  simp
 cases ao with
 | none=>
  obtain rfl:=hnone rfl;obtain rfl:n=0:=by have:=o.2.1;omega
  obtain rfl:xs=[]:=aaZ (by simpa using o.1);have hr:=run_append_nil (P:=P) w t ty e i z ht hi hz a2 m c2 news x.1 hnews hm0 (by simp only[maxLen] at h63;omega) (by simp only[aaI] at hb;omega)
  grind
 | some a=>
  have holds:∀ (k:Nat) u,xs[k]?=some u->w.cell? (a.add k)=some u:=fun k u hu=>by
   obtain ⟨a',ha,hc⟩:=o.2.2 k u hu;cases ha;exact s0.cell hm1 hc
  have hr:=run_append_grow (P:=P) w t ty e i z ht hi hz a n cap xs o.1 holds a2 m c2 news x.1 hnews qo (by simp only[maxLen] at h63;omega) (growslice_fits qo hb)
  grind
def sO{P:Program}{T:bg}{w0:World}{ops:Array Oper}{Q:Exit->Act->World->Prop}{rest rest':List Oper}{n:Nat}{l l':Sl}{K:PH}{hs:List PH}
  [hT:bc P T] (k:Nat) {d:Nat} {si:d9} {ao ao2:Option Addr} {n1 c1 n2 c2:Nat} {hv h2:PH} {xs news:List Value} (h0:jN T ops n k rest l=some (d,si,(ao,n1,c1),(ao2,n2,c2),rest',l'))
  (hm1:In K hs hv) (o:aw hv ao n1 c1 si.size xs) (hnone:ao=none->c1=0) (hm:In K hs h2) (x:aw h2 ao2 n2 c2 si.size news) (hz:si.zero.cells.size=si.size) (hsz:0<si.size) (hroom:¬n1+n2<=c1)
  (hb:(n1+n2)*si.bytes<=140737488355328) (h63:n1+n2<=maxLen)
  (hk:∀ ao' cap' h',aZ h' ao' (n1+n2) cap' si.elem si.size (xs++news)->WL P w0 ops Q rest' n ((d,.slice ao' (n1+n2) cap')::l') K (h'::hs)):WL P w0 ops Q rest n l K hs:=by
 unfold jN at h0
 split at h0
 ·rename_i oo r l2 ho
  split at h0
  ·rename_i d' args argTypes hd hop
   split at h0
   ·rename_i x' y' t t' e1 e2
    split at h0
    ·rename_i si' a1 m1 k1 a2 m2 k2 hb' htt hsi hx hy;simp only[aae,aag] at h0;obtain ⟨rfl,rfl,⟨rfl,rfl,rfl⟩,⟨rfl,rfl,rfl⟩,rfl,rfl⟩:=h0;have htt':t=t':=aaB htt;subst htt';have a1':args=#[x',y']:=by cases args;simp_all
     have a2':argTypes=#[t,t]:=by cases argTypes;simp_all
     subst a1';subst a2';obtain ⟨g1,ii,g2,g3,g4,g5⟩:=hT.sl hsi
     refine WL.at' ho fun hg=>WL.val (R:=fun u K' hs'=>∃ ao' cap' h',u=.slice ao' (m1+m2) cap'/\aZ h' ao' (m1+m2) cap' si'.elem si'.size (xs++news)/\K'=K/\hs'=h'::hs) hd hb' hg
      (fun A w ha hw=>?_) ?_
     ·rw[<-g4] at o x hz hsz;rw[<-g5] at hb;obtain ⟨ao',cap',h',w',hr,ho',hs'⟩:=El (P:=P) t oo.type si'.elem ii si'.zero g1 g2 g3 hz hw hm1 o hnone hm x hsz hroom hb h63;refine ⟨_,w',K,_,?_,hs',ao',cap',h',I,by rw[<-g4];exact ho',I,I⟩;simp only[execOp,hop];simp[resolve,invoke,builtin,ha.ev hx,ha.ev hy,hr]
     rintro u K' hs' ⟨ao',cap',h',rfl,ho',rfl,rfl⟩;exact hk ao' cap' h' ho'
    simp at h0
   simp at h0
  simp at h0
 simp at h0
end
section
attribute [local irreducible] Code.wp wpList Calls
def qr(P:Program)(w0:World)(f:Nat)(cap:List Value){σ:Type}(step:σ->List Value->σ->Prop)(over:σ->Prop)(s0:σ)(Rd:PH->List PH->Prop):Prop:=
 ∀ (L:Nat) (St:σ->PH->List PH->Prop) (Sp:PH->List PH->Prop),(∀ s K hs,St s K hs->Rd K hs) ->
  (∀ s vs s' K hs fr,step s vs s'->St s K hs->o8 P w0 L vs K (hs++fr) (fun v K' hs'=>∃ hs1,hs'=hs1++fr/\((v=.bool true/\St s' K' hs1)\/(v=.bool false/\Sp K' hs1)))) ->
  ∀ K hs,St s0 K hs->Ct P w0 f (.func (.yield L) #[] #[]::cap) K hs (fun _ K' hs'=>(∃ s,over s/\St s K' hs')\/Sp K' hs')
section it
variable {P:Program} {T:bg} {w0:World} {r:Option Nat} {ds:List Deferred} {ops:Array Oper} {Q:Exit->Act->World->Prop} {rest rest':List Oper} {n:Nat} {l:Sl} {K:PH} {hs:List PH}
theorem o8.perm{L:Nat}{vs:List Value}{R:Value->PH->List PH->Prop}{hs':List PH}(p:hs.Perm hs')(h:o8 P w0 L vs K hs' R):o8 P w0 L vs K hs R:=fun w hw=>h w (hw.perm p)
def ML{g:Operand}{ps:Array Tmp}{assign body:Code}{f:Nat}(cap:List Value){σ:Type}(step:σ->List Value->σ->Prop)(over:σ->Prop)(s0:σ)(Rd:PH->List PH->Prop)(hg:ev l g=some (.func (.func f) #[] cap.toArray))(it:qr P w0 f cap step over s0 Rd)(hcal:iG P f=true)
  (hps:∀ s vs s',step s vs s'->eq vs=ps.size) (hpn:(ps.toList.all fun t=>Nat.blt t n)=true) (St:σ->PH->List PH->Prop) (Jm:Code->PH->List PH->Prop) (h0:St s0 K hs) (hRd:∀ s K hs t u,St s K hs->Rd K (hs++[t,u]))
  (round:∀ L s vs s' K hs fr t u,step s vs s'->St s K hs->WX P w0 (some L) [] assign (Exit.then (aQ P w0 L n body (fun _ K hs=>∃ hs1,hs=hs1++fr/\St s' K hs1) (fun c K hs=>∃ hs1,hs=hs1++fr/\Jm c K hs1) t u 0) (fun _ _ _=>False)) n (prm ps.toList vs l) K ((hs++fr)++[t,u]))
  (done:∀ D s K' hs',over s->St s K' hs'->cW (kY D::ds) w0 Q .normal n l K' (hs'++[fp D]))
  (stop:∀ D c K' hs',Jm c K' hs'->WX P w0 none (kY D::ds) c Q n l K' (hs'++[fp D])):WX P w0 none ds (.rangeFunc g ps assign body) Q n l K hs:=by
 intro a w ha hw;refine wpIn_rangeFunc ?_;intro fn _;obtain ⟨rec,hrec⟩:∃ rec:LoopState->Option Code->Loop,rec=fun st pe=>{ state:=st,pending:=pe,fn,tmps:=a.tmps,params:=ps,assign,body,defers:=w.heap.size }:=⟨_,rfl⟩;obtain ⟨D,hD⟩:=be w.heap.size;obtain ⟨W1,hW1⟩:∃ W1,(w.alloc (.deferred (some []))).alloc (.loop (rec .ready none))=W1:=⟨_,rfl⟩
 have hS1:a7 w0 W1 K (hs++[fp D,sg (D+1) (.loop (rec .ready none))]):=by
  have h1:=(hw.alloc (.deferred (some []))).alloc (.loop (rec .ready none));rw[World.size_alloc,<-hD,hW1] at h1;refine h1.perm ?_;rw[fB];exact ((abo _ _).symm.cons _).trans (abo _ _).symm
 refine ⟨D+1,[kY D],W1,{ target:=.fn (.func f) cap.toArray,args:=#[.func (.yield (D+1)) #[] #[]] },W1,f,#[.func (.yield (D+1)) #[] #[]]++cap.toArray,W1,?_,?_,?_,?_,fun h=>by simp[fz] at h,?_⟩
 ·rw[<-hW1,hrec,hD];exact run_enterLoop_outer _ _ _ _ _
 ·simp only[resolve,qn ha hg];simp[Deferred.ofValue]
  rfl
 ·intro f' _;trivial
 ·have hcal':=hcal;unfold iG at hcal';cases hfn:P.funcs[f]? with
  | none=>simp[hfn] at hcal'
  | some fn=>
   simp only[hfn,aaH,abO] at hcal';have hbn:¬fn.body=none:=fun e=>by simp[e] at hcal'
   simp_all [invoke,callFunc]
 have hargs:(#[Value.func (.yield (D+1)) #[] #[]]++cap.toArray:Array Value)=(Value.func (.yield (D+1)) #[] #[]::cap).toArray:=by simp
 rw[hargs]
 have key:=it (D+1) (fun s K hs=>∃ hs',hs=hs'++[fp D,sg (D+1) (.loop (rec .ready none))]/\St s K hs') (fun K hs=>∃ c hs',hs=hs'++[fp D,sg (D+1) (.loop (rec .done (some c)))]/\Jm c K hs')
  (by grind) ?_ K _ ⟨hs,rfl,h0⟩
 ·refine (callsIn_wide.2 (key.2 _ hS1)).mono ?_;rintro e w2 ⟨v,K2,hs2,rfl,hh,hw2⟩;rcases hh with ⟨s,hov,hs',rfl,hst⟩|⟨c,hs',rfl,hjm⟩
  ·rw[fB] at hw2;have h1:=run_endLoop (P:=P) hw2.last (by rw[hrec];simp);rw[hrec] at h1;exact ⟨none,_,h1,done D s K2 hs' hov hst a _ ha (hw2.putLast _).dropLast⟩
  rw[fB] at hw2;have h1:=run_endLoop (P:=P) hw2.last (by rw[hrec];simp);rw[hrec] at h1;exact ⟨some c,_,h1,stop D c K2 hs' hjm a _ ha (hw2.putLast _).dropLast⟩
 rintro s vs s' K1 hs1 fr hvs ⟨hs',rfl,hst⟩ w1 hw1
 have pf:∀ (X:List PH) (t u:PH),(X++[t,u]++fr).Perm ((X++fr)++[t,u]):=fun X t u=>by
  rw[aaD,aaD];exact List.perm_append_comm.append_left X
 replace hw1:=hw1.perm (pf hs' _ _)
 have hl1:w1.heap[D+1]?=some (.loop (rec .ready none)):=by rw[fB] at hw1;exact hw1.last
 have hsz:vs.toArray.size=(rec .ready none).params.size:=by rw[hrec];simpa using hps s vs s' hvs
 have hy:=run_yield (P:=P) hl1 hsz;refine ⟨_,_,_,_,hy,roundIn_of_wpIn (F:=fz none) trivial ?_⟩
 have hA:Ag n (prm ps.toList vs l) { tmps:=((rec .ready none).params.zip vs.toArray).foldl (fun tmps (t,a)=>tmps.setIfInBounds t a) (rec .ready none).tmps,defers:=[] }:=by
  have h1:=Ag.prm ps.toList vs ha (fun t ht=>abU (aaV.1 hpn t ht));rw[hrec]
  have e1:(ps.zip vs.toArray).foldl (fun tmps (x:Nat×Value)=>tmps.setIfInBounds x.1 x.2) a.tmps=(ps.toList.zip vs).foldl (fun tmps (x:Nat×Value)=>tmps.setIfInBounds x.1 x.2) a.tmps:=by
   rw[<-Array.foldl_toList];simp
  simp_all
 have h2:=round (D+1) s vs s' K1 hs' fr (fp D) (sg (D+1) (.loop (rec .ready none))) hvs hst _ w1 hA hw1;rw[hrec] at h2 ⊢;refine wpIn_mono h2 ?_;intro e a3 w3 hq;cases e with
 | normal=>
  obtain ⟨l',K',hs3,hA3,hS3,hb⟩:=hq;rw[fB] at hS3;refine ⟨_,run_beginRound hS3.last I,?_⟩;have hS4:=hS3.putLast (.loop { rec .ready none with state:=.busy });rw[hrec] at hS4;have h5:=hb _ a3 _ hA3 (by rw[fB];exact hS4);rw[va hA3] at h5;refine wpIn_mono h5 ?_;intro e a4 w4 hq4;cases e with
  | normal=>
   obtain ⟨K5,hs5,hS5,hs6,rfl,hst5⟩:=hq4;rw[fB] at hS5;refine ⟨_,_,run_endRound none hS5.last,_,K5,_,I,⟨_,I,.inl ⟨I,hs6,I,hst5⟩⟩,(a7.perm (pf hs6 _ _).symm ?_)⟩;rw[fB];exact hS5.putLast _
  | ret=>
   obtain ⟨K5,hs5,hS5,hs6,rfl,hst5⟩:=hq4;rw[fB] at hS5;refine ⟨_,_,run_endRound (some .ret) hS5.last,_,K5,_,I,⟨_,I,.inr ⟨I,.ret,hs6,I,hst5⟩⟩,(a7.perm (pf hs6 _ _).symm ?_)⟩;rw[fB];exact hS5.putLast _
  | exit id=>
   obtain ⟨K5,hs5,hS5,hs6,rfl,hst5⟩:=hq4;rw[fB] at hS5;refine ⟨_,_,run_endRound (some (.exit id)) hS5.last,_,K5,_,I,⟨_,I,.inr ⟨I,.exit id,hs6,I,hst5⟩⟩,(a7.perm (pf hs6 _ _).symm ?_)⟩;rw[fB];exact hS5.putLast _
  | goto l=>exact hq4.elim
  | panic ch=>exact hq4.elim
  | outgrown=>exact hq4.elim
 | exit id=>exact hq.elim
 | goto l=>exact hq.elim
 | ret=>exact hq.elim
 | panic ch=>exact hq.elim
 | outgrown=>exact hq.elim
end it
end
section
attribute [local irreducible] Code.wp wpList Calls
def a7.loss{w0 w:World}{K:PH}{hs:List PH}(s:a7 w0 w K hs)(i:Nat){h h':PH}(hi:hs[i]?=some h)(hh:h'=h\/h'=em):a7 w0 w K (hs.set i h'):=by
 rcases hh with rfl|rfl
 ·have:hs.set i h'=hs:=by
   apply ab0
   grind
  rw[this];exact s
 exact ((s.perm<|gU hs i h hi).dropHead.addEm).perm<|nA hs i h em hi
section loss
variable {P:Program} {T:bg} {w0:World} {ops:Array Oper} {Q:Exit->Act->World->Prop} {rest:List Oper} {n:Nat} {l:Sl} {K:PH} {hs:List PH} {c:Code} {e:Exit}
theorem WL.loss(i:Nat){h:PH}(h':PH)(hi:hs[i]?=some h)(hh:h'=h\/h'=En.em)(hk:WL P w0 ops Q rest n l K (hs.set i h')):WL P w0 ops Q rest n l K hs:=fun a w ha hw=>hk a w ha (hw.loss i hi hh)
theorem WC.loss(i:Nat){h:PH}(h':PH)(hi:hs[i]?=some h)(hh:h'=h\/h'=En.em)(hk:WC P w0 c Q n l K (hs.set i h')):WC P w0 c Q n l K hs:=fun a w ha hw=>hk a w ha (hw.loss i hi hh)
theorem WQ.loss(i:Nat){h:PH}(h':PH)(hi:hs[i]?=some h)(hh:h'=h\/h'=En.em)(hk:WQ w0 Q e n l K (hs.set i h')):WQ w0 Q e n l K hs:=fun a w ha hw=>hk a w ha (hw.loss i hi hh)
end loss
def gm(h:PH)(ao:Option Addr)(n cap e size:Nat)(xs:List Value):Prop:=aZ h ao n cap e size xs\/(n=0/\cap=0/\xs=[]/\h=em)
theorem gm.nil(e size:Nat):gm em none 0 0 e size []:=.inl (aZ.nil e size)
theorem gm.isS{h:PH}{ao:Option Addr}{n cap e size:Nat}{xs:List Value}(o:gm h ao n cap e size xs):aw h ao n cap size xs:=by
 rcases o with o|⟨rfl,rfl,rfl,rfl⟩
 ·exact o.isS
 simp[aw.nil]
def gm.caps{h:PH}{ao:Option Addr}{n cap e size:Nat}{xs:List Value}(o:gm h ao n cap e size xs):n<=cap:=o.isS.2.1
def gm.cut{h:PH}{ao:Option Addr}{n cap e size:Nat}{xs ys:List Value}(o:gm h ao n cap e size xs)(L N:Nat)(hN:L+N<=n)(hy:(xs.drop (L*size)).take (N*size)=ys):
  ∃ h',(h'=h\/h'=em)/\gm h' (dm ao cap L size) N (cap-L) e size ys:=by
 have hcap:=o.caps;rcases o with o|⟨rfl,rfl,rfl,rfl⟩
 ·obtain ⟨h1,h2,h3,h4⟩:=o
  have hys:eq ys=N*size:=by
   rw[<-hy,aam,aak,h1];have:(L+N)*size<=n*size:=aa8 _ hN;rw[Nat.add_mul] at this;omega
  by_cases hL:L=cap
  ·subst hL;obtain rfl:N=0:=qo
   refine ⟨em,.inr I,.inr ⟨I,qo,?_,I⟩⟩
   simp_all
  rcases h4 with ⟨_,h5,_⟩|⟨g,off,cur,rfl,rfl,e3,e4⟩
  ·omega
  refine ⟨_,.inl I,.inl ⟨hys,qo,qo,.inr ⟨g,off+L*size,cur,BG qo,I,?_,?_⟩⟩⟩
  ·rw[e3];have:cap*size=L*size+(cap-L)*size:=by rw[<-Nat.add_mul];congr 1;omega
   omega
  rw[<-hy,<-e4,abE,abF,aaR]
  grind
 obtain rfl:L=0:=qo
 obtain rfl:N=0:=qo
 refine ⟨em,.inl I,.inr ⟨I,I,?_,I⟩⟩;rw[<-hy];simp
section rules
variable {P:Program} {T:bg} {w0:World} {ops:Array Oper} {Q:Exit->Act->World->Prop} {rest rest':List Oper} {n:Nat} {l l':Sl} {K:PH} {hs:List PH}
def DM[hT:bc P T](k i:Nat){d:Nat}{si:d9}{ao ao2:Option Addr}{n1 c1 n2 c2:Nat}{h h2:PH}{xs news:List Value}(h0:jN T ops n k rest l=some (d,si,(ao,n1,c1),(ao2,n2,c2),rest',l'))
  (hi:hs[i]?=some h) (o:gm h ao n1 c1 si.elem si.size xs) (hm:In K hs h2) (x:aw h2 ao2 n2 c2 si.size news) (hz:si.zero.cells.size=si.size) (hsz:0<si.size) (h1:∀ u∈news,u.oneCell'=true) (hn2:0<n2)
  (hb:(n1+n2)*si.bytes<=140737488355328) (h63:n1+n2<=maxLen)
  (hk:∀ ao' cap' h',aZ h' ao' (n1+n2) cap' si.elem si.size (xs++news)->WL P w0 ops Q rest' n ((d,.slice ao' (n1+n2) cap')::l') K (hs.set i h')):WL P w0 ops Q rest n l K hs:=by
 rcases o with o|⟨rfl,rfl,rfl,rfl⟩
 ·exact app k i h0 hi o hm x hz hsz h1 hb h63 hk
 refine sO k h0 (.inl I) (aw.nil _ _ _ _) (fun _=>I) hm x hz hsz qo hb h63 fun ao' cap' h' o'=>?_;have p:(h'::hs).Perm (em::hs.set i h'):=((gU hs i em hi).cons h').trans ((aat em h' _).trans ((nA hs i em h' hi).cons em))
 grind [WL.perm,WL.drop]
end rules
def dt{α:Type}(size e:Nat)(R:List Value->α->Prop)(h:PH)(ao:Option Addr)(n cap:Nat)(xs:List α):Prop:=
 ∃ css:List (List Value),n=eq xs/\gm h ao n cap e size css.flatten/\dY R css xs/\∀ d∈css,eq d=size
section slz
variable {α:Type} {R R':List Value->α->Prop} {size e:Nat} {h:PH} {ao:Option Addr} {n cap:Nat} {xs:List α}
theorem dt.nil(size e:Nat):dt size e R em none 0 0 []:=⟨[],rfl,gm.nil e size,trivial,Nm⟩
def dt.slS(x:dt size e R h ao n cap xs):dn size R h ao n cap xs:=by
 obtain ⟨css,h1,h2,h3,h4⟩:=x;exact ⟨css,h1,h2.isS,h3,h4⟩
theorem dt.imp(hR:∀ c x,R c x->R' c x)(x:dt size e R h ao n cap xs):dt size e R' h ao n cap xs:=by
 obtain ⟨css,h1,h2,h3,h4⟩:=x;exact ⟨css,h1,h2,h3.imp hR,h4⟩
theorem dt.caps(x:dt size e R h ao n cap xs):n<=cap:=let ⟨_,_,h2,_⟩:=x;h2.caps
theorem dt.cut(x:dt size e R h ao n cap xs)(L N:Nat)(hN:L+N<=n):∃ h',(h'=h\/h'=em)/\dt size e R h' (dm ao cap L size) N (cap-L) ((xs.drop L).take N):=by
 obtain ⟨css,h1,h2,h3,h4⟩:=x;have hl:eq css=n:=by rw[h3.len,h1]
 obtain ⟨h',g1,g2⟩:=h2.cut L N hN (ys:=((css.drop L).take N).flatten) (by grind [ug,zf]);refine ⟨h',g1,(css.drop L).take N,by grind,g2,(h3.drop L).take N,fun d hd=>h4 d (aaM (aaW hd))⟩
def mF{P:Program}{T:bg}{w0:World}{ops:Array Oper}{Q:Exit->Act->World->Prop}{rest rest':List Oper}{n:Nat}{l l':Sl}{K:PH}{hs:List PH}
  [hT:bc P T] (k i:Nat) {d:Nat} {si:d9} {ao:Option Addr} {n1 c1 b:Nat} {h:PH} {xs:List α} (c:List Value) (x:α) (h0:jN T ops n k rest l=some (d,si,(ao,n1,c1),(some ⟨b,0,none⟩,1,1),rest',l'))
  (h2:hs[0]?=some (pt b c.toArray si.elem)) (hi:hs[i]?=some h) (o:dt si.size si.elem R h ao n1 c1 xs) (hc:R c x) (hl:eq c=si.size) (h1:∀ u∈c,u.oneCell'=true) (hz:si.zero.cells.size=si.size) (hsz:0<si.size) (hb:(n1+1)*si.bytes<=140737488355328) (h63:n1+1<=maxLen)
  (hk:∀ ao' cap' h',dt si.size si.elem R h' ao' (n1+1) cap' (xs++[x])->WL P w0 ops Q rest' n ((d,.slice ao' (n1+1) cap')::l') K (hs.set i h')):WL P w0 ops Q rest n l K hs:=by
 obtain ⟨css,q1,q2,q3,q4⟩:=o
 have xv:aw (pt b c.toArray si.elem) (some ⟨b,0,none⟩) 1 1 si.size c:=by
  simpa using (aZ.ofPt (b:=b) (c:=c.toArray) (e:=si.elem) (n:=1) (size:=si.size) (by simpa using hl) (by simp[maxLen])).isS
 refine DM k i h0 hi q2 (.inr ⟨0,h2⟩) xv hz hsz h1 qo hb h63 fun ao' cap' h' o'=>hk ao' cap' h'<|⟨css++[c],by simp[q1],.inl (by simpa using o'),q3.append ⟨hc,trivial⟩,?_⟩
 grind
end slz
def lD(ops:Array Oper)(z:Nat):List Nat->Nat->Bool
 | [],i=>Region.waitsFor .any ops z i
 | y::ys,i=>Region.waitsFor .any ops z y && lD ops y ys i
def BW{ops:Array Oper}{L:Array Bool}(c:eX .any ops L){z i:Nat}(hw:Region.waitsFor .any ops z i=true)(hz:L.getD z false=true):L.getD i false=true:=by
 obtain ⟨oj,hoj,e,he,hbb,hon⟩:=Region.waitsFor_spec hw;have:=c.2 z oj hoj hz e he hbb
 rwa [hon] at this
theorem xO{ops:Array Oper}{L:Array Bool}(c:eX .any ops L):∀ (ys:List Nat) {z i:Nat},lD ops z ys i=true->L.getD z false=true->L.getD i false=true
 | [],z,i,hw,hz=>BW c hw hz
 | y::ys,z,i,hw,hz=>by
  simp only[lD,aaH] at hw;exact xO c ys hw.2 (BW c hw.1 hz)
def xj{ops:Array Oper}{L:Array Bool}{i z:Nat}(c:eX .any ops L)(ys:List Nat)(hi:L.getD i true=false)(hw:lD ops z ys i=true):L.getD z false=false:=by
 grind [xO]
section path
variable {P:Program} {T:bg} {w0:World} {ops:Array Oper} {Q:Exit->Act->World->Prop} {plan plan':List Nat} {z:Nat} {listed listed':Array Bool} {n:Nat} {l l':Sl} {K K0:PH} {hs A:List PH}
def Mw(ys:List Nat)[hT:bc P T](hsel:Region.noSelect ops=true)(k:Nat){p d:Nat}{a:Addr}{v:Value}{h:PH}(h0:lJ T ops n z k plan listed l=some (p,d,a,plan',listed',l'))(hwf:lD ops z ys (p / 2)=true)(hm:In K0 A h)(hc:cC h a v)
  (hk:WA P w0 ops Q K0 A z plan' listed' n ((d,v)::l') K hs):WA P w0 ops Q K0 A z plan listed n l K hs:=by
 unfold lJ at h0
 split at h0
 ·rename_i p' o r L' l2 hh
  split at h0
  ·rename_i dd t x hp hz hg hd hop
   split at h0
   ·rename_i kd a' hb hkd hx;cases h1:kd.one with
    | false=>simp[h1] at h0
    | true=>
     simp only[h1,cond_true,aae,aag] at h0;obtain ⟨rfl,rfl,rfl,rfl,rfl,rfl⟩:=h0;obtain ⟨g1,g2⟩:=jB hh;refine WA.pures hsel k g1 ?_;have hp2:p'=2*(p' / 2):=by have:=aaB hp;omega
     rw[hp2];refine WA.look g2 hsel hz hd hb (fun A' ha=>.inl ⟨fX ha hg,fun w hw=>?_⟩) hk;obtain ⟨L,hcl,hun,hst⟩:=hw;have hcell:=(hst (xj hcl ys hun hwf)).cell hm hc;have h2:=nh (P:=P) hkd h1 hcell;simp only[execOp,hop,ha.ev hx];simp[h2]
   simp at h0
  simp at h0
 simp at h0
def dk(ys:List Nat)[hT:bc P T](hsel:Region.noSelect ops=true)(k i:Nat){p d b off ty:Nat}{v:Value}{c:Array Value}{fr:Nat×Nat}(h0:lJ T ops n z k plan listed l=some (p,d,⟨b,off,none⟩,plan',listed',l'))(hwf:lD ops z ys (p / 2)=true)
  (hi:A[i]?=some (pt b c ty fr)) (hv:c[off]?=some v) (hk:WA P w0 ops Q K0 A z plan' listed' n ((d,v)::l') K hs):WA P w0 ops Q K0 A z plan listed n l K hs:=
 Mw ys hsel k h0 hwf (.inr ⟨i,hi⟩) (cC.pt hv) hk
end path
end
end Go.En
