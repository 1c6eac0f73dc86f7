/-
  Part 1.
-/
import Derived.WalkKit
import Derived.ProofKit
import Derived.Deep.LoopGhost
import Derived.OrdersHeld
import Derived.StillTail
import Derived.Laws.BytesArg
import Derived.Lib.ConvBytes
import Derived.Laws.StructEq
import Derived.Test.YtaifbolghjccjaaGreatRows
import Derived.OpenShut
import Derived.JoinedCond
import Derived.Carry
import Derived.Deep.Slices
import Derived.Deep.Strs
import Derived.RangeFuncRecord
import Derived.Sort.LoopGhostIn
import Derived.OrdersIn
import Derived.ChangeKeysEq
import Derived.Laws.Externs
import Derived.Lib.Overlaps
import Derived.Scope
import Derived.KernelRfl
set_option linter.defProp false
set_option linter.unusedSectionVars false
set_option linter.unusedSimpArgs false
set_option linter.unusedVariables false
set_option maxRecDepth 4000
namespace Go.En
open Go.Proofs Go.Proofs.YtaifbolghjccjaaGreat
open List renaming length -> eq
def I {α : Sort _} {a : α} : a = a := rfl
def qk {p : Prop} (h : p := by kernel_rfl) : p := h
abbrev Aa:=List UInt8
abbrev Ab:=Option Addr
abbrev Ad:=List Value
abbrev Ae:=List Int
abbrev Af:=List Nat
abbrev Ah:=Array Value
abbrev Ai:=Array Oper
abbrev Aj:=List Oper
abbrev Al:=Array Bool
abbrev Am:=Option Nat
abbrev An:=Exit->Act->World->Prop
theorem Aq{α:Sort _}{p:α->Prop}(h:∀w,p w:=by intro w;kernel_rfl):∀w,p w:=h
theorem As{p:Prop}(h:p:=by simp only[maxLen];omega):p:=h
theorem At{p:Prop}(h:p:=by simp[maxLen]):p:=h
theorem Au{p:Prop}(h:p:=by simp;omega):p:=h
abbrev Ij:Array Value:=#[.slice none 0 0]
abbrev Ik:Array Value:=#[.slice none 0 0,.bool false]
abbrev Il:Array Value:=#[.int .u64 0,.int .u64 0,.int .i64 0,.slice none 0 0]
abbrev Im:Array Value:=#[.int .u64 0,.int .i64 0]
abbrev Io:Array Value:=#[.int .i64 0]
abbrev Ip:Array Value:=#[.int .i64 0,.int .i64 0,.int .i64 0,.int .u64 0,.int .u64 0,.int .u64 0,.int .u64 0,.int .u64 0,.bool false,.slice none 0 0,.int .i64 0,.int .i64 0,.slice none 0 0,.slice none 0 0]
abbrev Iq:Array Value:=#[.int .u64 0]
abbrev Ir:Array Value:=#[.pointer none,.pointer none,.pointer none]
abbrev Is:Array Value:=#[.bool false]
abbrev It:Array Value:=#[.int .u64 0,.int .u64 0,.slice none 0 0,.slice none 0 0]
abbrev Iu:Array Value:=#[.int .u64 0,.int .u64 0,.int .i64 0,.slice none 0 0,.int .u64 0]
abbrev Iv:Array Value:=#[.int .i64 0,.int .i64 0,.int .i64 0,.int .u64 0,.slice none 0 0]
abbrev Iw:Array Value:=#[.int .i64 0,.int .i64 0,.int .u64 0]
abbrev Ix:Array Value:=#[.int .i64 0,.int .u64 0,.int .u64 0,.int .u64 0,.int .u64 0,.int .u64 0]
abbrev Iy:Array Value:=#[.int .i64 0,.int .u64 0,.int .u64 0,.slice none 0 0,.slice none 0 0]
def qo {p : Prop} (h : p := by omega) : p := h
def Q8 {p : Prop} (h : p := by simp) : p := h
def Q9 {p : Prop} (h : p := by decide) : p := h
abbrev Rp (b : Nat) : Value := .pointer (some ⟨b,0,none⟩)
abbrev aaa:=@if_neg
abbrev aab:=@if_pos
abbrev aac:=@Nat.le_refl
abbrev aad:=@Nat.zero_le
abbrev aae:=@Option.some.injEq
abbrev aaf:=@Nat.mul_one
abbrev aag:=@Decidable.not_not
abbrev aah:=@Prod.mk.injEq
abbrev aai:=@List.getElem?_eq_getElem
abbrev aaj:=@List.length_append
abbrev aak:=@List.perm_append_comm_assoc
abbrev aal:=@List.length_take
abbrev aam:=@List.mem_of_getElem?
abbrev aan:=@List.length_set
abbrev aao:=@List.mem_append
abbrev aap:=@List.Perm.swap
abbrev aaq:=@Nat.le_succ
abbrev aar:=@List.length_drop
abbrev aas:=@List.length_cons
abbrev aat:=@Nat.le_trans
abbrev aau:=@List.mem_map
abbrev aav:=@List.getElem?_eq_some_iff
abbrev aaw:=@List.append_nil
abbrev aax:=@Sem.run_bind
abbrev aay:=@List.map_cons
abbrev aaz:=@Nat.lt_or_ge
abbrev aaA:=@List.take_of_length_le
abbrev aaB:=@List.mem_cons
abbrev aaC:=@List.mem_singleton
abbrev aaD:=@Int.le_refl
abbrev aaE:=@List.take_append_drop
abbrev aaF:=@Nat.eq_of_beq_eq_true
abbrev aaG:=@List.take_length
abbrev aaH:=@List.append_assoc
abbrev aaI:=@List.drop_eq_getElem_cons
abbrev aaJ:=@Bool.and_eq_true
abbrev aaK:=@List.take_take
abbrev aaL:=@List.cons_append
abbrev aaM:=@List.length_map
abbrev aaN:=@List.take_add_one
abbrev aaO:=@Nat.zero_add
abbrev aaP:=@List.drop_drop
abbrev aaQ:=@List.perm_middle
abbrev aaR:=@List.getD_eq_getElem?_getD
abbrev aaS:=@List.mem_of_mem_take
abbrev aaT:=@List.length_nil
abbrev aaU:=@Nat.mod_eq_of_lt
abbrev aaV:=@List.mem_of_mem_drop
abbrev aaW:=@Option.some.inj
abbrev aaX:=@List.all_eq_true
abbrev aaY:=@List.eq_nil_of_length_eq_zero
abbrev aaZ:=@Option.getD_some
abbrev aa0:=@List.getElem?_drop
abbrev aa1:=@List.map_append
abbrev aa2:=@List.drop_take
abbrev aa3:=@List.take_append_of_le_length
abbrev aa4:=@List.pairwise_cons
abbrev aa5:=@Int.eq_ofNat_of_zero_le
abbrev aa6:=@List.drop_length
abbrev aa7:=@Nat.eq_zero_or_pos
abbrev aa8:=@List.map_map
abbrev aa9:=@List.nodup_cons
abbrev aba:=@List.mem_cons_of_mem
abbrev abb:=@Nat.add_zero
abbrev abc:=@List.getElem?_append_right
abbrev abd:=@List.length_singleton
abbrev abe:=@List.mem_iff_getElem?
abbrev abf:=@List.getElem?_map
abbrev abg:=@Nat.le_of_lt
abbrev abh:=@Nat.mul_le_mul_right
abbrev abi:=@Option.map_some
abbrev abj:=@List.drop_of_length_le
abbrev abk:=@Nat.min_eq_left
abbrev abl:=@List.nil_append
abbrev abm:=@Int.ofNat_inj
abbrev abn:=@List.map_congr_left
abbrev abo:=@Nat.le_of_not_lt
abbrev abp:=@List.mem_cons_self
abbrev abq:=@Classical.byContradiction
abbrev abr:=@List.getElem?_cons_zero
abbrev abs:=@Option.getD_none
abbrev abt:=@List.getElem?_take_of_lt
abbrev abu:=@BitVec.ofInt_natCast
abbrev abv:=@BitVec.toNat_ofNat
abbrev abw:=@List.perm_append_singleton
abbrev abx:=@List.getElem_mem
abbrev aby:=@Nat.zero_mul
abbrev abz:=@List.length_pos_iff
abbrev abA:=@List.mem_filter
abbrev abB:=@Nat.min_self
abbrev abC:=@List.drop_zero
abbrev abD:=@List.pairwise_iff_getElem
abbrev abE:=@List.getElem?_append_left
abbrev abF:=@List.flatten_cons
abbrev abG:=@List.filter_append
abbrev abH:=@List.getLastD_eq_getLast?
abbrev abI:=@List.getElem?_set
abbrev abJ:=@List.pairwise_map
abbrev abK:=@List.nodup_iff_pairwise_ne
abbrev abL:=@List.getElem?_take
abbrev abM:=@List.flatMap_cons
abbrev abN:=@List.take_succ_cons
abbrev abO:=@Nat.pow_le_pow_right
abbrev abP:=@List.drop_append_of_le_length
abbrev abQ:=@Nat.succ_mul
abbrev abR:=@Nat.mod_lt
abbrev abS:=@List.take_zero
abbrev abT:=@Nat.sub_zero
abbrev abU:=@List.suffix_refl
abbrev abV:=@List.getElem?_set_ne
abbrev abW:=@Array.length_toList
abbrev abX:=@UInt8.toNat_ofNat_of_lt'
abbrev abY:=@Sem.run_pure
abbrev abZ:=@Array.toList_modify
abbrev ab0:=@Nat.add_sub_cancel_left
abbrev ab1:=@Option.map_none
abbrev ab2:=@Nat.le_add_right
abbrev ab3:=@List.map_set
abbrev ab4:=@Nat.le_total
abbrev ab5:=@Nat.max_eq_right
abbrev ab6:=@Nat.le_of_ble_eq_true
abbrev ab7:=@List.getElem?_of_mem
abbrev ab8:=@Array.getElem?_eq_some_iff
abbrev ab9:=@List.getElem?_set_self
abbrev aca:=@List.size_toArray
abbrev acb:=@Nat.mul_comm
abbrev acd:=@List.ext_getElem?
abbrev ace:=@List.take_append
abbrev acf:=@List.pairwise_append
abbrev acg:=@Nat.lt_of_lt_of_le
abbrev ach:=@Nat.pow_succ
abbrev aci:=@UInt8.toNat_inj
abbrev acj:=@Option.isSome_iff_exists
abbrev ack:=@Nat.sub_self
abbrev acl:=@List.nodup_append
abbrev acm:=@List.getLast?_eq_some_getLast
abbrev acn:=@Bool.eq_iff_iff
abbrev aco:=@List.set_append_right
abbrev acp:=@List.countP_eq_length_filter
abbrev acq:=@List.length_filter_le
abbrev acr:=@List.Nodup.length_le_of_subset
abbrev acs:=@List.filter_eq_self
abbrev act:=@Nat.lt_trichotomy
abbrev acu:=@Nat.max_eq_left
abbrev acv:=@List.mem_or_eq_of_mem_set
abbrev acw:=@Nat.ne_of_beq_eq_false
abbrev acx:=@Option.bind_eq_some_iff
abbrev acy:=@List.set_getElem_self
abbrev acz:=@Bool.not_eq_true'
abbrev acA:=@List.set_cons_succ
abbrev acB:=@Array.getElem?_eq_none
abbrev acC:=@Array.getElem?_toList
abbrev acD:=@Nat.two_pow_add_eq_or_of_lt
abbrev acE:=@Array.toList_push
abbrev acF:=@Bool.false_eq_true
abbrev acG:=@Nat.lt_succ_self
abbrev acH:=@Int.toNat_of_nonneg
abbrev acI:=@List.filter_cons_of_neg
abbrev acJ:=@List.filter_cons_of_pos
abbrev acK:=@List.drop_append
abbrev acL:=@Array.all_toList
abbrev acM:=@List.mem_reverse
abbrev acN:=@List.drop_eq_nil_of_le
abbrev acO:=@List.filter_cons
abbrev acP:=@List.flatMap_append
abbrev acQ:=@List.not_mem_nil
abbrev acR:=@Array.toList_eraseIdxIfInBounds
def aC {p : Prop} (h : p := by dsimp only; omega) : p := h
def a9 {α : Sort _} (a : α) : ∃x, x = a := ⟨_, rfl⟩
def sb {p : Prop} (h : p := by(repeat' first |exact trivial |refine⟨rfl, ?_⟩)) : p := h
section
abbrev Sl:=List (Nat×Value)
def look:Sl->Nat->Option Value
 |[],_=>none
 |(k,v)::r,t=>cond (Nat.beq k t) (some v) (look r t)
structure Ag (n:Nat) (l:Sl) (a:Act):Prop where
 size:a.tmps.size=n
 defers:a.defers=[]
 slot:∀t v,look l t=some v->a.tmps[t]?=some v
theorem Ag.put{n:Nat}{l:Sl}{a:Act}{d:Nat}{v:Value}(h:Ag n l a)(N:Nat.blt d n=true):
  Ag n ((d,v)::l) (a.put (some d) v):=by
 have hd':d<n:=ab6 N;refine⟨by simp[Act.put,h.size],h.defers,fun t u J=>?_⟩;simp only[look]at J;cases e:Nat.beq d t with
 |true=>
  have:d=t:=aaF e;subst this;rw[e]at J;simp only[cond_true,aae]at J;subst J;simp[Act.put,h.size,hd']
 |false=>
  rw[e]at J;simp only[cond_false]at J;have hne:d≠t:=acw e;rw[<-h.slot t u J];simp[Act.put,hne]
def ev(l:Sl):Operand->Option Value
 |.tmp t=>look l t
 |.const v=>some v
 |.global g=>some (.pointer (some ⟨g,0,none⟩))
 |.func f=>some (.func (.func f) #[] #[])
theorem Ag.ev{n:Nat}{l:Sl}{a:Act}(h:Ag n l a){x:Operand}{v:Value}(J:ev l x=some v):a.eval x=v:=by
 cases x with
 |tmp t=>simp[Act.eval,h.slot t v J]
 |const u=>simpa[En.ev,Act.eval]using J
 |global g=>simpa[En.ev,Act.eval]using J
 |func f=>simpa[En.ev,Act.eval]using J
def kP(l:Sl):Sl->Prop
 |[]=>True
 |(k,v)::r=>look l k=some v/\kP l r
theorem kP.look{l:Sl}:∀{J:Sl},kP l J->∀t v,look J t=some v->look l t=some v
 |[],_,t,v,h=>by simp[En.look]at h
 |(k,u)::r,hs,t,v,h=>by
  simp only[En.look]at h;cases e:Nat.beq k t with
  |true=>
   have:k=t:=aaF e;subst this;rw[e]at h;simp only[cond_true,aae]at h;subst h;exact hs.1
  |false=>
   rw[e]at h;exact kP.look hs.2 t v h
def Ag.sub{n:Nat}{l J:Sl}{a:Act}(h:Ag n l a)(hs:kP l J):Ag n J a:=
 ⟨h.size,h.defers,fun t v ht=>h.slot t v (hs.look t v ht)⟩
abbrev PH:=Nat->Option Obj
abbrev Ac:=List PH
abbrev Ao:=Value->PH->List PH->Prop
abbrev Ap(K:PH)(hs:List PH)(u v:Value)(a:PH)(b:List PH):Prop:=a=K/\b=hs/\v=u
structure a7 (w0 w:World) (K:PH) (hs:Ac):Prop where
 os:w.os=w0.os
 tape:w.tape=w0.tape
 output:w.output=w0.output
 size:w0.heap.size<=w.heap.size
 SV:∀b o,K b=some o->w.heap[b]?=some o
 own:∀(i:Nat) h,hs[i]?=some h->∀b o,h b=some o->w.heap[b]?=some o
 apart:∀(i:Nat) h,hs[i]?=some h->∀b o,h b=some o->K b=none
 sep:∀(i j:Nat) h h',hs[i]?=some h->hs[j]?=some h'->i≠j->∀b o,h b=some o->h' b=none
theorem a7.drew{w0 w:World}{K:PH}{hs:Ac}(h:a7 w0 w K hs):a7 w0 w.drew K hs:=
 ⟨h.os,h.tape,h.output,h.size,h.SV,h.own,h.apart,h.sep⟩
def a7.Qf{w0 w:World}{K:PH}{h:PH}{hs:Ac}(s:a7 w0 w K (h::hs)):a7 w0 w K hs:=
 ⟨s.os,s.tape,s.output,s.size,s.SV,fun i x J=>s.own (i+1) x (by simpa using J),fun i x J=>s.apart (i+1) x (by simpa using J),
  fun i j x y J O N=>s.sep (i+1) (j+1) x y (by simpa using J) (by simpa using O) qo⟩
def WL(P:Program)(w0:World)(ops:Ai)(Q:An)(rest:Aj)(n:Nat)(l:Sl)(K:PH)(hs:Ac):Prop:=
 ∀a w,Ag n l a->a7 w0 w K hs->wpList P ops Q rest a w
def WC(P:Program)(w0:World)(c:Code)(Q:An)(n:Nat)(l:Sl)(K:PH)(hs:Ac):Prop:=
 ∀a w,Ag n l a->a7 w0 w K hs->c.wp P Q a w
def WQ(w0:World)(Q:An)(e:Exit)(n:Nat)(l:Sl)(K:PH)(hs:Ac):Prop:=
 ∀a w,Ag n l a->a7 w0 w K hs->Q e a w
section code
variable {P:Program}{w0:World}{Q:An}{n:Nat}{l:Sl}{K:PH}{hs:Ac}
def sq{x y:Code}(h:WC P w0 x (Exit.then (y.wp P Q) Q) n l K hs):WC P w0 (.seq x y) Q n l K hs:=
 fun a w J N=>wp_seq (h a w J N)
def rg{id:Nat}{o:Aj}(h:WL P w0 o.toArray Q o n l K hs):WC P w0 (.region id o.toArray false) Q n l K hs:=
 fun a w J N=>wp_region_lit (h a w J N)
def bk{id:Nat}{c:Code}(h:WC P w0 c (Exit.inBlock id Q) n l K hs):WC P w0 (.block id c) Q n l K hs:=
 fun a w J N=>wp_block (h a w J N)
def ex{id:Nat}(h:WQ w0 Q (.exit id) n l K hs):WC P w0 (.exit id) Q n l K hs:=
 fun a w J N=>wp_exit (h a w J N)
def rt(h:WQ w0 Q .ret n l K hs):WC P w0 .ret Q n l K hs:=
 fun a w J N=>wp_ret (h a w J N)
def sk(h:WQ w0 Q .normal n l K hs):WC P w0 .skip Q n l K hs:=
 fun a w J N=>wp_skip (h a w J N)
def dk{c:Operand}{x y:Code}(N:ev l c=some (.bool true))(h:WC P w0 x Q n l K hs):WC P w0 (.cond c x y) Q n l K hs:=
 fun a w J O=>wp_cond_true (J.ev N) (h a w J O)
def bP{c:Operand}{x y:Code}(N:ev l c=some (.bool false))(h:WC P w0 y Q n l K hs):WC P w0 (.cond c x y) Q n l K hs:=
 fun a w J O=>wp_cond_false (J.ev N) (h a w J O)
def fw{c:Operand}{x y:Code}{b:Bool}(U:ev l c=some (.bool b))(h:b=true->WC P w0 x Q n l K hs)(O:b=false->WC P w0 y Q n l K hs):
  WC P w0 (.cond c x y) Q n l K hs:=
 fun a w J N=>wp_cond_split (J.ev U) (fun e=>h e a w J N) (fun e=>O e a w J N)
def nl{ops:Ai}(h:WQ w0 Q .normal n l K hs):WL P w0 ops Q [] n l K hs:=fun a w J N=>wpList_nil (h a w J N)
def th{y:Code}{Q':An}(h:WC P w0 y Q n l K hs):WQ w0 (Exit.then (y.wp P Q) Q') .normal n l K hs:=h
def bl{id:Nat}(h:WQ w0 Q .normal n l K hs):WQ w0 (Exit.inBlock id Q) .normal n l K hs:=h
def xt{id:Nat}{N:Act->World->Prop}(h:WQ w0 Q (.exit id) n l K hs):WQ w0 (Exit.then N Q) (.exit id) n l K hs:=h
def xb{id:Nat}(h:WQ w0 Q .normal n l K hs):WQ w0 (Exit.inBlock id Q) (.exit id) n l K hs:=fun a w J N=>by
 simpa[Exit.inBlock]using h a w J N
def xn{id id':Nat}(hne:Nat.beq id' id=false)(h:WQ w0 Q (.exit id') n l K hs):WQ w0 (Exit.inBlock id Q) (.exit id') n l K hs:=fun a w J N=>by
 have:id'≠id:=acw hne;simpa[Exit.inBlock,this]using h a w J N
def rT{N:Act->World->Prop}(h:WQ w0 Q .ret n l K hs):WQ w0 (Exit.then N Q) .ret n l K hs:=h
def rB{id:Nat}(h:WQ w0 Q .ret n l K hs):WQ w0 (Exit.inBlock id Q) .ret n l K hs:=h
theorem loop{σ:Type}{N:Code}(F:σ->Sl)(V:σ->PH)(H:σ->Ac)(J:σ->Prop)(X:σ->Nat)(O:σ)(h0:J O)(Z:kP l (F O))(hK:K=V O)(hH:hs=H O)
  (round:∀x,J x->WC P w0 N (Exit.then (fun a w=>∃U,J U/\X U<X x/\Ag n (F U) a/\a7 w0 w (V U) (H U)) Q) n (F x) (V x) (H x)):
  WC P w0 (.loop N) Q n l K hs:=fun a w ha hw=>by
 subst hK;subst hH;refine wp_loop_ghost (fun m a w=>∃x,J x/\X x=m/\Ag n (F x) a/\a7 w0 w (V x) (H x)) (X O) ⟨O,h0,I,ha.sub Z,hw⟩ ?_;rintro m a w ⟨x,hJ,rfl,Y,hS⟩;refine wp_mono (round x hJ a w Y hS) ?_
 grind
def bn{σ:Type}{F:σ->Sl}{U:σ->PH}{H:σ->Ac}{J:σ->Prop}{O:σ->Nat}{x:σ}{Q':An}(N:σ)(Y:kP l (F N))(hK:K=U N)(Z:hs=H N)
  (V:J N) (X:O N<O x):WQ w0 (Exit.then (fun a w=>∃N,J N/\O N<O x/\Ag n (F N) a/\a7 w0 w (U N) (H N)) Q') .normal n l K hs:=fun a w ha hw=>by
 subst hK;subst Z;exact⟨N,V,X,ha.sub Y,hw⟩
end code
def jD(P:Program)(f:FuncId):Bool:=match P.funcs[f]? with
 | some fn => fn.body.isSome && !(fn.name == "runtime.NumGoroutine")
 |none=>false
def fU(w0:World)(R:Ao):Ending->World->Prop:=fun e w'=>∃v J hs',e=.returned v/\R v J hs'/\a7 w0 w' J hs'
def Ct(P:Program)(w0:World)(f:FuncId)(args:Ad)(K:PH)(hs:Ac)(R:Ao):Prop:=
 jD P f=true/\∀w,a7 w0 w K hs->Calls P f args.toArray w (fU w0 R)
abbrev ai (w0 : World) (f : FuncId) (args : Ad) (K : PH) (hs : Ac) (R : Value -> PH -> Ac -> Prop) : Prop := Ct Tryz.prog w0 f args K hs R
theorem Ct.mono{P:Program}{w0:World}{f:FuncId}{args:Ad}{K:PH}{hs:Ac}{R R':Ao}(h:Ct P w0 f args K hs R)(V:∀v J hs',R v J hs'->R' v J hs'):
  Ct P w0 f args K hs R':=
 ⟨h.1,fun w X=>(h.2 w X).mono fun _ _ ⟨v,J,hs',N,O,U⟩=>⟨v,J,hs',N,V _ _ _ O,U⟩⟩
def params:Nat->Ad->Sl
 |_,[]=>[]
 |i,v::r=>(i,v)::params (i+1) r
theorem vO:∀(args:Ad) (i t:Nat) (v:Value),look (params i args) t=some v->i<=t/\args[t-i]?=some v
 |[],i,t,v,h=>by simp[params,look]at h
 |u::r,i,t,v,h=>by
  simp only[params,look]at h;cases e:Nat.beq i t with
  |true=>
   simp_all
  |false=>
   rw[e]at h;obtain⟨J,N⟩:=vO r (i+1) t v h
   grind
def enter{P:Program}{w0:World}{f:FuncId}{fn:Func}{c:Code}{n:Nat}{args:Ad}{K:PH}{hs:Ac}{R:Ao}
  (N:P.funcs[f]?=some fn) (J:jD P f=true) (hb:fn.body=some c) (hn:fn.ntmps=n) (hl:Nat.ble (eq args) n=true)
  (h:WC P w0 c (bodyPost P fn (fU w0 R)) n (params 0 args) K hs):Ct P w0 f args K hs R:=by
 refine⟨J,fun w hw=>calls_of_wp N hb (h _ w ⟨?_,I,?_⟩ hw)⟩
 ·simp_all
 intro t v ht;obtain⟨O,U⟩:=vO args 0 t v ht
 grind
section ret
variable {P:Program}{w0:World}{fn:Func}{R:Ao}{n:Nat}{l:Sl}{K:PH}{hs:Ac}
def jK(N:fn.results=#[])(h:R (.tuple #[]) K hs):WQ w0 (bodyPost P fn (fU w0 R)) .ret n l K hs:=
 fun _ _ J O=>bodyPost_ret (results_none N _ _ _) J.defers ⟨_,_,_,rfl,h,O⟩
def bZ(N:fn.results=#[])(h:R (.tuple #[]) K hs):WQ w0 (bodyPost P fn (fU w0 R)) .normal n l K hs:=
 fun _ _ J O=>bodyPost_end (results_none N _ _ _) J.defers ⟨_,_,_,rfl,h,O⟩
def af{t:Nat}{v:Value}(N:fn.results=#[.tmp t])(hv:look l t=some v)(h:R v K hs):WQ w0 (bodyPost P fn (fU w0 R)) .ret n l K hs:=
 fun _ _ J O=>bodyPost_ret (results_tmp N _ _ _) J.defers ⟨_,_,_,rfl,by simpa[J.slot t v hv]using h,O⟩
def bS{t u:Nat}{v x:Value}(N:fn.results=#[.tmp t,.tmp u])(hv:look l t=some v)(U:look l u=some x)(h:R (.tuple #[v,x]) K hs):WQ w0 (bodyPost P fn (fU w0 R)) .ret n l K hs:=
 fun _ _ J O=>bodyPost_ret (results_tmp2 N _ _ _) J.defers ⟨_,_,_,rfl,by simpa[J.slot t v hv,J.slot u x U]using h,O⟩
def fF{t u s:Nat}{v x y:Value}(N:fn.results=#[.tmp t,.tmp u,.tmp s])(hv:look l t=some v)(U:look l u=some x)(V:look l s=some y)(h:R (.tuple #[v,x,y]) K hs):
  WQ w0 (bodyPost P fn (fU w0 R)) .ret n l K hs:=
 fun _ _ J O=>bodyPost_ret (v:=.tuple #[v,x,y]) (by simp[results,N,J.slot t v hv,J.slot u x U,J.slot s y V,go_sem]) J.defers ⟨_,_,_,rfl,h,O⟩
end ret
def fW(ops:Ai)(l:Sl):Option (Nat×Bool)->Option Bool
 |none=>some true
 |some (j,J)=>match ops[j]? with
  |some o=>match o.dst with
   |some d=>match look l d with
    |some (.bool b)=>some (b==J)
    |some (.tuple _)=>some false
    |_=>none
   |none=>none
  |none=>none
def gQ{ops:Ai}{n:Nat}{l:Sl}{a:Act}{o:Oper}{b:Bool}(N:Ag n l a)(h:fW ops l o.guard=some b):Region.wanted o (yielded ops a.tmps)=b:=by
 unfold fW at h;unfold Region.wanted
 split at h
 ·rename_i e;simp[e]at *;exact h
 rename_i j J e;rw[e];simp only;cases hj:ops[j]? with
 |none=>simp[hj]at h
 |some O=>
  simp only[hj]at h;cases hd:O.dst with
  |none=>simp[hd]at h
  |some d=>
   simp only[hd]at h;cases hl:look l d with
   |none=>simp[hl]at h
   |some v=>
    simp only[hl]at h;have U:=N.slot d _ hl;cases v<;>simp at h
    all_goals simp_all[yielded]
inductive UK where
 |int (k:IntKind)|bool|str|slice|ptr|map|fn|other
def UK.fits:UK->TypeDesc->Bool
 |.int k,.int J=>k==J
 |.bool,.bool=>true
 |.str,.string=>true
 |.slice,.slice _=>true
 |.ptr,.pointer _=>true
 |.map,.map _ _=>true
 |.fn,.func _ _ _=>true
 |.other,_=>true
 |_,_=>false
def Ry{α:Type}:List (Nat×α)->Nat->Option α
 |[],_=>none
 |(k,v)::r,t=>cond (Nat.beq k t) (some v) (Ry r t)
theorem rE{α}:∀(l:List (Nat×α)) (t:Nat) (v:α),Ry l t=some v->(t,v)∈l
 |[],_,_,h=>by simp[Ry]at h
 |(k,u)::r,t,v,h=>by
  simp only[Ry]at h;cases e:Nat.beq k t with
  |true=>
   have:k=t:=aaF e;subst this;rw[e]at h;simp only[cond_true,aae]at h;simp[h]
  |false=>
   rw[e]at h;exact aba _ (rE r t v h)
structure iU where
 elem:Nat
 size:Nat
 bytes:Nat
 zero:Value
structure be where
 kinds:List (Nat×UK)
 SN:List (Nat×Nat)
 So:List (Nat×iU)
def UK.one:UK->Bool
 |.other=>false
 |_=>true
def be.SO(P:Program)(x:Nat×UK):Bool:=match P.underlying x.1 with
 |some d=>x.2.fits d&&(!x.2.one||(match P.info? x.1 with|some i=>i.size==1|none=>false))
 |none=>false
def yI(P:Program)(t:Nat):Option iU:=match P.underlying t with
 |some (.slice e)=>match P.info? e with
  |some i=>match i.zero with
   |some z=>some ⟨e,i.size,i.bytes,z⟩
   |none=>none
  |none=>none
 |_=>none
def be.Tl(P:Program)(x:Nat×Nat):Bool:=match P.underlying (x.1/64)with
 |some (.struct fs)=>match fs[x.1%64]? with
  |some J=>J.offset==x.2&&(match P.info? J.type with|some i=>i.size != 0|none=>false)
  |none=>false
 |_=>false
class a8 (P:Program) (T:outParam be):Prop where
 kinds:T.kinds.all (be.SO P)=true
 SN:T.SN.all (be.Tl P)=true
 So:T.So.map (fun x=>yI P x.1)=T.So.map (fun x=>some x.2)
def a8.sl{P:Program}{T:be}(h:a8 P T){t s}(hs:Ry T.So t=some s):
  P.underlying t=some (.slice s.elem)/\∃i,P.info? s.elem=some i/\i.zero=some s.zero/\i.size=s.size/\i.bytes=s.bytes:=by
 have J:yI P t=some s:=by
  have:=rE _ _ _ hs;obtain⟨k,O⟩:=ab7 this;have N:=congrArg (fun l=>l[k]?) h.So;simpa[O]using N
 unfold yI at J
 grind
theorem a8.one{P:Program}{T:be}(h:a8 P T){t k}(J:Ry T.kinds t=some k)(N:k.one=true):∃d i,P.underlying t=some d/\P.info? t=some i/\i.size=1/\k.fits d=true:=by
 have:=aaX.1 h.kinds _ (rE _ _ _ J);unfold be.SO at this
 grind
def a8.kind{P:Program}{T:be}(h:a8 P T){t k}(J:Ry T.kinds t=some k):∃d,P.underlying t=some d/\k.fits d=true:=by
 have:=aaX.1 h.kinds _ (rE _ _ _ J);unfold be.SO at this
 grind
theorem a8.int{P:Program}{T:be}(h:a8 P T){t k}(O:Ry T.kinds t=some (.int k)):P.underlying t=some (.int k):=by
 obtain⟨d,N,J⟩:=h.kind O;cases d<;>simp[UK.fits]at J;subst J;exact N
def a8.Uz{P:Program}{T:be}(h:a8 P T){s f off}(O:Nat.blt f 64=true)(V:Ry T.SN (s*64+f)=some off)(a w):
  (Instr.fieldAt s (.pointer (some a)) f).run P w=.ok (.pointer (some (a.add off))) w:=by
 have:=aaX.1 h.SN _ (rE _ _ _ V);have U:f<64:=ab6 O;unfold be.Tl at this;rw[show(s*64+f,off).1/64=s from by simp;omega,show(s*64+f,off).1%64=f from by simp;omega]at this;cases e:P.underlying s with
 |none=>simp[e]at this
 |some d=>
  cases d<;>simp[e]at this;rename_i fs;cases e2:fs[f]? with
  |none=>simp[e2]at this
  |some J=>
   simp only[e2,aaJ,beq_iff_eq]at this;obtain⟨X,N⟩:=this;cases e3:P.info? J.type with
   |none=>simp[e3]at N
   |some i=>
    simp_all[run_underlying,Instr.fieldAt,Instr.sureAddr,fieldPlace,sizeOf,typeInfo]
def na(op:BinOp)(u v:Value):Option Value:=
 match u,v with
 |.int k a,.int J b=>match op with
  |.shl=>cond (decide (0<=b)) (some (.int k (k.wrap (a*2^(min b.toNat k.bits))))) none
  |.shr=>cond (decide (0<=b)) (some (.int k (a.fdiv (2^(min b.toNat k.bits))))) none
  |op=>cond (decide (k=J)) (match op with
   |.add=>some (.int k (k.wrap (a+b)))
   |.sub=>some (.int k (k.wrap (a-b)))
   |.mul=>some (.int k (k.wrap (a*b)))
   |.quo=>cond (decide (b=0)) none (some (.int k (k.wrap (a.tdiv b))))
   |.rem=>cond (decide (b=0)) none (some (.int k (a.tmod b)))
   |.and=>some (.int k (k.wrap (BitVec.ofInt k.bits a &&& BitVec.ofInt k.bits b).toNat))
   |.or=>some (.int k (k.wrap (BitVec.ofInt k.bits a ||| BitVec.ofInt k.bits b).toNat))
   |.xor=>some (.int k (k.wrap (BitVec.ofInt k.bits a ^^^ BitVec.ofInt k.bits b).toNat))
   |.andNot=>some (.int k (k.wrap (BitVec.ofInt k.bits a &&& ~~~BitVec.ofInt k.bits b).toNat))
   |.eql=>some (.bool (a==b))
   |.neq=>some (.bool (a != b))
   |.lss=>some (.bool (decide (a<b)))
   |.leq=>some (.bool (decide (a<=b)))
   |.gtr=>some (.bool (decide (a>b)))
   |.geq=>some (.bool (decide (a>=b)))
   |_=>none) none
 |.string a,.string b=>match op with
  |.eql=>some (.bool (a.toList==b.toList))
  |.neq=>some (.bool !(a.toList==b.toList))
  |_=>none
 |_,_=>none
def zh(T:be)(t:Nat)(op:BinOp)(u v:Value):Option Value:=
 match op,Ry T.kinds t,u,v with
 |.eql,some .ptr,.pointer a,.pointer none=>some (.bool a.isNone)
 |.neq,some .ptr,.pointer a,.pointer none=>some (.bool !a.isNone)
 |.eql,some .slice,.slice a _ _,.slice none _ _=>some (.bool a.isNone)
 |.neq,some .slice,.slice a _ _,.slice none _ _=>some (.bool !a.isNone)
 |.eql,some .map,.map a,.map none=>some (.bool a.isNone)
 |.neq,some .map,.map a,.map none=>some (.bool !a.isNone)
 |.eql,some .bool,.bool a,.bool b=>some (.bool (a==b))
 |.neq,some .bool,.bool a,.bool b=>some (.bool !(a==b))
 |_,_,_,_=>none
def yL(op:UnOp)(u:Value):Option Value:=
 match op,u with
 |.not,.bool b=>some (.bool !b)
 |.neg,.int k n=>some (.int k (k.wrap (0-n)))
 |.xor,.int k n=>some (.int k (k.wrap (BitVec.ofInt k.bits (if k.signed then -1 else k.max) ^^^ BitVec.ofInt k.bits n).toNat))
 |_,_=>none
def ye(T:be)(t:Nat)(u:Value):Option Value:=
 match u with
 |.slice _ n _=>match Ry T.kinds t with|some .slice=>some (.int .i64 n)|_=>none
 |.string s=>match Ry T.kinds t with|some .str=>some (.int .i64 s.size)|_=>none
 |_=>none
def iY(T:be)(l:Sl):Op->Option Value
 |.move x|.assign x=>ev l x
 |.pick c a b=>match ev l c with
  |some (.bool N)=>cond N (ev l a) (ev l b)
  |_=>none
 |.nilCheck x=>match ev l x with
  |some (.pointer (some a))=>some (.pointer (some a))
  |some (.func (.func f) first J)=>some (.func (.func f) first J)
  |_=>none
 |.binOp op t x y _=>match ev l x,ev l y with
  |some u,some v=>match na op u v with
   |some r=>some r
   |none=>zh T t op u v
  |_,_=>none
 |.unOp op _ x=>match ev l x with
  |some u=>yL op u
  |none=>none
 |.extract t i=>match ev l t with
  |some (.tuple vs)=>vs[i]?
  |_=>none
 |.convert s d x=>match Ry T.kinds s,ev l x,Ry T.kinds d with
  |some _,some (.int _ n),some (.int k)=>some (.int k (k.wrap n))
  |_,_,_=>none
 |.fieldAddr s x f=>match ev l x with
  |some (.pointer (some a))=>match Nat.blt f 64,Ry T.SN (s*64+f)with
   |true,some off=>some (.pointer (some (a.add off)))
   |_,_=>none
  |_=>none
 |.call {callee:=.builtin .len,args,argTypes}=>match args.toList,argTypes.toList with
  |[x],[t]=>match ev l x with
   |some u=>ye T t u
   |none=>none
  |_,_=>none
 |.call {callee:=.builtin .max,args,..}=>match args.toList with
  |[x,y]=>match ev l x,ev l y with
   |some (.int k a),some (.int _ b)=>some (.int k (if b>a then b else a))
   |_,_=>none
  |_=>none
 |.call {callee:=.builtin .min,args,..}=>match args.toList with
  |[x,y]=>match ev l x,ev l y with
   |some (.int k a),some (.int _ b)=>some (.int k (if b<a then b else a))
   |_,_=>none
  |[x,y,z]=>match ev l x,ev l y,ev l z with
   |some (.int k a),some (.int _ b),some (.int _ c)=>some (.int k (if c<(if b<a then b else a)then c else(if b<a then b else a)))
   |_,_,_=>none
  |[x,y,z,u]=>match ev l x,ev l y,ev l z,ev l u with
   |some (.int k a),some (.int _ b),some (.int _ c),some (.int _ d)=>some (.int k (if d<(if c<(if b<a then b else a)then c else(if b<a then b else a))then d else(if c<(if b<a then b else a)then c else(if b<a then b else a))))
   |_,_,_,_=>none
  |_=>none
 |.makeFunc fn first J=>match first.toList,J.toList.mapM (ev l)with
  |[],some vs=>some (.func fn #[] vs.toArray)
  |_,_=>none
 |_=>none
def HL{P:Program}{op u v r}(h:na op u v=some r)(t w):(binOp op t u v).run P w=.ok r w:=by
 unfold na at h
 split at h
 ·rename_i k a N b
  split at h
  ·cases e:decide (0<=b)with
   |false=>simp[e]at h
   |true=>
    rw[e]at h;simp only[cond_true,aae]at h;subst h;have hb:¬b<0:=by have:=of_decide_eq_true e;omega
    simp[binOp,Op.shift,hb,go_sem]
  ·cases e:decide (0<=b)with
   |false=>simp[e]at h
   |true=>
    rw[e]at h;simp only[cond_true,aae]at h;subst h;have hb:¬b<0:=by have:=of_decide_eq_true e;omega
    simp[binOp,Op.shift,hb,go_sem]
  by_cases J:k=N
  ·subst J;simp only[decide_true,cond_true]at h
   split at h<;>first
    |(simp only[aae]at h;subst h;simp[binOp,Op.intArith,Op.intBits,Op.intCmp,go_sem];done)
    |(
      by_cases hb:b=0
      all_goals simp_all[binOp,Op.intDiv])
    |(simp at h;done)
  simp[J]at h
 ·split at h<;>first
   |simp_all[binOp,Op.stringOp]
   |(simp at h;done)
 simp at h
def IH{P:Program}{op u r}(h:yL op u=some r)(w):(Op.unary op u).run P w=.ok r w:=by
 unfold yL at h
 split at h<;>first
  |simp_all[Op.unary,Op.intArith,Op.intBits]
  |(simp at h;done)
def HJ{P:Program}{T:be}[hT:a8 P T]{t u r}(h:ye T t u=some r)(ty w):(Builtin.len_ #[t] ty #[u]).run P w=.ok r w:=by
 unfold ye at h
 split at h
 ·split at h
  ·rename_i e;obtain⟨d,N,J⟩:=hT.kind e;cases d<;>simp[UK.fits]at J
   simp_all[run_underlying,Builtin.len_,goInt]
  simp at h
 ·split at h
  ·rename_i e;obtain⟨d,N,J⟩:=hT.kind e;cases d<;>simp[UK.fits]at J
   simp_all[run_underlying,Builtin.len_,goInt]
  simp at h
 simp at h
def Hx{P:Program}{op u v r}(h:na op u v=some r)(t x y w):(eqGuard op t x y u v).run P w=.ok () w:=by
 unfold na at h;unfold eqGuard
 split at h
 all_goals simp_all
def mV{P:Program}{t:Nat}{u v b w}(h:∀d,(Op.equalIn (d+1) t u v).run P w=.ok b w):(Op.equal t u v).run P w=.ok b w:=h 9999
def Hm{P:Program}{T:be}[hT:a8 P T]{t op u v r}(h:zh T t op u v=some r)(x y w):
  (eqGuard op t x y u v).run P w=.ok () w/\(binOp op t u v).run P w=.ok r w:=by
 unfold zh at h
 split at h
 ·rename_i e;obtain⟨d,J,N⟩:=hT.kind e;cases d<;>simp[UK.fits]at N;simp only[aae]at h;subst h;rename_i a _;cases a<;>exact⟨by rfl,by simp only[binOp];rw[aax,mV (fun d=>by simp[Op.equalIn,run_underlying J];try rfl)];rfl⟩
 ·rename_i e;obtain⟨d,J,N⟩:=hT.kind e;cases d<;>simp[UK.fits]at N;simp only[aae]at h;subst h;rename_i a _;cases a<;>exact⟨by rfl,by simp only[binOp];rw[aax,mV (fun d=>by simp[Op.equalIn,run_underlying J];try rfl)];rfl⟩
 ·rename_i a _ _ _ _ e;obtain⟨d,J,N⟩:=hT.kind e;cases d<;>simp[UK.fits]at N;simp only[aae]at h;subst h;cases a<;>exact⟨by rfl,by simp only[binOp];rw[aax,mV (fun d=>by simp[Op.equalIn,run_underlying J];try rfl)];rfl⟩
 ·rename_i a _ _ _ _ e;obtain⟨d,J,N⟩:=hT.kind e;cases d<;>simp[UK.fits]at N;simp only[aae]at h;subst h;cases a<;>exact⟨by rfl,by simp only[binOp];rw[aax,mV (fun d=>by simp[Op.equalIn,run_underlying J];try rfl)];rfl⟩
 ·rename_i e;obtain⟨d,J,N⟩:=hT.kind e;cases d<;>simp[UK.fits]at N;simp only[aae]at h;subst h;rename_i a _ _;cases a<;>exact⟨by rfl,by simp only[binOp];rw[aax,mV (fun d=>by simp[Op.equalIn,run_underlying J];try rfl)];rfl⟩
 ·rename_i e;obtain⟨d,J,N⟩:=hT.kind e;cases d<;>simp[UK.fits]at N;simp only[aae]at h;subst h;rename_i a _ _;cases a<;>exact⟨by rfl,by simp only[binOp];rw[aax,mV (fun d=>by simp[Op.equalIn,run_underlying J];try rfl)];rfl⟩
 ·rename_i e;obtain⟨d,J,N⟩:=hT.kind e;cases d<;>simp[UK.fits]at N;simp only[aae]at h;subst h;exact⟨by rfl,by simp only[binOp];rw[aax,mV (fun d=>by simp[Op.equalIn,run_underlying J];try rfl)];rfl⟩
 ·rename_i e;obtain⟨d,J,N⟩:=hT.kind e;cases d<;>simp[UK.fits]at N;simp only[aae]at h;subst h;exact⟨by rfl,by simp only[binOp];rw[aax,mV (fun d=>by simp[Op.equalIn,run_underlying J];try rfl)];rfl⟩
 simp at h
theorem EE{l:Sl}{N:Operand->Value}(J:∀x v,ev l x=some v->N x=v):∀(ps:List Operand) (vs:Ad),ps.mapM (ev l)=some vs->ps.map N=vs
 |[],vs,h=>by simp at h;subst h;rfl
 |p::ps,vs,h=>by
  simp only[List.mapM_cons]at h;cases h1:ev l p with
  |none=>simp[h1]at h
  |some v=>
   cases h2:ps.mapM (ev l)with
   |none=>simp[h1,h2]at h
   |some r=>
    simp[h1,h2]at h;subst h;simp[J _ _ h1,EE J ps r h2]
theorem wj{P:Program}{T:be}[hT:a8 P T]{n:Nat}{l:Sl}{a:Act}{o:Oper}{v:Value}(h:iY T l o.op=some v)(Z:Ag n l a)(w:World):
  (execOp a.eval o).run P w=.ok (.value v) w:=by
 obtain⟨ab,op,aa,pos,V,guard⟩:=o;simp only at h;have N:∀x v,ev l x=some v->a.eval x=v:=fun _ _ hx=>Z.ev hx;clear Z;generalize a.eval=ρ at *;unfold iY at h;unfold execOp
 split at h
 ·simp[N _ _ h,go_sem]
 ·simp[N _ _ h,go_sem]
 ·rename_i c x y;cases hc:ev l c with
  |none=>simp[hc]at h
  |some vc=>
   rw[hc]at h;cases vc<;>simp only[reduceCtorEq]at h;rename_i b;cases b with
   |true=>simp_all[asBool]
   |false=>simp_all[asBool]
 ·rename_i x
  split at h
  ·rename_i e;simp only[aae]at h;subst h;simp[N _ _ e,go_sem]
  ·rename_i e;simp only[aae]at h;subst h;simp[N _ _ e,go_sem]
  simp at h
 ·rename_i op ty x y ad
  split at h
  ·rename_i u1 u2 U e2
   split at h
   ·simp_all[HL,Hx]
   obtain⟨h2,h1⟩:=Hm (hT:=hT) h x y w
   simp_all
  simp at h
 ·split at h
  all_goals simp_all[IH]
 ·split at h
  all_goals simp_all[Instr.extract]
 ·rename_i s d x
  split at h
  ·rename_i k1 kk n k U e2 Y;simp only[aae]at h;subst h;obtain⟨d1,g1,_⟩:=hT.kind U;simp[N _ _ e2,convert,run_underlying g1,run_underlying (hT.int Y),Conv.intToInt,go_sem]
  simp at h
 ·rename_i s x f
  split at h
  ·rename_i e
   split at h
   ·rename_i U e2;simp only[aae]at h;subst h;have h3:=hT.Uz U e2 (by assumption) w;simp[N _ _ e,h3]
   simp at h
  simp at h
 ·rename_i args J
  split at h
  ·rename_i x t U e2
   split at h
   ·rename_i u Y;have X:args=#[x]:=by cases args;simp_all
    have a2:J=#[t]:=by cases J;simp_all
    simp_all[HJ,resolve,invoke,builtin]
   simp at h
  simp at h
 ·rename_i args J
  split at h
  ·rename_i x y U
   split at h
   all_goals simp_all[resolve,invoke,builtin,Builtin.max_,Builtin.max2]
  simp at h
 ·rename_i args J
  split at h
  ·rename_i x y U
   split at h
   all_goals simp_all[resolve,invoke,builtin,Builtin.min_,Builtin.min2]
  ·rename_i x y z U
   split at h
   all_goals simp_all[resolve,invoke,builtin,Builtin.min_,Builtin.min2]
  ·rename_i x y z u U
   split at h
   all_goals simp_all[resolve,invoke,builtin,Builtin.min_,Builtin.min2]
  simp at h
 ·rename_i fn first O
  split at h
  ·rename_i vs U e2;have X:first=#[]:=by cases first;simp_all
   subst X;have h6:=EE N _ _ e2
   have h7:O.map ρ=vs.toArray:=by
    apply Array.ext'
    simpa using h6
   simp_all[Instr.makeFunc]
  simp at h
 simp at h
abbrev sg(b:Nat)(o:Obj):PH:=fun x=>if x=b then some o else none
abbrev pt(b:Nat)(c:Ah)(ty:Nat)(fr:Nat×Nat:=(0,0)):PH:=sg b (.cells c ty fr)
def em:PH:=fun _=>none
def co(h:PH)(a:Addr)(v:Value):Prop:=a.spot=none/\∃c ty fr,h a.block=some (.cells c ty fr)/\c[a.off]?=some v
def In(K:PH)(hs:Ac)(h:PH):Prop:=h=K\/∃i:Nat,hs[i]?=some h
section mem
variable {w0 w w':World}{K:PH}{hs:Ac}
def a7.block(s:a7 w0 w K hs){h:PH}(hi:In K hs h){b:Nat}{o:Obj}(hb:h b=some o):w.heap[b]?=some o:=by
 rcases hi with rfl|⟨i,hi⟩
 ·exact s.SV b o hb
 exact s.own i h hi b o hb
theorem a7.cell(s:a7 w0 w K hs){h:PH}(hi:In K hs h){a:Addr}{v:Value}(N:co h a v):w.cell? a=some v:=by
 obtain⟨J,c,ty,fr,hb,hv⟩:=N;have:=s.block hi hb;simp[World.cell?,this,J,hv]
def lA{w:World}{b o}(h:w.heap[b]?=some o):b<w.heap.size:=(ab8.1 h).1
theorem a7.alloc(s:a7 w0 w K hs)(o:Obj):a7 w0 (w.alloc o) K (sg w.heap.size o::hs):=by
 have Jd:∀b,b<w.heap.size->(w.alloc o).heap[b]?=w.heap[b]?:=fun b hb=>RowKit.Below.heap_alloc w o b hb;refine⟨s.os,s.tape,s.output,?_,?_,?_,?_,?_⟩
 ·have:=s.size;simp;omega
 ·intro b J h;have:=s.SV b J h;rw[Jd b (lA this)];exact this
 ·intro i h hi b J hb;cases i with
  |zero=>
   simp only[abr,aae]at hi;subst hi;simp only[sg]at hb
   grind[heap_alloc_new]
  |succ i=>
   have:=s.own i h (by simpa using hi) b J hb;rw[Jd b (lA this)];exact this
 ·intro i h hi b J hb;cases i with
  |zero=>
   simp only[abr,aae]at hi;subst hi;simp only[sg]at hb
   split at hb
   ·rename_i e;subst e;cases hk:K w.heap.size with
    |none=>rfl
    |some x=>have:=lA (s.SV _ _ hk);omega
   cases hb
  |succ i=>exact s.apart i h (by simpa using hi) b J hb
 intro i j h N hi hj O b J hb;cases i with
 |zero=>
  simp only[abr,aae]at hi;subst hi;simp only[sg]at hb
  split at hb
  ·rename_i e;subst e;cases j with
   |zero=>omega
   |succ j=>
    cases hk:N w.heap.size with
    |none=>rfl
    |some x=>have:=lA (s.own j N (by simpa using hj) _ _ hk);omega
  cases hb
 |succ i=>
  cases j with
  |zero=>
   simp only[abr,aae]at hj;subst hj;have:=lA (s.own i h (by simpa using hi) b J hb)
   grind
  |succ j=>exact s.sep i j h N (by simpa using hi) (by simpa using hj) qo b J hb
def a7.T3(s:a7 w0 w K hs){i:Nat}{h h':PH}(hi:hs[i]?=some h)(ab:w'.os=w.os)(ae:w'.tape=w.tape)(aa:w'.output=w.output)(ad:w.heap.size<=w'.heap.size)
  (ag:∀b o,h' b=some o->w'.heap[b]?=some o) (O:∀b,b<w.heap.size->h b=none->w'.heap[b]?=w.heap[b]?) (N:∀b o,h' b=some o->h b=none->w.heap.size<=b):
  a7 w0 w' K (hs.set i h'):=by
 have V:i<eq hs:=(aav.1 hi).1;refine⟨ab.trans s.os,ae.trans s.tape,aa.trans s.output,aat s.size ad,?_,?_,?_,?_⟩
 ·intro b o hb;have Y:=s.SV b o hb;rw[O b (lA Y) ?_]
  ·exact Y
  cases hh:h b with
  |none=>rfl
  |some x=>have:=s.apart i h hi b x hh;rw[this]at hb;cases hb
 ·intro j g hj b o hb
  by_cases J:i=j
  ·simp_all
  rw[abV J]at hj;have Y:=s.own j g hj b o hb;rw[O b (lA Y) (s.sep j i g h hj hi (Ne.symm J) b o hb)];exact Y
 ·intro j g hj b o hb
  by_cases J:i=j
  ·subst J;rw[ab9 V]at hj;cases hj;cases hh:h b with
   |some x=>exact s.apart i h hi b x hh
   |none=>
    have:=N b o hb hh;cases U:K b with
    |none=>rfl
    |some x=>have:=lA (s.SV b x U);omega
  rw[abV J]at hj;exact s.apart j g hj b o hb
 intro j k g g' hj U X b o hb
 by_cases J:i=j
 ·subst J;rw[ab9 V]at hj;cases hj;rw[abV X]at U;cases hh:h b with
  |some x=>exact s.sep i k h g' hi U X b x hh
  |none=>
   have:=N b o hb hh;cases hg:g' b with
   |none=>rfl
   |some x=>have:=lA (s.own k g' U b x hg);omega
 rw[abV J]at hj
 by_cases Z:i=k
 ·subst Z;rw[ab9 V]at U;cases U;cases hg:h' b with
  |none=>rfl
  |some x=>
   have Y:=lA (s.own j g hj b o hb);have h2:=s.sep j i g h hj hi (Ne.symm J) b o hb;have:=N b x hg h2;omega
 rw[abV Z]at U;exact s.sep j k g g' hj U X b o hb
theorem a7.setRow(s:a7 w0 w K hs){i b:Nat}{c:Ah}{ty:Nat}{fr:Nat×Nat}(hi:hs[i]?=some (pt b c ty fr))(J:Ah):
  a7 w0 (w.setRow b J) K (hs.set i (pt b J ty fr)):=by
 have hb:w.heap[b]?=some (.cells c ty fr):=s.own i _ hi b _ Q8;refine s.T3 hi I I I Q8 ?_ ?_ ?_
 ·intro x o N;simp only[pt,sg]at N
  grind[setRow_heap]
 ·intro x N hn;simp only[pt,sg]at hn
  grind[setRow_other]
 simp
theorem a7.setCell(s:a7 w0 w K hs){i b off:Nat}{c:Ah}{ty:Nat}{fr:Nat×Nat}(hi:hs[i]?=some (pt b c ty fr))(v:Value):
  a7 w0 (w.setCell ⟨b,off,none⟩ v) K (hs.set i (pt b (c.setIfInBounds off v) ty fr)):=by
 have hb:w.heap[b]?=some (.cells c ty fr):=s.own i _ hi b _ Q8;rw[setCell_eq_setRow w b off c ty fr v hb];exact s.setRow hi _
def a7.RU(s:a7 w0 w K hs):a7 w0 w K (em::hs):=by
 refine⟨s.os,s.tape,s.output,s.size,s.SV,?_,?_,?_⟩
 ·intro i h hi b o hb;cases i with
  |zero=>simp only[abr,aae]at hi;subst hi;simp[em]at hb
  |succ i=>exact s.own i h (by simpa using hi) b o hb
 ·intro i h hi b o hb;cases i with
  |zero=>simp only[abr,aae]at hi;subst hi;simp[em]at hb
  |succ i=>exact s.apart i h (by simpa using hi) b o hb
 intro i j h J hi hj N b o hb;cases i with
 |zero=>simp only[abr,aae]at hi;subst hi;simp[em]at hb
 |succ i=>
  cases j with
  |zero=>simp only[abr,aae]at hj;subst hj;rfl
  |succ j=>exact s.sep i j h J (by simpa using hi) (by simpa using hj) qo b o hb
theorem co.pt{b off c ty fr v}(h:c[off]?=some v):co (pt b c ty fr) ⟨b,off,none⟩ v:=
 ⟨rfl,c,ty,fr,Q8,h⟩
end mem
def iO(T:be)(ops:Ai)(n:Nat):Nat->Aj->Sl->Option (Aj×Sl)
 |0,r,l=>some (r,l)
 |_+1,[],_=>none
 |k+1,o::r,l=>match o.dst with
  |none=>none
  |some d=>match Nat.blt d n,fW ops l o.guard with
   |true,some true=>match iY T l o.op with
    |some v=>iO T ops n k r ((d,v)::l)
    |none=>none
   |true,some false=>iO T ops n k r ((d,undef)::l)
   |_,_=>none
section rules
variable {P:Program}{T:be}{w0:World}{ops:Ai}{Q:An}{rest rest':Aj}{n:Nat}{l l':Sl}{K:PH}{hs:Ac}
def WL.val{o:Oper}{d:Nat}{R:Ao}(Y:o.dst=some d)(hb:Nat.blt d n=true)(hg:fW ops l o.guard=some true)
  (h:∀a w,Ag n l a->a7 w0 w K hs->∃v w' J hs',(execOp a.eval o).run P w=.ok (.value v) w'/\a7 w0 w' J hs'/\R v J hs')
  (Z:∀v J hs',R v J hs'->WL P w0 ops Q rest n ((d,v)::l) J hs'):WL P w0 ops Q (o::rest) n l K hs:=by
 intro a w O hw;obtain⟨v,w',J,hs',N,U,X⟩:=h a w O hw;have V:=gQ O hg;unfold wpList;rw[aab V];refine .inl ?_;unfold Oper.wp;rw[N];simp only[Oper.upon,Y];exact Z v J hs' X _ _ (O.put hb) U
abbrev Dx:=@WL.val
def WL.RZ{o:Oper}{U:PH}{hs':Ac}(X:o.dst=none)(hg:fW ops l o.guard=some true)
  (h:∀a w,Ag n l a->a7 w0 w K hs->∃w',(execOp a.eval o).run P w=.ok .skip w'/\a7 w0 w' U hs')
  (Y:WL P w0 ops Q rest n l U hs'):WL P w0 ops Q (o::rest) n l K hs:=by
 intro a w N Z;obtain⟨w',J,O⟩:=h a w N Z;have V:=gQ N hg;unfold wpList;rw[aab V];refine .inl ?_;unfold Oper.wp;rw[J];simp only[Oper.upon,X,Act.put];exact Y _ _ N O
def WL.SH{o:Oper}{d:Nat}(O:o.dst=some d)(hb:Nat.blt d n=true)(hg:fW ops l o.guard=some false)
  (U:WL P w0 ops Q rest n ((d,undef)::l) K hs):WL P w0 ops Q (o::rest) n l K hs:=by
 intro a w J V;have N:=gQ J hg;unfold wpList;rw[aaa (by simp[N]),O];exact U _ _ (J.put hb) V
theorem WL.SG[hT:a8 P T]{o:Oper}{d:Nat}{v:Value}(X:o.dst=some d)(hb:Nat.blt d n=true)(hg:fW ops l o.guard=some true)(hv:iY T l o.op=some v)
  (Y:WL P w0 ops Q rest n ((d,v)::l) K hs):WL P w0 ops Q (o::rest) n l K hs:=
 Dx (R:=fun u J hs'=>u=v/\J=K/\hs'=hs) X hb hg (fun a w V Z=>⟨v,w,K,hs,wj hv V w,Z,rfl,rfl,rfl⟩)
  (fun u J hs' ⟨N,O,U⟩=>by subst N;subst O;subst U;exact Y)
theorem WL.Sh[hT:a8 P T]:∀(k:Nat) {rest:Aj} {l:Sl},iO T ops n k rest l=some (rest',l')->WL P w0 ops Q rest' n l' K hs->WL P w0 ops Q rest n l K hs
 |0,rest,l,h,J=>by simp only[iO,aae,aah]at h;obtain⟨rfl,rfl⟩:=h;exact J
 |k+1,[],l,h,J=>by simp[iO]at h
 |k+1,o::r,l,h,J=>by
  simp only[iO]at h;cases hd:o.dst with
  |none=>simp[hd]at h
  |some d=>
   simp only[hd]at h;cases hb:Nat.blt d n with
   |false=>simp[hb]at h
   |true=>
    cases hg:fW ops l o.guard with
    |none=>simp[hb,hg]at h
    |some g=>
     cases g with
     |true=>
      simp only[hb,hg]at h;cases hv:iY T l o.op with
      |none=>simp[hv]at h
      |some v=>
       simp only[hv]at h;exact WL.SG hd hb hg hv (WL.Sh k h J)
     |false=>
      simp only[hb,hg]at h;exact WL.SH hd hb hg (WL.Sh k h J)
abbrev Bc:=@WL.Sh
def eN(T:be)(ops:Ai)(n k:Nat)(rest:Aj)(l:Sl):Option (Oper×Aj×Sl):=
 match iO T ops n k rest l with
 |some (o::r,l')=>match fW ops l' o.guard with
  |some true=>some (o,r,l')
  |_=>none
 |_=>none
theorem WL.Td[hT:a8 P T]{k:Nat}{o:Oper}(h:eN T ops n k rest l=some (o,rest',l'))(J:fW ops l' o.guard=some true->WL P w0 ops Q (o::rest') n l' K hs):WL P w0 ops Q rest n l K hs:=by
 unfold eN at h
 split at h
 ·rename_i O U N hp
  split at h
  ·rename_i hg;simp only[aae,aah]at h;obtain⟨rfl,rfl,rfl⟩:=h;exact Bc k hp (J hg)
  simp at h
 simp at h
abbrev Ec:=@WL.Td
def mh(T:be)(ops:Ai)(n k:Nat)(rest:Aj)(l:Sl):Option (Nat×Value×Aj×Sl):=
 match eN T ops n k rest l with
 |some (o,r,l')=>match o.dst with
  |some d=>match Nat.blt d n,iY T l' o.op with
   |true,some v=>some (d,v,r,l')
   |_,_=>none
  |none=>none
 |none=>none
def H4{k d:Nat}{v:Value}(h:mh T ops n k rest l=some (d,v,rest',l')):∃o,eN T ops n k rest l=some (o,rest',l')/\o.dst=some d/\Nat.blt d n=true/\iY T l' o.op=some v:=by
 unfold mh at h
 grind
theorem ar[hT:a8 P T](k:Nat){d:Nat}{v v':Value}(h:mh T ops n k rest l=some (d,v,rest',l'))(N:v=v')(O:WL P w0 ops Q rest' n ((d,v')::l') K hs):
  WL P w0 ops Q rest n l K hs:=by
 obtain⟨o,ho,J,hb,hv⟩:=H4 h;subst N;exact Ec ho fun hg=>WL.SG J hb hg hv O
def GO:BinOp->Int->Int->Option Prop
 |.lss,a,b=>some (a<b)
 |.leq,a,b=>some (a<=b)
 |.gtr,a,b=>some (b<a)
 |.geq,a,b=>some (b<=a)
 |.eql,a,b=>some (a=b)
 |.neq,a,b=>some (¬a=b)
 |_,_,_=>none
def zo(T:be)(ops:Ai)(n k:Nat)(rest:Aj)(l:Sl):Option (Nat×Prop×Aj×Sl):=
 match eN T ops n k rest l with
 |some (o,r,l')=>match o.dst,o.op with
  |some d,.binOp op _ x y _=>match Nat.blt d n,ev l' x,ev l' y with
   |true,some (.int k a),some (.int J b)=>match decide (k=J),GO op a b with
    |true,some p=>some (d,p,r,l')
    |_,_=>none
   |_,_,_=>none
  |_,_=>none
 |none=>none
def bc[hT:a8 P T](k:Nat){d:Nat}{p:Prop}(h:zo T ops n k rest l=some (d,p,rest',l'))
  (hy:p->WL P w0 ops Q rest' n ((d,.bool true)::l') K hs) (hn:¬p->WL P w0 ops Q rest' n ((d,.bool false)::l') K hs):WL P w0 ops Q rest n l K hs:=by
 unfold zo at h
 split at h
 ·rename_i o r l2 ho
  split at h
  ·rename_i d' op ty x y aa hd V
   split at h
   ·rename_i Z a k2 b hb hx Y
    split at h
    ·rename_i p' hk hp;simp only[aae,aah]at h;obtain⟨rfl,rfl,rfl,rfl⟩:=h;have U:Z=k2:=of_decide_eq_true hk;subst U
     have key:∀N,na op (.int Z a) (.int Z b)=some (.bool N)->(p'↔N=true)->WL P w0 ops Q rest n l K hs:=fun N O J=>by
      refine Ec ho fun hg=>WL.SG hd hb hg (v:=.bool N) (by rw[V];simp only[iY,hx,Y,O]) ?_;cases N with
      |true=>exact hy (J.2 rfl)
      |false=>exact hn (fun X=>by have:=J.1 X;cases this)
     cases op<;>simp only[GO,aae,reduceCtorEq]at hp<;>subst hp
     all_goals grind[na]
    simp at h
   simp at h
  simp at h
 simp at h
def cb[hT:a8 P T](k:Nat){d:Nat}{b:Bool}(h:mh T ops n k rest l=some (d,.bool b,rest',l'))
  (J:b=true->WL P w0 ops Q rest' n ((d,.bool true)::l') K hs) (hn:b=false->WL P w0 ops Q rest' n ((d,.bool false)::l') K hs):WL P w0 ops Q rest n l K hs:=by
 cases b with
 |true=>exact ar k h rfl (J rfl)
 |false=>exact ar k h rfl (hn rfl)
def fin[hT:a8 P T](k:Nat)(h:iO T ops n k rest l=some ([],l'))(J:WQ w0 Q .normal n l' K hs):WL P w0 ops Q rest n l K hs:=
 Bc k h (nl J)
end rules
def aj(h:PH)(ao:Ab)(n cap size:Nat)(xs:Ad):Prop:=
 eq xs=n*size/\n<=cap/\∀(j:Nat) u,xs[j]?=some u->∃a,ao=some a/\co h (a.add j) u
def aJ(h:PH)(ao:Ab)(n cap e size:Nat)(xs:Ad):Prop:=
 eq xs=n*size/\n<=cap/\cap<=maxLen/\((ao=none/\cap=0/\h=em) \/
  ∃g off J,ao=some ⟨g,off,none⟩/\h=pt g J e/\J.size=off+cap*size/\(J.toList.drop off).take (n*size)=xs)
def bf(g off k):(⟨g,off,none⟩:Addr).add k=⟨g,off+k,none⟩:=by simp[Addr.add]
def aJ.Ni{h:PH}{ao:Ab}{n cap e size:Nat}{xs:Ad}(o:aJ h ao n cap e size xs):aj h ao n cap size xs:=by
 obtain⟨N,O,_,U⟩:=o;refine⟨N,O,?_⟩;rcases U with⟨rfl,rfl,rfl⟩|⟨g,off,J,rfl,rfl,hs,ht⟩
 ·simp_all
 intro j u V;refine⟨_,I,?_⟩;rw[bf];refine co.pt ?_
 grind
def aJ.nil(e size):aJ em none 0 0 e size []:=⟨Q8,aac _,aad _,.inl ⟨rfl,rfl,rfl⟩⟩
def aj.nil(h:PH)(ao:Ab)(cap size:Nat):aj h ao 0 cap size []:=⟨Q8,aad _,Q8⟩
def aJ.Re{b c e n size}(J:c.size=n*size)(N:n<=maxLen):aJ (pt b c e) (some ⟨b,0,none⟩) n n e size c.toList:=
 ⟨qo,aac _,N,.inr ⟨b,0,c,rfl,rfl,qo,by rw[abC,<-J,<-abW];exact aaG⟩⟩
def aj.addr{h:PH}{ao:Ab}{n cap size:Nat}{xs:Ad}(x:aj h ao n cap size xs){j:Nat}(hj:j<n)(hs:0<size):∃a,ao=some a:=by
 obtain⟨J,_,N⟩:=x;have:0<eq xs:=by rw[J];exact Nat.mul_pos qo hs
 obtain⟨a,O,_⟩:=N 0 xs[0] Q8;exact⟨a,O⟩
section rules
variable {P:Program}{T:be}{w0:World}{ops:Ai}{Q:An}{rest rest':Aj}{n:Nat}{l l':Sl}{K:PH}{hs:Ac}
def pD{w}[hT:a8 P T]{t k}(V:Ry T.kinds t=some k)(J:k.one=true){a v}(X:w.cell? a=some v):
  (Instr.loadAt t (.pointer (some a))).run P w=.ok v w:=by
 obtain⟨d,i,O,hi,hs,U⟩:=hT.one V J
 have N:(isAgg t).run P w=.ok false w:=by
  cases d<;>cases k<;>simp[UK.fits,UK.one]at U J<;>simp[isAgg,run_underlying O]
 simp_all[Instr.loadAt,Instr.sureAddr,loadVar]
def If{w}[hT:a8 P T]{t k}(O:Ry T.kinds t=some k)(N:k.one=true){a v u}(U:w.cell? a=some u)(X:w.frozen? a=false)(hv:v.oneCell'=true):
  (Instr.storeAt t (.pointer (some a)) v).run P w=.ok () (w.setCell a v):=by
 obtain⟨d,i,V,hi,hs,_⟩:=hT.one O N;have J:v.cells=#[v]:=by cases v<;>simp[Value.oneCell',Value.cells]at hv⊢
 simp_all[run_store,Addr.add,Instr.storeAt,Instr.sureAddr,storeVar,sizeOf,typeInfo,storeCells]
def uY(T:be)(ops:Ai)(n k:Nat)(rest:Aj)(l:Sl):Option (Nat×Addr×Aj×Sl):=
 match eN T ops n k rest l with
 |some (o,r,l')=>match o.dst,o.op with
  |some d,.load t x=>match Nat.blt d n,Ry T.kinds t,ev l' x with
   |true,some kd,some (.pointer (some a))=>cond kd.one (some (d,a,r,l')) none
   |_,_,_=>none
  |_,_=>none
 |none=>none
def ld[hT:a8 P T](k:Nat){d:Nat}{a:Addr}{v:Value}{h:PH}(h0:uY T ops n k rest l=some (d,a,rest',l'))(hm:In K hs h)(Y:co h a v)
  (hk:WL P w0 ops Q rest' n ((d,v)::l') K hs):WL P w0 ops Q rest n l K hs:=by
 unfold uY at h0
 split at h0
 ·rename_i o r l2 ho
  split at h0
  ·rename_i d' t x Z N
   split at h0
   ·rename_i kd a' hb J hx;cases h1:kd.one with
    |false=>simp[h1]at h0
    |true=>
     simp only[h1,cond_true,aae,aah]at h0;obtain⟨rfl,rfl,rfl,rfl⟩:=h0;refine Ec ho fun hg=>Dx (R:=fun u O hs'=>u=v/\O=K/\hs'=hs) Z hb hg (fun A w X U=>⟨v,w,K,hs,?_,U,I,I,I⟩) ?_
     ·have V:=pD (P:=P) J h1 (U.cell hm Y);simp only[execOp,N,X.ev hx];simp[V]
     rintro u O hs' ⟨rfl,rfl,rfl⟩;exact hk
   simp at h0
  simp at h0
 simp at h0
def aX[hT:a8 P T](k i:Nat){d b off ty:Nat}{v:Value}{c:Ah}{fr:Nat×Nat}(h0:uY T ops n k rest l=some (d,⟨b,off,none⟩,rest',l'))(hi:hs[i]?=some (pt b c ty fr))(hv:c[off]?=some v)
  (J:WL P w0 ops Q rest' n ((d,v)::l') K hs):WL P w0 ops Q rest n l K hs:=
 ld k h0 (.inr ⟨i,hi⟩) (co.pt hv) J
def zz(T:be)(ops:Ai)(n k:Nat)(rest:Aj)(l:Sl):Option (Addr×Value×Aj×Sl):=
 match eN T ops n k rest l with
 |some (o,r,l')=>match o.dst,o.op with
  |none,.store t x y=>match Ry T.kinds t,ev l' x,ev l' y with
   |some kd,some (.pointer (some a)),some v=>cond kd.one (some (a,v,r,l')) none
   |_,_,_=>none
  |_,_=>none
 |none=>none
def Ji[hT:a8 P T](k i:Nat){b off ty:Nat}{v u:Value}{c:Ah}(h0:zz T ops n k rest l=some (⟨b,off,none⟩,v,rest',l'))(hi:hs[i]?=some (pt b c ty))(hu:c[off]?=some u)(hv:v.oneCell'=true)
  (hk:WL P w0 ops Q rest' n l' K (hs.set i (pt b (c.setIfInBounds off v) ty))):WL P w0 ops Q rest n l K hs:=by
 unfold zz at h0
 split at h0
 ·rename_i o r l2 ho
  split at h0
  ·rename_i t x y Y N
   split at h0
   ·rename_i kd a' v' J hx hy;cases h1:kd.one with
    |false=>simp[h1]at h0
    |true=>
     simp only[h1,cond_true,aae,aah]at h0;obtain⟨rfl,rfl,rfl,rfl⟩:=h0;refine Ec ho fun hg=>WL.RZ Y hg (fun A w U O=>⟨_,?_,O.setCell hi (off:=off) v'⟩) hk;have hb:w.heap[b]?=some (.cells c ty (0,0)):=O.own i _ hi b _ Q8;have X:w.cell? ⟨b,off,none⟩=some u:=O.cell (.inr ⟨i,hi⟩) (co.pt hu);have Z:w.frozen? ⟨b,off,none⟩=false:=by simp[World.frozen?,hb]
     have V:=If (P:=P) J h1 X Z hv;simp only[execOp,N,U.ev hx,U.ev hy];simp[V]
   simp at h0
  simp at h0
 simp at h0
def GR(T:be)(ops:Ai)(n k:Nat)(rest:Aj)(l:Sl):Option (Nat×Nat×Value×Aj×Sl):=
 match eN T ops n k rest l with
 |some (o,r,l')=>match o.dst,o.op with
  |some d,.box e x=>match Nat.blt d n,ev l' x with
   |true,some v=>some (d,e,v,r,l')
   |_,_=>none
  |_,_=>none
 |none=>none
def bx[hT:a8 P T](k:Nat){d e:Nat}{v:Value}(h0:GR T ops n k rest l=some (d,e,v,rest',l'))
  (X:∀b,WL P w0 ops Q rest' n ((d,Rp b)::l') K (pt b v.cells e::hs)):WL P w0 ops Q rest n l K hs:=by
 unfold GR at h0
 split at h0
 ·rename_i o r l2 ho
  split at h0
  ·rename_i d' O x V J
   split at h0
   ·rename_i v' hb Z;simp only[aae,aah]at h0;obtain⟨rfl,rfl,rfl,rfl,rfl⟩:=h0
    refine Ec ho fun hg=>Dx (R:=fun u N hs'=>∃b,u=Rp b/\N=K/\hs'=pt b v'.cells O::hs) V hb hg
     (fun A w U Y=>⟨.pointer (some ⟨w.heap.size,0,none⟩),_,K,_,?_,Y.alloc _,w.heap.size,rfl,rfl,rfl⟩) ?_
    ·simp only[execOp,J,U.ev Z]
     rfl
    rintro u N hs' ⟨b,rfl,rfl,rfl⟩;exact X b
   simp at h0
  simp at h0
 simp at h0
def GX(T:be)(ops:Ai)(n k:Nat)(rest:Aj)(l:Sl):Option (Nat×Nat×Aj×Sl):=
 match eN T ops n k rest l with
 |some (o,r,l')=>match o.dst,o.op with
  |some d,.alloc e=>match Nat.blt d n with
   |true=>some (d,e,r,l')
   |_=>none
  |_,_=>none
 |none=>none
def al[hT:a8 P T](k:Nat){d e:Nat}(z:Value)(h0:GX T ops n k rest l=some (d,e,rest',l'))(Y:(P.info? e).bind (·.zero)=some z)
  (U:∀b,WL P w0 ops Q rest' n ((d,Rp b)::l') K (pt b z.cells e::hs)):WL P w0 ops Q rest n l K hs:=by
 unfold GX at h0
 split at h0
 ·rename_i o r l2 ho
  split at h0
  ·rename_i d' N O V
   split at h0
   ·rename_i hb;simp only[aae,aah]at h0;obtain⟨rfl,rfl,rfl,rfl⟩:=h0
    refine Ec ho fun hg=>Dx (R:=fun u J hs'=>∃b,u=Rp b/\J=K/\hs'=pt b z.cells N::hs) O hb hg
     (fun A w ha X=>⟨.pointer (some ⟨w.heap.size,0,none⟩),_,K,_,?_,X.alloc _,w.heap.size,rfl,rfl,rfl⟩) ?_
    ·obtain⟨i,hi,Z⟩:=acx.1 Y
     simp_all[execOp,Instr.alloc,newVar,newRow,zeroValue,typeInfo]
    rintro u J hs' ⟨b,rfl,rfl,rfl⟩;exact U b
   simp at h0
  simp at h0
 simp at h0
def GS(T:be)(ops:Ai)(n k:Nat)(rest:Aj)(l:Sl):Option (Nat×iU×Nat×List (Nat×Value)×Aj×Sl):=
 match eN T ops n k rest l with
 |some (o,r,l')=>match o.dst,o.op with
  |some d,.buildSlice t len J=>match Nat.blt d n,Ry T.So t,J.toList.mapM (fun x=>(ev l' x.2).map (fun v=>(x.1,v)))with
   |true,some N,some vs=>some (d,N,len,vs,r,l')
   |_,_,_=>none
  |_,_=>none
 |none=>none
theorem ud{a:Act}{N:Nat}{l:Sl}(J:Ag N l a):∀(ps:List (Nat×Operand)) (vs:List (Nat×Value)),ps.mapM (fun x=>(ev l x.2).map (fun v=>(x.1,v)))=some vs->ps.map (fun x=>(x.1,a.eval x.2))=vs
 |[],vs,h=>by simp at h;subst h;rfl
 |p::ps,vs,h=>by
  simp only[List.mapM_cons]at h;cases h1:ev l p.2 with
  |none=>simp[h1]at h
  |some v=>
   cases h2:ps.mapM (fun x=>(ev l x.2).map (fun v=>(x.1,v)))with
   |none=>simp[h1,h2]at h
   |some r=>
    simp[h1,h2]at h;subst h;simp[J.ev h1,ud J ps r h2]
def lit[hT:a8 P T](k:Nat){d len:Nat}{O:iU}{vs:List (Nat×Value)}(N:Ah)(h0:GS T ops n k rest l=some (d,O,len,vs,rest',l'))(ae:len*O.size<=16777216)
  (Y:Instr.fill (fun i=>some (i*O.size,O.size)) ((Array.range (len*O.size)).map (fun i=>(if len*O.size=0 then(#[]:Ah)else O.zero.cells)[i%(if len*O.size=0 then(#[]:Ah)else O.zero.cells).size]!)) vs=some N)
  (hk:∀b,WL P w0 ops Q rest' n ((d,.slice (some ⟨b,0,none⟩) len len)::l') K (pt b N O.elem::hs)):WL P w0 ops Q rest n l K hs:=by
 unfold GS at h0
 split at h0
 ·rename_i o r l2 ho
  split at h0
  ·rename_i d' t J U hd Z
   split at h0
   ·rename_i V ad hb aa ab;simp only[aae,aah]at h0;obtain⟨rfl,rfl,rfl,rfl,rfl,rfl⟩:=h0
    refine Ec ho fun hg=>Dx (R:=fun u K' hs'=>∃b,u=.slice (some ⟨b,0,none⟩) J J/\K'=K/\hs'=pt b N V.elem::hs) hd hb hg
     (fun A w ha hw=>⟨.slice (some ⟨w.heap.size,0,none⟩) J J,_,K,_,?_,hw.alloc _,w.heap.size,rfl,rfl,rfl⟩) ?_
    ·obtain⟨h1,i,h2,h3,h4,h5⟩:=hT.sl aa;have h6:=ud ha _ _ ab;have h7:(U.map fun(i,x)=>(i,A.eval x)).toList=ad:=by simpa using h6
     simp only[execOp,Z];have h8:¬(16777216<J*V.size):=qo
     by_cases X:J*V.size=0
     ·rw[aab X]at Y;simp[Instr.buildSlice,run_underlying h1,sizeOf,typeInfo,h2,h4,X,newRow,zeroValue,h3]
      simp_all
     simp only[aaa X]at Y;simp[Instr.buildSlice,run_underlying h1,sizeOf,typeInfo,h2,h4,h8,X,newRow,zeroValue,h3];rw[h6];simp[Y]
    rintro u K' hs' ⟨b,rfl,rfl,rfl⟩;exact hk b
   simp at h0
  simp at h0
 simp at h0
end rules
def vC{P:Program}{w0 w:World}{K:PH}{hs:Ac}(s:a7 w0 w K hs){h:PH}(hm:In K hs h){ao:Ab}{n cap size:Nat}{xs:Ad}(x:aj h ao n cap size xs):
  (Builtin.firstCells size n (.slice ao n cap)).run P w=.ok xs.toArray w:=by
 obtain⟨O,Y,N⟩:=x;cases ao with
 |none=>
  have:xs=[]:=by
   cases xs with
   |nil=>rfl
   |cons u r=>obtain⟨a,J,_⟩:=N 0 u Q8;cases J
  subst this
  rfl
 |some a=>
  refine run_firstCells_some (P:=P) w size n a n cap xs O fun j u V=>?_;obtain⟨X,J,U⟩:=N j u V;cases J;exact s.cell hm U
def Hq{P:Program}{w0 w:World}{K:PH}{hs:Ac}(t ty e:TypeId)(i:TypeInfo)(z:Value)(ht:P.underlying t=some (.slice e))(hi:P.info? e=some i)(hz:i.zero=some z)
  (az:z.cells.size=i.size) (s:a7 w0 w K hs) {j:Nat} {h h2:PH} (hj:hs[j]?=some h) {ao aa:Ab} {n cap m c2:Nat} {xs J:Ad} (o:aJ h ao n cap e i.size xs)
  (hm:In K hs h2) (x:aj h2 aa m c2 i.size J) (av:0<i.size) (h1:∀u∈J,u.oneCell'=true) (hb:(n+m)*i.bytes<=2^47) (ab:n+m<=maxLen):
  ∃Z V h' w',(Builtin.append_ #[t,t] ty #[.slice ao n cap,.slice aa m c2]).run P w=.ok (.slice Z (n+m) V) w'/\aJ h' Z (n+m) V e i.size (xs++J)/\a7 w0 w' K (hs.set j h'):=by
 have hf:=vC (P:=P) s hm x;have X:eq (xs++J)=(n+m)*i.size:=by rw[aaj,o.1,x.1,Nat.add_mul]
 have aq:=o.Ni;obtain⟨o1,o2,o3,o4⟩:=o
 by_cases U:n+m<=cap
 ·rcases o4 with⟨rfl,rfl,rfl⟩|⟨g,off,N,rfl,rfl,ad,ay⟩
  ·obtain rfl:n=0:=qo
   obtain rfl:m=0:=qo
   obtain rfl:xs=[]:=aaY qo;obtain rfl:J=[]:=aaY (by simpa using x.1);refine⟨none,0,em,w,?_,aJ.nil e i.size,?_⟩
   ·simp[Builtin.append_,run_underlying ht,sizeOf,typeInfo,hi,Builtin.lenOf,hf]
   grind[List.set_getElem_self]
  have hg:w.heap[g]?=some (.cells N e (0,0)):=s.own j _ hj g _ Q8
  have aA:off+n*i.size+eq J<=N.size:=by
   rw[x.1,ad,Nat.add_assoc,<-Nat.add_mul]
   simp_all[abh]
  have ag:=run_storeCells_at P g (off+n*i.size) e J 0 N w hg qo h1;simp only[abb]at ag;refine⟨some ⟨g,off,none⟩,cap,_,_,?_,⟨X,U,o3,.inr ⟨g,off,(N.toList.take (off+n*i.size)++J++N.toList.drop (off+n*i.size+eq J)).toArray,I,I,?_,?_⟩⟩,s.setRow hj _⟩
  ·simp[Builtin.append_,run_underlying ht,sizeOf,typeInfo,hi,Builtin.lenOf,U,hf,bf,ag]
  all_goals grind
 have ae:0<m:=qo
 obtain⟨a2,rfl⟩:=x.addr ae av
 have Y:∀(j:Nat) v,J[j]?=some v->w.cell? (a2.add j)=some v:=fun j v hv=>by
  obtain⟨a',ha,hc⟩:=x.2.2 j v hv;cases ha;exact s.cell hm hc
 have ak:∀Jd,Jd<n+m->aJ (pt w.heap.size (xs.toArray++J.toArray++Builtin.zeroCells z.cells (grownCap w (n+m) Jd e-(n+m))) e) (some ⟨w.heap.size,0,none⟩) (n+m) (grownCap w (n+m) Jd e) e i.size (xs++J) /\
   a7 w0 (w.drew.alloc (.cells (xs.toArray++J.toArray++Builtin.zeroCells z.cells (grownCap w (n+m) Jd e-(n+m))) e)) K (hs.set j (pt w.heap.size (xs.toArray++J.toArray++Builtin.zeroCells z.cells (grownCap w (n+m) Jd e-(n+m))) e)):=by
  intro Jd ho;have an:=grownCap_ge w (n+m) Jd e;have am:grownCap w (n+m) Jd e<=maxLen:=grownCap_le_maxLen w (n+m) Jd e ab;refine⟨⟨X,an,am,.inr ⟨_,0,_,I,I,?_,?_⟩⟩,?_⟩
  ·simp only[Array.size_append,aca,size_zeroCells,az,o1,x.1,<-Nat.add_mul,aaO]
   congr 1
   omega
  ·grind
  refine s.T3 hj I I I Q8 ?_ ?_ ?_
  ·intro b ob O;simp only[pt,sg]at O
   split at O
   ·rename_i e1;subst e1;cases O;exact heap_alloc_new w.drew _
   cases O
  ·intro b O _;exact RowKit.Below.heap_alloc w.drew _ b O
  simp
 rcases o4 with⟨rfl,rfl,rfl⟩|⟨g,off,N,rfl,rfl,ad,ay⟩
 ·obtain rfl:n=0:=qo
  obtain rfl:xs=[]:=aaY qo;have hr:=run_append_nil (P:=P) w t ty e i z ht hi hz a2 m c2 J x.1 Y ae (by simp only[maxLen]at ab;omega) (by simp only[aaO]at hb;omega)
  grind
 have ap:∀(k:Nat) u,xs[k]?=some u->w.cell? ((⟨g,off,none⟩:Addr).add k)=some u:=fun k u hu=>by
  obtain⟨a',ha,hc⟩:=aq.2.2 k u hu;cases ha;exact s.cell (.inr ⟨j,hj⟩) hc
 grind[run_append_grow,growslice_fits,maxLen]
section rules
variable {P:Program}{T:be}{w0:World}{ops:Ai}{Q:An}{rest rest':Aj}{n:Nat}{l l':Sl}{K:PH}{hs:Ac}
def kE(T:be)(ops:Ai)(n k:Nat)(rest:Aj)(l:Sl):Option (Nat×iU×(Ab×Nat×Nat)×(Ab×Nat×Nat)×Aj×Sl):=
 match eN T ops n k rest l with
 |some (o,r,l')=>match o.dst,o.op with
  |some d,.call {callee:=.builtin .append,args,argTypes}=>match args.toList,argTypes.toList with
   |[x,y],[t,X]=>match Nat.blt d n,Nat.beq t X,Ry T.So t,ev l' x,ev l' y with
    |true,true,some V,some (.slice J O N),some (.slice a2 U c2)=>some (d,V,(J,O,N),(a2,U,c2),r,l')
    |_,_,_,_,_=>none
   |_,_=>none
  |_,_=>none
 |none=>none
theorem app[hT:a8 P T](k i:Nat){d:Nat}{V:iU}{ao aa:Ab}{n1 c1 n2 c2:Nat}{h h2:PH}{xs U:Ad}(h0:kE T ops n k rest l=some (d,V,(ao,n1,c1),(aa,n2,c2),rest',l'))
  (hi:hs[i]?=some h) (o:aJ h ao n1 c1 V.elem V.size xs) (hm:In K hs h2) (x:aj h2 aa n2 c2 V.size U) (hz:V.zero.cells.size=V.size) (ab:0<V.size) (h1:∀u∈U,u.oneCell'=true)
  (hb:(n1+n2)*V.bytes<=2^47) (ak:n1+n2<=maxLen)
  (hk:∀O J X,aJ X O (n1+n2) J V.elem V.size (xs++U)->WL P w0 ops Q rest' n ((d,.slice O (n1+n2) J)::l') K (hs.set i X)):WL P w0 ops Q rest n l K hs:=by
 unfold kE at h0
 split at h0
 ·rename_i oo r l2 ho
  split at h0
  ·rename_i d' args N hd an
   split at h0
   ·rename_i x' y' t t' e1 e2
    split at h0
    ·rename_i Y a1 m1 k1 a2 m2 k2 am aq ap hx hy;simp only[aae,aah]at h0;obtain⟨rfl,rfl,⟨rfl,rfl,rfl⟩,⟨rfl,rfl,rfl⟩,rfl,rfl⟩:=h0;have ad:t=t':=aaF aq;subst ad;have ae:args=#[x',y']:=by cases args;simp_all
     have ag:N=#[t,t]:=by cases N;simp_all
     subst ae;subst ag;obtain⟨g1,ii,g2,g3,g4,g5⟩:=hT.sl ap
     refine Ec ho fun hg=>Dx (R:=fun u K' hs'=>∃O J X,u=.slice O (m1+m2) J/\aJ X O (m1+m2) J Y.elem Y.size (xs++U)/\K'=K/\hs'=hs.set i X) hd am hg
      (fun A w ha hw=>?_) ?_
     ·rw[<-g4]at o x hz ab;rw[<-g5]at hb;obtain⟨O,J,X,w',hr,Z,hs'⟩:=Hq (P:=P) t oo.type Y.elem ii Y.zero g1 g2 g3 hz hw hi o hm x ab h1 hb ak;refine⟨_,w',K,_,?_,hs',O,J,X,I,by rw[<-g4];exact Z,I,I⟩;simp only[execOp,an];simp[resolve,invoke,builtin,ha.ev hx,ha.ev hy,hr]
     rintro u K' hs' ⟨O,J,X,rfl,Z,rfl,rfl⟩;exact hk O J X Z
    simp at h0
   simp at h0
  simp at h0
 simp at h0
def zE(T:be)(ops:Ai)(n k:Nat)(rest:Aj)(l:Sl):Option (Nat×iU×(Ab×Nat×Nat)×Int×Aj×Sl):=
 match eN T ops n k rest l with
 |some (o,r,l')=>match o.dst,o.op with
  |some d,.indexAddr t x i=>match Nat.blt d n,Ry T.So t,ev l' x,ev l' i with
   |true,some U,some (.slice J O N),some (.int _ j)=>some (d,U,(J,O,N),j,r,l')
   |_,_,_,_=>none
  |_,_=>none
 |_=>none
def dZ[hT:a8 P T](k:Nat){d:Nat}{N:iU}{ao:Ab}{X c1:Nat}{i:Int}{h:PH}{xs:Ad}(j:Nat)
  (h0:zE T ops n k rest l=some (d,N,(ao,X,c1),i,rest',l')) (hj:i=(j:Int)) (x:aj h ao X c1 N.size xs) (J:j<X) (V:0<N.size)
  (hk:∀a,ao=some a->WL P w0 ops Q rest' n ((d,.pointer (some (a.add (j*N.size))))::l') K hs):WL P w0 ops Q rest n l K hs:=by
 unfold zE at h0
 split at h0
 ·rename_i o r l2 ho
  split at h0
  ·rename_i d' t x' i' hd O
   split at h0
   ·rename_i Y a1 m1 k1 kk jj hb U hx hi;simp only[aae,aah]at h0;obtain⟨rfl,rfl,⟨rfl,rfl,rfl⟩,rfl,rfl,rfl⟩:=h0;subst hj;obtain⟨g1,ii,g2,g3,g4,g5⟩:=hT.sl U;obtain⟨a,rfl⟩:=x.addr J V;refine Ec ho fun hg=>Dx (R:=fun u Z hs'=>u=.pointer (some (a.add (j*Y.size)))/\Z=K/\hs'=hs) hd hb hg (fun A w ha hw=>⟨_,w,K,hs,?_,hw,I,I,I⟩) ?_
    ·have h1:(j:Int)<(m1:Int):=qo
     simp only[execOp,O,ha.ev hx,ha.ev hi];simp[Instr.indexAt,asIntOf,run_underlying g1,sizeOf,typeInfo,g2,g4,J]
    rintro u Z hs' ⟨rfl,rfl,rfl⟩;exact hk a I
   simp at h0
  simp at h0
 simp at h0
def ej[hT:a8 P T](k:Nat){d:Nat}{Y:iU}{ao:Ab}{U V:Nat}{i:Int}{h:PH}{xs:Ad}{u:Value}(j:Nat)
  (h0:zE T ops n k rest l=some (d,Y,(ao,U,V),i,rest',l')) (hj:i=(j:Int)) (N:Y.size=1) (x:aj h ao U V 1 xs) (X:xs[j]?=some u)
  (hk:∀a,co h a u->WL P w0 ops Q rest' n ((d,.pointer (some a))::l') K hs):WL P w0 ops Q rest n l K hs:=by
 have O:j<U:=by
  have h1:=(aav.1 X).1;have h2:=x.1;omega
 refine dZ k j h0 hj (h:=h) (xs:=xs) (by rw[N];exact x) O qo fun a Z=>?_;obtain⟨a',J,hc⟩:=x.2.2 j u X;rw[Z]at J;cases J;rw[N,aaf];exact hk _ hc
def qh(T:be)(ops:Ai)(n k:Nat)(rest:Aj)(l:Sl):Option (Nat×iU×(Ab×Nat×Nat)×Option Int×Option Int×Aj×Sl):=
 match eN T ops n k rest l with
 |some (o,r,l')=>match o.dst,o.op with
  |some d,.slice t x none none none=>match Nat.blt d n,Ry T.So t,ev l' x with
   |true,some U,some (.slice J O N)=>some (d,U,(J,O,N),none,none,r,l')
   |_,_,_=>none
  |some d,.slice t x (some lo) none none=>match Nat.blt d n,Ry T.So t,ev l' x,ev l' lo with
   |true,some U,some (.slice J O N),some (.int _ i)=>some (d,U,(J,O,N),some i,none,r,l')
   |_,_,_,_=>none
  |some d,.slice t x none (some hi) none=>match Nat.blt d n,Ry T.So t,ev l' x,ev l' hi with
   |true,some U,some (.slice J O N),some (.int _ i)=>some (d,U,(J,O,N),none,some i,r,l')
   |_,_,_,_=>none
  |some d,.slice t x (some lo) (some hi) none=>match Nat.blt d n,Ry T.So t,ev l' x,ev l' lo,ev l' hi with
   |true,some U,some (.slice J O N),some (.int _ i),some (.int _ j)=>some (d,U,(J,O,N),some i,some j,r,l')
   |_,_,_,_,_=>none
  |_,_=>none
 |_=>none
def dE(ao:Ab)(cap lo size:Nat):Ab:=if cap=lo then ao else ao.map (·.add (lo*size))
def tE{k d:Nat}{si:iU}{ao:Ab}{n1 c1:Nat}{lo hi:Option Int}[hT:a8 P T](L H:Nat)
  (h0:qh T ops n k rest l=some (d,si,(ao,n1,c1),lo,hi,rest',l')) (hL:lo.getD 0=(L:Int)) (hH:hi.getD n1=(H:Int)) (h1:L<=H) (h2:H<=c1):
  ∃o,eN T ops n k rest l=some (o,rest',l')/\o.dst=some d/\Nat.blt d n=true /\
   ∀a w,Ag n l' a->(execOp a.eval o).run P w=.ok (.value (.slice (dE ao c1 L si.size) (H-L) (c1-L))) w:=by
 unfold qh at h0
 split at h0
 ·rename_i o r l2 ho;have ae:(L:Int)<=(H:Int):=qo
  have ad:(H:Int)<=(c1:Int):=qo
  split at h0
  ·rename_i d' t x X J
   split at h0
   ·rename_i Z a1 m1 k1 hb N Y;simp only[aae,aah]at h0;obtain⟨rfl,rfl,⟨rfl,rfl,rfl⟩,rfl,rfl,rfl,rfl⟩:=h0;refine⟨o,ho,X,hb,fun a w O=>?_⟩;obtain⟨U,ii,V,g3,g4,g5⟩:=hT.sl N;simp only[abs]at hL hH;obtain rfl:L=0:=qo
    obtain rfl:m1=H:=qo
    simp only[execOp,J,O.ev Y];simp[Instr.sliceAt,Instr.slice,run_underlying U,Instr.sliceBounds,sizeOf,typeInfo,V,dE]
   simp at h0
  ·rename_i d' t x ab X J
   split at h0
   ·rename_i Z a1 m1 k1 kk i hb N Y hi;simp only[aae,aah]at h0;obtain⟨rfl,rfl,⟨rfl,rfl,rfl⟩,rfl,rfl,rfl,rfl⟩:=h0;refine⟨o,ho,X,hb,fun a w O=>?_⟩;obtain⟨U,ii,V,g3,g4,g5⟩:=hT.sl N;simp only[abs,aaZ]at hL hH;subst hL;obtain rfl:m1=H:=qo
    simp only[execOp,J,O.ev Y,abi,O.ev hi];simp[Instr.sliceAt,Instr.slice,run_underlying U,Instr.sliceBounds,Instr.sliceBound,asIntOf,sizeOf,typeInfo,V,g4,dE,h1]
   simp at h0
  ·rename_i d' t x aa X J
   split at h0
   ·rename_i Z a1 m1 k1 kk i hb N Y hi;simp only[aae,aah]at h0;obtain⟨rfl,rfl,⟨rfl,rfl,rfl⟩,rfl,rfl,rfl,rfl⟩:=h0;refine⟨o,ho,X,hb,fun a w O=>?_⟩;obtain⟨U,ii,V,g3,g4,g5⟩:=hT.sl N;simp only[abs,aaZ]at hL hH;obtain rfl:L=0:=qo
    subst hH;simp only[execOp,J,O.ev Y,abi,O.ev hi];simp[Instr.sliceAt,Instr.slice,run_underlying U,Instr.sliceBounds,Instr.sliceBound,asIntOf,sizeOf,typeInfo,V,dE,h2]
   simp at h0
  ·rename_i d' t x ab aa X J
   split at h0
   ·rename_i Z a1 m1 k1 kk i ag j hb N Y hi hj;simp only[aae,aah]at h0;obtain⟨rfl,rfl,⟨rfl,rfl,rfl⟩,rfl,rfl,rfl,rfl⟩:=h0;refine⟨o,ho,X,hb,fun a w O=>?_⟩;obtain⟨U,ii,V,g3,g4,g5⟩:=hT.sl N;simp only[aaZ]at hL hH;subst hL;subst hH;simp only[execOp,J,O.ev Y,abi,O.ev hi,O.ev hj];simp[Instr.sliceAt,Instr.slice,run_underlying U,Instr.sliceBounds,Instr.sliceBound,asIntOf,sizeOf,typeInfo,V,g4,dE,h1,h2]
   simp at h0
  simp at h0
 simp at h0
def aj.cut{h:PH}{ao:Ab}{V J size:Nat}{xs ys:Ad}(x:aj h ao V J size xs)(L N:Nat)(Z:L+N<=V)(U:(xs.drop (L*size)).take (N*size)=ys):
  aj h (dE ao J L size) N (J-L) size ys:=by
 obtain⟨X,h2,Y⟩:=x;have ab:L*size+N*size<=eq xs:=by rw[X,<-Nat.add_mul];exact abh _ Z
 refine⟨by rw[<-U];simp;omega,qo,fun j u O=>?_⟩;rw[<-U]at O
 have hj:j<N*size:=by
  grind
 rw[abt hj,aa0]at O;obtain⟨a,ha,hc⟩:=Y _ u O;have aa:N≠0:=fun e=>by rw[e]at hj;omega
 refine⟨a.add (L*size),by rw[dE,aaa qo,ha];rfl,?_⟩
 grind[Addr.add]
def sl[hT:a8 P T](k:Nat){d:Nat}{O:iU}{ao:Ab}{Y X:Nat}{lo hi:Option Int}{h:PH}{xs ys:Ad}(L N:Nat)
  (h0:qh T ops n k rest l=some (d,O,(ao,Y,X),lo,hi,rest',l')) (x:aj h ao Y X O.size xs) (hL:lo.getD 0=(L:Int)) (hH:hi.getD Y=((L+N:Nat):Int)) (hN:L+N<=Y)
  (hy:(xs.drop (L*O.size)).take (N*O.size)=ys)
  (hk:∀U J,aj h U N J O.size ys->WL P w0 ops Q rest' n ((d,.slice U N J)::l') K hs):WL P w0 ops Q rest n l K hs:=by
 obtain⟨o,ho,hd,hb,V⟩:=tE (P:=P) L (L+N) h0 hL hH qo (by have:=x.2.1;omega);refine Ec ho fun hg=>Dx (R:=fun u Z hs'=>u=.slice (dE ao X L O.size) N (X-L)/\Z=K/\hs'=hs) hd hb hg (fun A w ha hw=>⟨_,w,K,hs,V A w ha,hw,?_,I,I⟩) ?_
 ·simp
 rintro u Z hs' ⟨rfl,rfl,rfl⟩;exact hk _ _ (x.cut L N hN hy)
theorem WL.enter{o:Oper}{d g:Nat}{vs:Ad}{R:Ao}(Y:o.dst=some d)(hb:Nat.blt d n=true)(hg:fW ops l o.guard=some true)
  (h:∀a w,Ag n l a->(execOp a.eval o).run P w=.ok (.enter g vs.toArray) w) (X:Ct P w0 g vs K hs R)
  (Z:∀v J hs',R v J hs'->WL P w0 ops Q rest n ((d,v)::l) J hs'):WL P w0 ops Q (o::rest) n l K hs:=by
 intro a w N hw;have U:=gQ N hg;unfold wpList;rw[aab U];refine .inl ?_;unfold Oper.wp;rw[h a w N];simp only[Oper.upon];refine(X.2 w hw).mono ?_;rintro e w' ⟨v,J,hs',rfl,V,O⟩;simp only[Y];exact Z v J hs' V _ _ (N.put hb) O
def GP(T:be)(ops:Ai)(n k:Nat)(rest:Aj)(l:Sl):Option (Nat×Nat×Ad×Aj×Sl):=
 match eN T ops n k rest l with
 |some (o,r,l')=>match o.dst,o.op with
  |some d,.call {callee:=.value f,args,..}=>match Nat.blt d n,ev l' f,args.toList.mapM (ev l')with
   |true,some (.func (.func g) first J),some vs=>some (d,g,first.toList++(vs++J.toList),r,l')
   |_,_,_=>none
  |_,_=>none
 |_=>none
theorem yT{a:Act}{N:Nat}{l:Sl}(J:Ag N l a):∀(ps:List Operand) (vs:Ad),ps.mapM (ev l)=some vs->ps.map a.eval=vs
 |[],vs,h=>by simp at h;subst h;rfl
 |p::ps,vs,h=>by
  simp only[List.mapM_cons]at h;cases h1:ev l p with
  |none=>simp[h1]at h
  |some v=>
   cases h2:ps.mapM (ev l)with
   |none=>simp[h1,h2]at h
   |some r=>
    simp[h1,h2]at h;subst h;simp[J.ev h1,yT J ps r h2]
def cl[hT:a8 P T](k:Nat){d g:Nat}{vs:Ad}{R:Ao}(h0:GP T ops n k rest l=some (d,g,vs,rest',l'))(hc:Ct P w0 g vs K hs R)
  (hk:∀v K' hs',R v K' hs'->WL P w0 ops Q rest' n ((d,v)::l') K' hs'):WL P w0 ops Q rest n l K hs:=by
 unfold GP at h0
 split at h0
 ·rename_i o r l2 ho
  split at h0
  ·rename_i d' f args ats hd hop
   split at h0
   ·rename_i g' first captured vs' hb hf hvs
    simp only[aae,aah]at h0;obtain⟨rfl,rfl,rfl,rfl,rfl⟩:=h0;refine Ec ho fun hg=>WL.enter hd hb hg (fun A w ha=>?_) hc hk;have h6:=yT ha _ _ hvs
    have h7:args.map A.eval=vs'.toArray:=by
     apply Array.ext'
     simpa using h6
    have hcal:=hc.1;unfold jD at hcal;simp only[execOp,hop];cases hfn:P.funcs[g']? with
    |none=>simp[hfn]at hcal
    |some fn=>
     simp only[hfn,aaJ,acz]at hcal;have hbn:¬fn.body=none:=fun e=>by simp[e]at hcal
     have hnm : ¬ fn.name = "runtime.NumGoroutine" := by simpa using hcal.2
     simp[resolve,h7,ha.ev hf,Deferred.ofValue,invoke,callFunc,hfn,hbn,hnm]
   simp at h0
  simp at h0
 simp at h0
end rules
def a7.iff{w0 w:World}{K:PH}{hs:Ac}:a7 w0 w K hs↔(w.os=w0.os/\w.tape=w0.tape/\w.output=w0.output/\w0.heap.size<=w.heap.size/\(∀b o,K b=some o->w.heap[b]?=some o) /\
  (∀h∈hs,∀b o,h b=some o->w.heap[b]?=some o/\K b=none))/\hs.Pairwise (fun h N=>∀b,h b=none\/N b=none):=by
 constructor
 ·intro s;refine⟨⟨s.os,s.tape,s.output,s.size,s.SV,fun h hm b o hb=>?_⟩,?_⟩
  ·obtain⟨i,hi⟩:=ab7 hm;exact⟨s.own i h hi b o hb,s.apart i h hi b o hb⟩
  rw[abD];intro i j hi hj J b;cases hb:hs[i] b with
  |none=>simp
  |some o=>exact .inr (s.sep i j _ _ (aai hi) (aai hj) qo b o hb)
 rintro⟨⟨U,V,X,Y,Z,O⟩,h7⟩;rw[abD]at h7;refine⟨U,V,X,Y,Z,fun i h hi b o hb=>(O h (aam hi) b o hb).1,fun i h hi b o hb=>(O h (aam hi) b o hb).2,fun i j h N hi hj J b o hb=>?_⟩;obtain⟨aa,rfl⟩:=aav.1 hi;obtain⟨ab,rfl⟩:=aav.1 hj
 grind
theorem a7.perm{w0 w:World}{K:PH}{hs hs':Ac}(p:hs.Perm hs')(s:a7 w0 w K hs):a7 w0 w K hs':=by
 rw[a7.iff]at s⊢;obtain⟨⟨N,O,U,V,X,Y⟩,Z⟩:=s;exact⟨⟨N,O,U,V,X,fun h hm=>Y h (p.mem_iff.2 hm)⟩,(p.pairwise_iff (fun {x y} J b=>(J b).symm)).1 Z⟩
theorem iE{α:Type}:∀(l:List α) (i:Nat) (x:α),l[i]?=some x->l.Perm (x::l.eraseIdx i)
 |[],i,x,h=>by simp at h
 |a::l,0,x,h=>by simp at h;subst h;simp
 |a::l,i+1,x,h=>by
  have:=iE l i x (by simpa using h);simp only[List.eraseIdx_cons_succ];exact(this.cons a).trans (aap x a _)
theorem nO{α:Type}:∀(l:List α) (i:Nat) (x y:α),l[i]?=some x->(y::l.eraseIdx i).Perm (l.set i y)
 |[],i,x,y,h=>by simp at h
 |a::l,0,x,y,h=>by simp
 |a::l,i+1,x,y,h=>by
  have:=nO l i x y (by simpa using h);simp only[List.eraseIdx_cons_succ,acA];exact(aap a y _).trans (this.cons a)
def Ct.at{P:Program}{w0:World}{f:FuncId}{args:Ad}{K:PH}{hs:Ac}{h:PH}{S:Value->PH->PH->Prop}(i:Nat)(hi:hs[i]?=some h)
  (c:Ct P w0 f args K (h::hs.eraseIdx i) (fun v N hs'=>∃J,hs'=J::hs.eraseIdx i/\S v N J)):Ct P w0 f args K hs (fun v N hs'=>∃J,hs'=hs.set i J/\S v N J):=by
 refine⟨c.1,fun w V=>(c.2 w (V.perm (iE hs i h hi))).mono ?_⟩;rintro e w' ⟨v,N,hs',rfl,⟨J,rfl,U⟩,O⟩;exact⟨v,N,_,I,⟨J,I,U⟩,O.perm (nO hs i h J hi)⟩
abbrev Er:=@Ct.at
def Ct.Ut{P:Program}{w0:World}{f:FuncId}{args:Ad}{K:PH}{hs:Ac}{h:PH}{S:Value->PH->PH->Ac->Prop}(i:Nat)(hi:hs[i]?=some h)
  (c:Ct P w0 f args K (h::hs.eraseIdx i) (fun v O hs'=>∃N J,hs'=J++N::hs.eraseIdx i/\S v O N J)):Ct P w0 f args K hs (fun v O hs'=>∃N J,hs'=J++hs.set i N/\S v O N J):=by
 refine⟨c.1,fun w X=>(c.2 w (X.perm (iE hs i h hi))).mono ?_⟩;rintro e w' ⟨v,O,hs',rfl,⟨N,J,rfl,V⟩,U⟩;exact⟨v,O,_,I,⟨N,J,I,V⟩,U.perm ((nO hs i h N hi).append_left J)⟩
abbrev Ed:=@Ct.Ut
section drop
variable {P:Program}{w0:World}{ops:Ai}{Q:An}{rest:Aj}{n:Nat}{l:Sl}{K h:PH}{hs:Ac}{c:Code}{e:Exit}
theorem WL.drop(N:WL P w0 ops Q rest n l K hs):WL P w0 ops Q rest n l K (h::hs):=fun a w J O=>N a w J O.Qf
abbrev Bf:=@WL.drop
theorem WC.drop(N:WC P w0 c Q n l K hs):WC P w0 c Q n l K (h::hs):=fun a w J O=>N a w J O.Qf
abbrev Bg:=@WC.drop
theorem WQ.drop(N:WQ w0 Q e n l K hs):WQ w0 Q e n l K (h::hs):=fun a w J O=>N a w J O.Qf
abbrev Bh:=@WQ.drop
theorem WL.em(N:WL P w0 ops Q rest n l K (En.em::hs)):WL P w0 ops Q rest n l K hs:=fun a w J O=>N a w J O.RU
theorem WC.em(N:WC P w0 c Q n l K (En.em::hs)):WC P w0 c Q n l K hs:=fun a w J O=>N a w J O.RU
abbrev Es:=@WC.em
theorem WQ.em(N:WQ w0 Q e n l K (En.em::hs)):WQ w0 Q e n l K hs:=fun a w J O=>N a w J O.RU
abbrev Ev:=@WQ.em
theorem WL.perm{hs':Ac}(p:hs.Perm hs')(N:WL P w0 ops Q rest n l K hs'):WL P w0 ops Q rest n l K hs:=fun a w J O=>N a w J (O.perm p)
abbrev Bi:=@WL.perm
theorem WC.perm{hs':Ac}(p:hs.Perm hs')(N:WC P w0 c Q n l K hs'):WC P w0 c Q n l K hs:=fun a w J O=>N a w J (O.perm p)
abbrev Bj:=@WC.perm
theorem WQ.perm{hs':Ac}(p:hs.Perm hs')(N:WQ w0 Q e n l K hs'):WQ w0 Q e n l K hs:=fun a w J O=>N a w J (O.perm p)
abbrev Bk:=@WQ.perm
end drop
def In.cons{K h x:PH}{hs:Ac}(hm:In K hs h):In K (x::hs) h:=by
 rcases hm with J|⟨i,J⟩
 ·exact .inl J
 exact .inr ⟨i+1,by simpa using J⟩
abbrev Bl:=@In.cons
theorem ba{x}(h : -9223372036854775808<=x/\x<=9223372036854775807):Value.int .i64 (IntKind.i64.wrap x)=.int .i64 x:=by rw[IntWalk.i64_in _ h]
def iB{j:Nat}(h:1<=j/\j<=9223372036854775807):Value.int .i64 (IntKind.i64.wrap ((j:Int)-1))=.int .i64 (j-1:Nat):=by
 rw[show(j:Int)-1=((j-1:Nat):Int) by omega];exact ba qo
def eP{P:Program}{T:be}{w0:World}{ops:Ai}{Q:An}{rest rest':Aj}{n d:Nat}{l l':Sl}{K:PH}{hs:Ac}[hT:a8 P T](k j:Nat)
  (J:WL P w0 ops Q rest' n ((d,.int .i64 (j+1:Nat))::l') K hs) (hj:j+1<=9223372036854775807:=by omega) (h:mh T ops n k rest l=some (d,.int .i64 (IntKind.i64.wrap ((j+1:Nat):Int)),rest',l'):=by exact rfl):WL P w0 ops Q rest n l K hs:=
 ar k h (ba ⟨qo,qo⟩) J
def cZ{P:Program}{T:be}{w0:World}{ops:Ai}{Q:An}{rest rest':Aj}{n d:Nat}{l l' J:Sl}{K:PH}{hs:Ac}[hT:a8 P T](j:Nat)
  (O:WQ w0 Q .normal n J K hs) (hj:j+1<=9223372036854775807:=by omega) (h:mh T ops n 0 rest l=some (d,.int .i64 (IntKind.i64.wrap ((j+1:Nat):Int)),rest',l'):=by exact rfl)
  (N:iO T ops n 1 rest' ((d,.int .i64 (j+1:Nat))::l')=some ([],J):=by exact rfl):WL P w0 ops Q rest n l K hs:=
 eP 0 j (fin 1 N O) hj h
theorem bL{x}(h:0<=x/\x<=18446744073709551615):Value.int .u64 (IntKind.u64.wrap x)=.int .u64 x:=by rw[IntWalk.u64_in _ h]
def PN{x}(h:0<=x/\x<=4294967295):Value.int .u32 (IntKind.u32.wrap x)=.int .u32 x:=by rw[IntWalk.u32_in _ h]
def lr{x}(h:0<=x/\x<=255):Value.int .u8 (IntKind.u8.wrap x)=.int .u8 x:=by rw[IntWalk.u8_in _ h]
theorem kJ(n:Nat):Value.int .u8 (IntKind.u8.wrap (n:Int))=.int .u8 (n%256:Nat):=by
 rfl
def nC(n:Nat):Value.int .u64 (IntKind.u64.wrap (n:Int))=.int .u64 (n%18446744073709551616:Nat):=by
 rfl
section
variable {P:Program}{w0:World}{Q Q' Q1:Exit → Act → World → Prop}{n id id' i1:Nat}{l:Sl}{K:PH}{hs:Ac}{o:Aj}{x y z:Code}
def acY (h : WL P w0 o.toArray (Exit.then (y.wp P Q) Q) o n l K hs) : WC P w0 (.seq (.region id o.toArray false) y) Q n l K hs := sq (rg h)
def acV (h : WL P w0 o.toArray (Exit.then (y.wp P Q) Q) o n l K hs) : WQ w0 (Exit.then ((Code.seq (.region id o.toArray false) y).wp P Q) Q') .normal n l K hs := th (sq (rg h))
def acU (h : WL P w0 o.toArray (Exit.then (y.wp P (Exit.then (z.wp P Q) Q)) (Exit.then (z.wp P Q) Q)) o n l K hs) : WQ w0 (Exit.then ((Code.seq (.seq (.region id o.toArray false) y) z).wp P Q) Q') .normal n l K hs := th (sq (sq (rg h)))
def acX (h : WL P w0 o.toArray Q o n l K hs) : WQ w0 (Exit.then ((Code.region id o.toArray false).wp P Q) Q') .normal n l K hs := th (rg h)
def acW (h : WL P w0 o.toArray Q o n l K hs) : WQ w0 (Exit.inBlock i1 (Exit.then ((Code.region id o.toArray false).wp P Q) Q')) .normal n l K hs := bl (th (rg h))
def ac0 (h : WQ w0 Q .ret n l K hs) : WQ w0 (Exit.then (Code.ret.wp P Q) Q') .normal n l K hs := th (rt h)
end
end
section
section tree
variable {P:Program}{ops:Ai}{md:Region.Mode}{S:Al->World->Prop}
def qy(q:Act->World->Prop):An
 |.normal,a,w=>q a w
 |_,_,_=>False
theorem yD{o:Oper}{a}{K:Act->World->Prop}{Q Q':An}(hp:∀c a w,Q (.panic c) a w->Q' (.panic c) a w)(hg:∀a w,Q .outgrown a w->Q' .outgrown a w){r}(h:o.upon P a K Q r):o.upon P a K Q' r:=by
 cases r with
 |ok n w'=>
  cases n<;>simp only[Oper.upon]at h⊢<;>first
   |exact h
   |(
     refine Calls.mono h fun e O J=>?_
     cases e with
     |returned v=>exact J
     |panicked c=>exact hp _ _ _ J
     |outgrown=>obtain⟨a,w,N⟩:=J;exact⟨a,w,hg _ _ N⟩)
 |halt x w'=>
  cases x<;>simp only[Oper.upon]at h⊢<;>first
   |exact hp _ _ _ h
   |exact h
def NY{i}{K:Act->World->Prop}{Q Q':An}(J:∀e a w,Q e a w->Q' e a w){a w}(h:wpOp P ops Q i K a w):wpOp P ops Q' i K a w:=by
 unfold wpOp at *
 split
 ·exact by simpa[*]using h
 rename_i o ho;simp only[ho]at h
 split
 ·rename_i N;simp only[N,if_true]at h;exact h.imp (yD (fun c=>J (.panic c)) (J .outgrown)) (fun⟨O,a,w,U⟩=>⟨O,a,w,J _ _ _ U⟩)
 rename_i N;simp only[N]at h;exact h
def tr(P:Program)(md:Region.Mode)(ops:Ai)(q:Act->World->Prop)(S:Al->World->Prop):Nat->Al->Act->World->Prop
 |0,listed,a,w=>Region.ready md ops listed=[]/\q a w
 |f+1,listed,a,w=>(Region.ready md ops listed=[]->q a w) /\
  ∀i∈Region.ready md ops listed,wpOp P ops (qy q) i (fun J w'=>S (listed.setIfInBounds i true) w'/\tr P md ops q S f (listed.setIfInBounds i true) J w') a w
theorem EX{q}{Q:An}(J:∀e a w,qy q e a w->Q e a w):∀(f:Nat) (listed:Al) (a:Act) (w:World),tr P md ops q S f listed a w->wpAny P md ops Q f listed a w
 |0,_,_,_,h=>⟨h.1,J .normal _ _ h.2⟩
 |f+1,_,_,_,h=>⟨fun h0=>J .normal _ _ (h.1 h0),fun i hi=>wpOp_mono (fun N w' O=>EX J f _ N w' O.2) (NY J (h.2 i hi))⟩
def fS(md:Region.Mode)(ops:Ai)(L:Al):Prop:=L.size=ops.size/\∀j J,ops[j]?=some J->L.getD j false=true->∀e∈J.after,Region.binds md e=true->L.getD e.on false=true
def fS.set{L i}(c:fS md ops L)(X:i∈Region.ready md ops L):fS md ops (L.setIfInBounds i true):=by
 obtain⟨_,Y,O,J⟩:=mem_ready.1 X;refine⟨by simpa using c.1,?_⟩;intro j V hj hl e U hb
 by_cases N:i=j
 ·subst N;obtain rfl:V=Y:=aaW (hj.symm.trans O);exact getD_set_true (J e U hb)
 rw[getD_set_ne false N]at hl;exact getD_set_true (c.2 j V hj hl e U hb)
theorem KW{q i oi v}(hi:ops[i]?=some oi)(Z:∀(j:Nat) (o:Oper) cs b,ops[j]?=some o->o.op≠.select cs b):
  ∀(f:Nat) (listed:Al) (a:Act) (w:World),fS md ops listed ->
   (∀j oj,ops[j]?=some oj->j≠i->listed.getD j true=false->(∀e∈oj.after,Region.binds md e=true->e.on≠i)->oi.apart ops oj=true) ->
   i∈Region.ready md ops listed->YieldsIf P ops (fun w=>∃L:Al,fS md ops L/\L.getD i true=false/\S L w) oi v a->S listed w ->
   (∀(L:Al) w',S L w'->S (L.setIfInBounds i true) w')->(∀(L:Al) w',S (L.setIfInBounds i true) w'->S L w') ->
   tr P md ops q S f (listed.setIfInBounds i true) (a.put oi.dst v) w->tr P md ops q S (f+1) listed a w:=by
 intro f
 induction f with
 |zero=>
  intro listed a w hc _ Y hy hS V N H;refine⟨fun h=>(by rw[h]at Y;cases Y),fun j hj=>?_⟩
  by_cases J:j=i
  ·subst J;exact hy.wpOp hi ⟨listed,hc,(mem_ready.1 Y).1,hS⟩ ⟨V _ _ hS,H⟩
  have:=ready_mono hj J;rw[H.1]at this;cases this
 |succ f ih=>
  intro listed a w hc O Y hy hS V N H;refine⟨fun h=>(by rw[h]at Y;cases Y),fun j hj=>?_⟩
  by_cases J:j=i
  ·subst J;exact hy.wpOp hi ⟨listed,hc,(mem_ready.1 Y).1,hS⟩ ⟨V _ _ hS,H⟩
  have h1:=H.2 j (ready_mono hj J);obtain⟨X,oj,aa,ab⟩:=mem_ready.1 hj
  have ad:∀e∈oj.after,Region.binds md e=true->e.on≠i:=fun e he hb am=>by
   have h1:=ab e he hb
   grind[mem_ready]
  have h2:=wpOp_putIf aa (O j oj aa J X ad) (fun cs b=>Z i oi cs b hi) (fun cs b=>Z j oj cs b aa) (fun c a w h=>h) hy h1
  have U:∀k ok,ops[k]?=some ok->k≠i->(listed.setIfInBounds j true).getD k true=false ->
    (∀e∈ok.after,Region.binds md e=true->e.on≠i)->oi.apart ops ok=true:=fun k ok hk ag an ak=>by
   refine O k ok hk ag ?_ ak
   by_cases ae:j=k
   ·subst ae;exact X
   simp_all
  refine wpOp_mono (fun a' w' h3=>?_) h2;obtain⟨g1,g2,g3⟩:=h3;have e1:(listed.setIfInBounds i true).setIfInBounds j true=(listed.setIfInBounds j true).setIfInBounds i true:=Array.setIfInBounds_comm _ _ (Ne.symm J);rw[e1]at g2 g3;have g4:=N _ _ g2;exact⟨g4,ih (listed.setIfInBounds j true) a' w' (hc.set hj) U (ready_mono Y (Ne.symm J)) g1 g4 V N g3⟩
end tree
def gj(md:Region.Mode)(ops:Ai):Af->Al->Bool
 |[],listed=>(Region.ready md ops listed).isEmpty
 |p::r,listed=>(cond (Nat.beq (p%2) 0) ((Region.ready md ops listed).contains (p/2)&&Region.free md ops listed (p/2)) ((Region.ready md ops listed).contains (p/2)))&&gj md ops r (listed.setIfInBounds (p/2) true)
def ff(K:PH)(A:Ac)(w:World):Prop:=(∀b o,K b=some o->w.heap[b]?=some o)/\∀h∈A,∀b o,h b=some o->w.heap[b]?=some o
def still(z:Nat)(H:World->Prop)(L:Al)(w:World):Prop:=L.getD z false=false->H w
def WA(P:Program)(w0:World)(ops:Ai)(Q:An)(K0:PH)(A:Ac)(z:Nat)(plan:Af)(listed:Al)(n:Nat)(l:Sl)(K:PH)(hs:Ac):Prop:=
 gj .any ops plan listed=true->fS .any ops listed->∀a w,Ag n l a->a7 w0 w K hs->still z (ff K0 A) listed w->tr P .any ops (Q .normal) (still z (ff K0 A)) (eq plan) listed a w
theorem ff.of{w0 w:World}{K:PH}{hs A:Ac}(s:a7 w0 w K hs)(J:hs.take (eq A)=A):ff K A w:=by
 refine⟨s.SV,fun h hm b o hb=>?_⟩;rw[<-J]at hm;exact s.block (.inr (ab7 (aaS hm))) hb
theorem ff.cell{w}{K:PH}{A}(s:ff K A w){h}(hi:In K A h){a v}(N:co h a v):w.cell? a=some v:=by
 obtain⟨J,c,ty,fr,hb,hv⟩:=N
 have:w.heap[a.block]?=some (.cells c ty fr):=by
  rcases hi with rfl|⟨i,hi⟩
  ·exact s.1 _ _ hb
  exact s.2 h (aam hi) _ _ hb
 simp[World.cell?,this,J,hv]
section rules
variable {P:Program}{T:be}{w0:World}{ops:Ai}{Q:An}{plan plan':Af}{z:Nat}{listed listed':Al}{n:Nat}{l l':Sl}{K K0:PH}{hs A:Ac}
theorem CM{H}(i L w)(h:still z H L w):still z H (L.setIfInBounds i true) w:=by
 intro J;refine h ?_
 grind[getD_set_true]
theorem H8{H i}(hi:i≠z)(L w)(h:still z H (L.setIfInBounds i true) w):still z H L w:=by
 intro J;exact h (by rw[getD_set_ne false hi];exact J)
theorem WA.look{i:Nat}{o}{d:Nat}{v}(hi:ops[i]?=some o)(V:Region.noSelect ops=true)(hz:Nat.beq i z=false)(hd:o.dst=some d)(hb:Nat.blt d n=true)
  (hy:∀a,Ag n l a->YieldsIf P ops (fun w=>∃L:Al,fS .any ops L/\L.getD i true=false/\still z (ff K0 A) L w) o v a)
  (Z:WA P w0 ops Q K0 A z plan (listed.setIfInBounds i true) n ((d,v)::l) K hs):WA P w0 ops Q K0 A z (2*i::plan) listed n l K hs:=by
 intro hp Y a w X hw hl;simp only[gj,aaJ]at hp;obtain⟨N,O⟩:=hp;rw[show 2*i%2=0 from qo,show 2*i/2=i from qo]at N;rw[show 2*i/2=i from qo]at O;have U:((Region.ready .any ops listed).contains i&&Region.free .any ops listed i)=true:=N;simp only[aaJ]at U;have J:i∈Region.ready .any ops listed:=by simpa using U.1
 have aa:=Z O (Y.set J) _ w (X.put (v:=v) hb) hw (CM i listed w hl)
 grind[Nat.ne_of_beq_eq_false,KW,Region.noSelect_spec,Region.free_spec,CM,H8]
abbrev Bm:=@WA.look
def WA.pure[hT:a8 P T]{i:Nat}{o}{d:Nat}{v}(hi:ops[i]?=some o)(J:Region.noSelect ops=true)(V:Nat.beq i z=false)(O:o.dst=some d)(hb:Nat.blt d n=true)
  (hv:fW ops l o.guard=some true/\iY T l o.op=some v\/fW ops l o.guard=some false/\v=undef)
  (U:WA P w0 ops Q K0 A z plan (listed.setIfInBounds i true) n ((d,v)::l) K hs):WA P w0 ops Q K0 A z (2*i::plan) listed n l K hs:=by
 refine Bm hi J V O hb (fun a N=>?_) U;rcases hv with⟨hg,hv⟩|⟨hg,rfl⟩
 ·exact .inl ⟨gQ N hg,fun w _=>wj hv N w⟩
 exact .inr ⟨gQ N hg,I⟩
def jT(T:be)(ops:Ai)(n z:Nat):Nat->Af->Al->Sl->Option (Af×Al×Sl)
 |0,p,L,l=>some (p,L,l)
 |_+1,[],_,_=>none
 |k+1,p::r,L,l=>match Nat.beq (p%2) 0,Nat.beq (p/2) z,ops[p/2]? with
  |true,false,some o=>match o.dst with
   |some d=>match Nat.blt d n,fW ops l o.guard with
    |true,some true=>match iY T l o.op with
     |some v=>jT T ops n z k r (L.setIfInBounds (p/2) true) ((d,v)::l)
     |none=>none
    |true,some false=>jT T ops n z k r (L.setIfInBounds (p/2) true) ((d,undef)::l)
    |_,_=>none
   |none=>none
  |_,_,_=>none
theorem WA.Sh[hT:a8 P T](J:Region.noSelect ops=true):∀(k:Nat) {plan:Af} {listed:Al} {l:Sl},jT T ops n z k plan listed l=some (plan',listed',l') ->
  WA P w0 ops Q K0 A z plan' listed' n l' K hs->WA P w0 ops Q K0 A z plan listed n l K hs
 |0,plan,listed,l,h,N=>by simp only[jT,aae,aah]at h;obtain⟨rfl,rfl,rfl⟩:=h;exact N
 |k+1,[],listed,l,h,N=>by simp[jT]at h
 |k+1,p::r,listed,l,h,N=>by
  simp only[jT]at h;cases h1:Nat.beq (p%2) 0 with
  |false=>simp[h1]at h
  |true=>
   cases h2:Nat.beq (p/2) z with
   |true=>simp[h1,h2]at h
   |false=>
    cases h3:ops[p/2]? with
    |none=>simp[h1,h2,h3]at h
    |some o=>
     simp only[h1,h2,h3]at h;have O:p=2*(p/2):=by have:=aaF h1;omega
     cases hd:o.dst with
     |none=>simp[hd]at h
     |some d=>
      simp only[hd]at h;cases hb:Nat.blt d n with
      |false=>simp[hb]at h
      |true=>
       cases hg:fW ops l o.guard with
       |none=>simp[hb,hg]at h
       |some g=>
        cases g with
        |true=>
         simp only[hb,hg]at h;cases hv:iY T l o.op with
         |none=>simp[hv]at h
         |some v=>
          simp only[hv]at h;rw[O];exact WA.pure h3 J h2 hd hb (.inl ⟨hg,hv⟩) (WA.Sh J k h N)
        |false=>
         simp only[hb,hg]at h;rw[O];exact WA.pure h3 J h2 hd hb (.inr ⟨hg,I⟩) (WA.Sh J k h N)
abbrev Bd:=@WA.Sh
def lH(T:be)(ops:Ai)(n z k:Nat)(plan:Af)(L:Al)(l:Sl):Option (Nat×Oper×Af×Al×Sl):=
 match jT T ops n z k plan L l with
 |some (p::r,J,l')=>match ops[p/2]? with
  |some o=>some (p,o,r,J,l')
  |none=>none
 |_=>none
def ki{k p o}(h:lH T ops n z k plan listed l=some (p,o,plan',listed',l')):jT T ops n z k plan listed l=some (p::plan',listed',l')/\ops[p/2]?=some o:=by
 unfold lH at h
 grind
def zl(T:be)(ops:Ai)(n z k:Nat)(plan:Af)(L:Al)(l:Sl):Option (Nat×Addr×Af×Al×Sl):=
 match lH T ops n z k plan L l with
 |some (p,o,r,J,l')=>match Nat.beq (p%2) 0,Nat.beq (p/2) z,cond (Nat.blt z ops.size) (Region.waitsFor .any ops z (p/2)) true,fW ops l' o.guard,o.dst,o.op with
  |true,false,true,some true,some d,.load t x=>match Nat.blt d n,Ry T.kinds t,ev l' x with
   |true,some kd,some (.pointer (some a))=>cond kd.one (some (d,a,r,J.setIfInBounds (p/2) true,l')) none
   |_,_,_=>none
  |_,_,_,_,_,_=>none
 |none=>none
def pB{L i}(c:fS .any ops L)(hi:L.getD i true=false)(O:cond (Nat.blt z ops.size) (Region.waitsFor .any ops z i) true=true):L.getD z false=false:=by
 cases hb:Nat.blt z ops.size with
 |false=>
  have:¬z<ops.size:=fun h=>by
   grind[Nat.ble_eq_true_of_le,Nat.blt]
  have U:L.size<=z:=by rw[c.1];omega
  simp[acB U]
 |true=>
  rw[hb]at O;obtain⟨Y,N,e,V,J,X⟩:=Region.waitsFor_spec O;cases hz:L.getD z false with
  |false=>rfl
  |true=>
   have:=c.2 z Y N hz e V J
   grind
def ph[hT:a8 P T](J:Region.noSelect ops=true)(k){d a v h}(h0:zl T ops n z k plan listed l=some (d,a,plan',listed',l'))(hm:In K0 A h)(hc:co h a v)
  (hk:WA P w0 ops Q K0 A z plan' listed' n ((d,v)::l') K hs):WA P w0 ops Q K0 A z plan listed n l K hs:=by
 unfold zl at h0
 split at h0
 ·rename_i p o r L' l2 hh
  split at h0
  ·rename_i dd t x hp hz aa hg hd V
   split at h0
   ·rename_i kd a' hb U hx;cases h1:kd.one with
    |false=>simp[h1]at h0
    |true=>
     simp only[h1,cond_true,aae,aah]at h0;obtain⟨rfl,rfl,rfl,rfl,rfl⟩:=h0;obtain⟨g1,g2⟩:=ki hh;refine Bd J k g1 ?_;have X:p=2*(p/2):=by have:=aaF hp;omega
     rw[X];refine Bm g2 J hz hd hb (fun A' ha=>.inl ⟨gQ ha hg,fun w hw=>?_⟩) hk;obtain⟨L,O,Z,Y⟩:=hw;have N:=(Y (pB O Z aa)).cell hm hc;have h2:=pD (P:=P) U h1 N;simp only[execOp,V,ha.ev hx];simp[h2]
   simp at h0
  simp at h0
 simp at h0
def bT[hT:a8 P T](J:Region.noSelect ops=true)(k i:Nat){d b off ty v c fr}(h0:zl T ops n z k plan listed l=some (d,⟨b,off,none⟩,plan',listed',l'))
  (hi:A[i]?=some (pt b c ty fr)) (hv:c[off]?=some v) (N:WA P w0 ops Q K0 A z plan' listed' n ((d,v)::l') K hs):WA P w0 ops Q K0 A z plan listed n l K hs:=
 ph J k h0 (.inr ⟨i,hi⟩) (co.pt hv) N
def nA(T:be)(ops:Ai)(n z k:Nat)(plan:Af)(L:Al)(l:Sl):Option (Nat×Oper×Af×Al×Sl):=
 match lH T ops n z k plan L l with
 |some (p,o,r,J,l')=>match Nat.beq (p%2) 0,Nat.beq (p/2) z,fW ops l' o.guard,o.dst with
  |true,false,some true,some d=>match Nat.blt d n with
   |true=>some (d,o,r,J.setIfInBounds (p/2) true,l')
   |false=>none
  |_,_,_,_=>none
 |none=>none
theorem qD[hT:a8 P T](J:Region.noSelect ops=true)(k){d o v}(h0:nA T ops n z k plan listed l=some (d,o,plan',listed',l'))
  (hv:∀a w,Ag n l' a->(execOp a.eval o).run P w=.ok (.value v) w) (hk:WA P w0 ops Q K0 A z plan' listed' n ((d,v)::l') K hs):WA P w0 ops Q K0 A z plan listed n l K hs:=by
 unfold nA at h0
 split at h0
 ·rename_i p o' r L' l2 Z
  split at h0
  ·rename_i dd hp hz hg Y
   split at h0
   ·rename_i hb;simp only[aae,aah]at h0;obtain⟨rfl,rfl,rfl,rfl,rfl⟩:=h0;obtain⟨V,X⟩:=ki Z;refine Bd J k V ?_;have N:p=2*(p/2):=by have:=aaF hp;omega
    rw[N];exact Bm X J hz Y hb (fun U O=>.inl ⟨gQ O hg,fun w _=>hv U w O⟩) hk
   simp at h0
  simp at h0
 simp at h0
def rK(T:be)(ops:Ai)(n z k:Nat)(plan:Af)(L:Al)(l:Sl):Option (Nat×Value×Af×Al×Sl):=
 match nA T ops n z k plan L l with
 |some (d,o,r,J,l')=>match iY T l' o.op with
  |some v=>some (d,v,r,J,l')
  |none=>none
 |none=>none
def bF[hT:a8 P T](J:Region.noSelect ops=true)(k){d v v'}(h0:rK T ops n z k plan listed l=some (d,v,plan',listed',l'))(N:v=v')
  (X:WA P w0 ops Q K0 A z plan' listed' n ((d,v')::l') K hs):WA P w0 ops Q K0 A z plan listed n l K hs:=by
 subst N;unfold rK at h0
 split at h0
 ·rename_i U o r O Y V
  split at h0
  ·rename_i v' hv;simp only[aae,aah]at h0;obtain⟨rfl,rfl,rfl,rfl,rfl⟩:=h0
   grind[qD,wj]
  simp at h0
 simp at h0
def QO[hT:a8 P T](J:Region.noSelect ops=true)(k){d b}(h0:rK T ops n z k plan listed l=some (d,.bool b,plan',listed',l'))
  (N:b=true->WA P w0 ops Q K0 A z plan' listed' n ((d,.bool true)::l') K hs) (hn:b=false->WA P w0 ops Q K0 A z plan' listed' n ((d,.bool false)::l') K hs):WA P w0 ops Q K0 A z plan listed n l K hs:=by
 cases b with
 |true=>exact bF J k h0 rfl (N rfl)
 |false=>exact bF J k h0 rfl (hn rfl)
def dP[hT:a8 P T](J:Region.noSelect ops=true)(k){d b}(p)(h0:rK T ops n z k plan listed l=some (d,.bool b,plan',listed',l'))(hp:p↔b=true)
  (O:p->WA P w0 ops Q K0 A z plan' listed' n ((d,.bool true)::l') K hs) (hn:¬p->WA P w0 ops Q K0 A z plan' listed' n ((d,.bool false)::l') K hs):WA P w0 ops Q K0 A z plan listed n l K hs:=
 QO J k h0 (fun h=>O (hp.2 h)) (fun h=>hn (fun N=>by rw[hp.1 N]at h;cases h))
def zW[hT:a8 P T](U:Region.noSelect ops=true)(k){d d' o si ao n1 c1 lo hi h xs ys}(L N:Nat)
  (h0:nA T ops n z k plan listed l=some (d,o,plan',listed',l')) (Y:qh T ops n 0 [o] l'=some (d',si,(ao,n1,c1),lo,hi,[],l')) (x:aj h ao n1 c1 si.size xs) (hL:lo.getD 0=(L:Int)) (Z:hi.getD n1=((L+N:Nat):Int)) (hN:L+N<=n1)
  (hy:(xs.drop (L*si.size)).take (N*si.size)=ys)
  (hk:∀O J,aj h O N J si.size ys->WA P w0 ops Q K0 A z plan' listed' n ((d,.slice O N J)::l') K hs):WA P w0 ops Q K0 A z plan listed n l K hs:=by
 obtain⟨o',ho,hd,hb,X⟩:=tE (P:=P) L (L+N) Y hL Z qo (by have:=x.2.1;omega)
 have V:o'=o:=by
  have e:iO T ops n 0 [o] l'=some ([o],l'):=rfl
  grind[eN]
 subst V;refine qD U k h0 (v:=.slice (dE ao c1 L si.size) N (c1-L)) (fun a w ha=>?_) (hk _ _ (x.cut L N hN hy))
 simp_all
def aI[hT:a8 P T](J:Region.noSelect ops=true)(k)(h0:jT T ops n z k plan listed l=some ([],listed',l'))(O:WQ w0 Q .normal n l' K hs):WA P w0 ops Q K0 A z plan listed n l K hs:=
 Bd J k h0 fun hp _ a w N U _=>by
  simp only[gj,List.isEmpty_iff]at hp;exact⟨hp,O a w N U⟩
def lw(P:Program)(w0:World)(ops:Ai)(Q:An)(K0:PH)(A:Ac)(z:Nat)(plan:Af)(listed:Al):An:=
 qy fun a w=>still z (ff K0 A) listed w/\tr P .any ops (Q .normal) (still z (ff K0 A)) (eq plan) listed a w
def zr(T:be)(ops:Ai)(n z k:Nat)(plan:Af)(L:Al)(l:Sl):Option (Oper×Af×Al×Sl):=
 match lH T ops n z k plan L l with
 |some (p,o,r,J,l')=>cond (Nat.beq (p%2) 1) (some (o,r,J.setIfInBounds (p/2) true,l')) none
 |none=>none
def vQ{i o r L a w}(V:ops[i]?=some o)(X:gj .any ops r L=true)(U:fS .any ops L)
  (J:wpList P ops (fun e a w=>gj .any ops r L=true->fS .any ops L->lw P w0 ops Q K0 A z r L e a w) [o] a w):
  wpOp P ops (qy (Q .normal)) i (fun O w'=>still z (ff K0 A) L w'/\tr P .any ops (Q .normal) (still z (ff K0 A)) (eq r) L O w') a w:=by
 unfold wpOp;simp only[V];unfold wpList at J
 have conv:∀e a w,(gj .any ops r L=true->fS .any ops L->lw P w0 ops Q K0 A z r L e a w) ->
   qy (fun a w=>still z (ff K0 A) L w/\tr P .any ops (Q .normal) (still z (ff K0 A)) (eq r) L a w) e a w:=fun e a w h=>h X U
 split
 ·rename_i N;rw[aab N]at J;rcases J with J|⟨_,O,w',J⟩
  ·refine .inl (Oper.wp_mono ?_ (yD (Q':=qy (Q .normal)) (fun c a w h=>(conv (.panic c) a w h).elim) (fun a w h=>(conv .outgrown a w h).elim) J));intro a w h;simp only[wpList]at h;exact conv .normal a w h
  exact(conv .outgrown O w' J).elim
 rename_i N;rw[aaa N]at J;simp only[wpList]at J;exact conv .normal _ _ J
def oA(ops:Ai):Af->Al->Bool
 |[],_=>false
 |p::r,L=>cond (Nat.beq (p%2) 0) (oA ops r (L.setIfInBounds (p/2) true)) (Region.ready .any ops L == [p/2])
def pY(ops:Ai)(j:Nat):Af->Al->Bool
 |[],_=>false
 |p::r,L=>cond (Nat.beq (p%2) 0) (pY ops j r (L.setIfInBounds (p/2) true)) (Region.ready .any ops L == [p/2,j]||Region.ready .any ops L == [j,p/2])
theorem tf:∀(k:Nat) {plan:Af} {L J:Al} {l l':Sl} {p:Nat} {r:Af},jT T ops n z k plan L l=some (p::r,J,l')->Nat.beq (p%2) 1=true ->
  oA ops plan L=(Region.ready .any ops J == [p/2])/\∀j,pY ops j plan L=(Region.ready .any ops J == [p/2,j]||Region.ready .any ops J == [j,p/2])
 |0,plan,L,J,l,l',p,r,h,hp=>by
  simp only[jT,aae,aah]at h;obtain⟨rfl,rfl,rfl⟩:=h
  simp_all[Nat.beq,oA,pY]
 |k+1,[],L,J,l,l',p,r,h,hp=>by simp[jT]at h
 |k+1,p0::N,L,J,l,l',p,r,h,hp=>by
  simp only[jT]at h
  split at h
  ·rename_i h0 _ _
   split at h
   ·split at h
    ·split at h
     ·have:=tf k h hp;simp_all[oA,pY]
     simp at h
    ·have:=tf k h hp;simp_all[oA,pY]
    simp at h
   simp at h
  simp at h
def aB[hT:a8 P T](J:(Region.noSelect ops&&oA ops plan listed)=true)(k){o}(h0:zr T ops n z k plan listed l=some (o,plan',listed',l'))
  (hk:WL P w0 ops (fun e a w=>gj .any ops plan' listed'=true->fS .any ops listed'->lw P w0 ops Q K0 A z plan' listed' e a w) [o] n l' K hs):WA P w0 ops Q K0 A z plan listed n l K hs:=by
 simp only[aaJ]at J;obtain⟨U,V⟩:=J;unfold zr at h0
 split at h0
 ·rename_i p o' r Y l2 hh;cases hp1:Nat.beq (p%2) 1 with
  |false=>simp[hp1]at h0
  |true=>
   simp only[hp1,cond_true,aae,aah]at h0;obtain⟨rfl,rfl,rfl,rfl⟩:=h0;obtain⟨Z,g2⟩:=ki hh;have N:=(tf k Z hp1).1;rw[V]at N;refine Bd U k Z ?_;intro hp hc a w ha hw hl;simp only[gj,aaJ]at hp;obtain⟨_,h2⟩:=hp;have N:Region.ready .any ops Y=[p/2]:=by simpa using N.symm
   have O:p/2∈Region.ready .any ops Y:=by rw[N];simp
   have X:=hc.set O;refine⟨fun h0=>(by rw[N]at h0;cases h0),fun i hi=>?_⟩;rw[N]at hi;simp only[aaC]at hi;subst hi;exact vQ g2 h2 X (hk a w ha hw)
 simp at h0
def Fv(T:be)(ops:Ai)(n z k:Nat)(plan:Af)(L:Al)(l:Sl)(j:Nat):Option (Oper×Oper×Af×Al×Al×Sl):=
 match lH T ops n z k plan L l with
 |some (p,o,r,J,l')=>match ops[j]? with
  |some N=>cond (Nat.beq (p%2) 1) (some (o,N,r,J.setIfInBounds (p/2) true,J.setIfInBounds j true,l')) none
  |none=>none
 |none=>none
def rX(j)[hT:a8 P T](N:(Region.noSelect ops&&pY ops j plan listed)=true)(k plan2){oi oj Li Lj}(h0:Fv T ops n z k plan listed l j=some (oi,oj,plan',Li,Lj,l'))(O:(gj .any ops plan2 Lj&&Nat.beq (eq plan2) (eq plan'))=true)
  (aa:WL P w0 ops (fun e a w=>gj .any ops plan' Li=true->fS .any ops Li->lw P w0 ops Q K0 A z plan' Li e a w) [oi] n l' K hs)
  (ab:WL P w0 ops (fun e a w=>gj .any ops plan2 Lj=true->fS .any ops Lj->lw P w0 ops Q K0 A z plan2 Lj e a w) [oj] n l' K hs):WA P w0 ops Q K0 A z plan listed n l K hs:=by
 simp only[aaJ]at N;obtain⟨X,Y⟩:=N;unfold Fv at h0
 split at h0
 ·rename_i p o' r U l2 hh
  split at h0
  ·rename_i ak ag;cases hp1:Nat.beq (p%2) 1 with
   |false=>simp[hp1]at h0
   |true=>
    simp only[hp1,cond_true,aae,aah]at h0;obtain⟨rfl,rfl,rfl,rfl,rfl,rfl⟩:=h0;obtain⟨g1,g2⟩:=ki hh;have J:=(tf k g1 hp1).2 j;rw[Y]at J;refine Bd X k g1 ?_;intro hp hc a w ha hw hl;simp only[gj,aaJ]at hp;obtain⟨_,h2⟩:=hp;have J:Region.ready .any ops U=[p/2,j]\/Region.ready .any ops U=[j,p/2]:=by simpa using J.symm
    simp only[aaJ]at O;have V:eq plan2=eq r:=aaF O.2;have hne:Region.ready .any ops U≠[]:=by rcases J with J|J<;>rw[J]<;>simp
    have ad:p/2∈Region.ready .any ops U:=by rcases J with J|J<;>rw[J]<;>simp
    have ae:j∈Region.ready .any ops U:=by rcases J with J|J<;>rw[J]<;>simp
    refine⟨fun h0=>(hne h0).elim,fun i hi=>?_⟩
    have Z:i=p/2\/i=j:=by
     grind
    rcases Z with rfl|rfl
    ·exact vQ g2 h2 (hc.set ad)<|aa a w ha hw
    have:=vQ ag O.1 (hc.set ae) (ab a w ha hw);rw[V]at this;exact this
  simp at h0
 simp at h0
def bQ{L}(N:L.getD z false=true\/hs.take (eq A)=A/\K0=K)(V:WA P w0 ops Q K0 A z plan L n l K hs):
  WL P w0 ops (fun e a w=>gj .any ops plan L=true->fS .any ops L->lw P w0 ops Q K0 A z plan L e a w) [] n l K hs:=by
 intro a w O X;refine wpList_nil fun hp U=>?_
 have J:still z (ff K0 A) L w:=by
  intro Z;rcases N with h|⟨Y,rfl⟩
  all_goals grind[ff.of]
 exact⟨J,V hp U a w O X J⟩
end rules
section rules
variable {P:Program}{T:be}{w0:World}{ops:Ai}{Q:An}{rest rest':Aj}{n:Nat}{l l':Sl}{K:PH}{hs:Ac}
def GT(T:be)(ops:Ai)(n k:Nat)(rest:Aj)(l:Sl):Option (Nat×Nat×List (Nat×Value)×Aj×Sl):=
 match eN T ops n k rest l with
 |some (o,r,l')=>match o.dst,o.op with
  |some d,.build t J=>match Nat.blt d n,J.toList.mapM (fun x=>(ev l' x.2).map (fun v=>(x.1,v)))with
   |true,some vs=>some (d,t,vs,r,l')
   |_,_=>none
  |_,_=>none
 |none=>none
def bd[hT:a8 P T](k){d t vs}(v)(h0:GT T ops n k rest l=some (d,t,vs,rest',l'))(hv:∀w,(Instr.build t vs.toArray).run P w=.ok v w)
  (Z:WL P w0 ops Q rest' n ((d,v)::l') K hs):WL P w0 ops Q rest n l K hs:=by
 unfold GT at h0
 split at h0
 ·rename_i o r l2 ho
  split at h0
  ·rename_i d' t' J Y aa
   split at h0
   ·rename_i O hb N;simp only[aae,aah]at h0;obtain⟨rfl,rfl,rfl,rfl,rfl⟩:=h0;refine Ec ho fun hg=>Dx (R:=fun u U hs'=>u=v/\U=K/\hs'=hs) Y hb hg (fun A w X hw=>⟨v,w,K,hs,?_,hw,I,I,I⟩) ?_
    ·have V:=ud X _ _ N
     have h7:(J.map fun(i,x)=>(i,A.eval x))=O.toArray:=by
      apply Array.ext'
      simpa using V
     simp_all[execOp]
    rintro u U hs' ⟨rfl,rfl,rfl⟩;exact Z
   simp at h0
  simp at h0
 simp at h0
def uM(T:be)(ops:Ai)(n k:Nat)(rest:Aj)(l:Sl):Option (Nat×Addr×Ah×Aj×Sl):=
 match eN T ops n k rest l with
 |some (o,r,l')=>match o.dst,o.op with
  |none,.store t x y=>match ev l' x,ev l' y with
   |some (.pointer (some a)),some (.agg cs)=>some (t,a,cs,r,l')
   |_,_=>none
  |_,_=>none
 |none=>none
def lX[hT:a8 P T](k i){t b off ty}{c cs:Ah}(h0:uM T ops n k rest l=some (t,⟨b,off,none⟩,cs,rest',l'))(hi:hs[i]?=some (pt b c ty))(O:(P.info? t).map (·.size)=some cs.size)
  (hf:off+cs.size<=c.size) (X:∀v∈cs.toList,v.oneCell'=true)
  (hk:WL P w0 ops Q rest' n l' K (hs.set i (pt b (c.toList.take off++cs.toList++c.toList.drop (off+eq cs.toList)).toArray ty))):WL P w0 ops Q rest n l K hs:=by
 unfold uM at h0
 split at h0
 ·rename_i o r l2 ho
  split at h0
  ·rename_i t' x y Z N
   split at h0
   ·rename_i a' J hx hy;simp only[aae,aah]at h0;obtain⟨rfl,rfl,rfl,rfl,rfl⟩:=h0;refine Ec ho fun hg=>WL.RZ Z hg (fun A w U V=>⟨_,?_,V.setRow hi _⟩) hk;have hb:w.heap[b]?=some (.cells c ty (0,0)):=V.own i _ hi b _ Q8;have Y:=run_storeCells_at P b off ty J.toList 0 c w hb qo X;simp only[abb]at Y;obtain⟨ii,aa,hs'⟩:=Option.map_eq_some_iff.1 O;simp only[execOp,N,U.ev hx,U.ev hy]
    simp_all[Instr.storeAt,Instr.sureAddr,storeVar,sizeOf,typeInfo,Value.cells]
   simp at h0
  simp at h0
 simp at h0
def uX(T:be)(ops:Ai)(n k:Nat)(rest:Aj)(l:Sl):Option (Nat×Nat×Addr×Aj×Sl):=
 match eN T ops n k rest l with
 |some (o,r,l')=>match o.dst,o.op with
  |some d,.load t x=>match Nat.blt d n,ev l' x with
   |true,some (.pointer (some a))=>some (d,t,a,r,l')
   |_,_=>none
  |_,_=>none
 |none=>none
def i7(P:Program)(t m:Nat):Bool:=(match P.underlying t with|some (.struct _)=>true|some (.array _ _)=>true|_=>false)&&(match P.info? t with|some i=>i.size==m|none=>false)
def pC{w t m a}{cs:Ad}(hm:i7 P t m=true)(hl:eq cs=m)(U:∀(j:Nat) v,cs[j]?=some v->w.cell? (a.add j)=some v):(Instr.loadAt t (.pointer (some a))).run P w=.ok (.agg cs.toArray) w:=by
 unfold i7 at hm;simp only[aaJ]at hm;obtain⟨J,N⟩:=hm;cases hu:P.underlying t with
 |none=>simp[hu]at J
 |some d=>
  cases hi:P.info? t with
  |none=>simp[hi]at N
  |some i=>
   have V:i.size=m:=by simpa[hi]using N
   have O:(isAgg t).run P w=.ok true w:=by
    cases d<;>simp[hu]at J<;>simp[isAgg,run_underlying hu]
   have X:=run_loadCells_list (P:=P) (w:=w) a cs U
   simp_all[Instr.loadAt,Instr.sureAddr,loadVar,sizeOf,typeInfo]
def fu[hT:a8 P T](k){d t a h}(cs:Ad)(h0:uX T ops n k rest l=some (d,t,a,rest',l'))(hm:i7 P t (eq cs)=true)(J:In K hs h)(Y:∀(j:Nat) v,cs[j]?=some v->co h (a.add j) v)
  (hk:WL P w0 ops Q rest' n ((d,.agg cs.toArray)::l') K hs):WL P w0 ops Q rest n l K hs:=by
 unfold uX at h0
 split at h0
 ·rename_i o r l2 ho
  split at h0
  ·rename_i d' t' x Z N
   split at h0
   ·rename_i a' hb hx;simp only[aae,aah]at h0;obtain⟨rfl,rfl,rfl,rfl,rfl⟩:=h0;refine Ec ho fun hg=>Dx (R:=fun u O hs'=>u=.agg cs.toArray/\O=K/\hs'=hs) Z hb hg (fun A w X U=>⟨_,w,K,hs,?_,U,I,I,I⟩) ?_
    ·have V:=pC (P:=P) (w:=w) hm rfl (fun j v hv=>U.cell J (Y j v hv));simp only[execOp,N,X.ev hx];simp[V]
    rintro u O hs' ⟨rfl,rfl,rfl⟩;exact hk
   simp at h0
  simp at h0
 simp at h0
def m7{b off c ty fr}(cs:Ad)(h:∀(j:Nat) v,cs[j]?=some v->c[off+j]?=some v):∀(j:Nat) v,cs[j]?=some v->co (pt b c ty fr) ((⟨b,off,none⟩:Addr).add j) v:=by
 simp_all[bf,co.pt]
def Q7(T:be)(ops:Ai)(n k:Nat)(rest:Aj)(l:Sl):Option (Nat×Nat×(Nat×Nat×Nat×Nat)×Aj×Sl):=
 match eN T ops n k rest l with
 |some (o,r,l')=>match o.dst,o.op with
  |some d,.convert t J x=>match Nat.blt d n,Nat.beq t J,ev l' x with
   |true,true,some (.slice (some a) m c)=>some (d,t,(a.block,a.off,m,c),r,cond a.spot.isNone l' [])
   |_,_,_=>none
  |_,_=>none
 |none=>none
def a7.TE{w w'}(s:a7 w0 w K hs){i b c ty fr fr'}(hi:hs[i]?=some (pt b c ty fr))(V:w'.heap[b]?=some (.cells c ty fr'))(X:∀k,k≠b->w'.heap[k]?=w.heap[k]?)
  (N:w'.os=w.os) (O:w'.tape=w.tape) (J:w'.output=w.output) (U:w'.heap.size=w.heap.size):a7 w0 w' K (hs.set i (pt b c ty fr')):=by
 refine s.T3 hi N O J qo ?_ ?_ ?_
 all_goals grind
def Gq(T:be)(ops:Ai)(n k:Nat)(rest:Aj)(l:Sl):Option (Nat×BinOp×IntKind×Int×Int×Aj×Sl):=
 match eN T ops n k rest l with
 |some (o,r,l')=>match o.dst,o.op with
  |some d,.binOp op _ x y _=>match Nat.blt d n,ev l' x,ev l' y with
   |true,some (.int kd a),some (.int _ b)=>some (d,op,kd,a,b,r,l')
   |_,_,_=>none
  |_,_=>none
 |none=>none
def qv[hT:a8 P T](k){d op kd a b v'}(h0:Gq T ops n k rest l=some (d,op,kd,a,b,rest',l'))(hb:0<=b)
  (J:op=.shl/\Value.int kd (kd.wrap (a*2^(min b.toNat kd.bits)))=v'\/op=.shr/\Value.int kd (a.fdiv (2^(min b.toNat kd.bits)))=v')
  (hk:WL P w0 ops Q rest' n ((d,v')::l') K hs):WL P w0 ops Q rest n l K hs:=by
 unfold Gq at h0
 split at h0
 ·rename_i o r Z ho
  split at h0
  ·rename_i d' aa t x y t2 hd N
   split at h0
   ·rename_i Y a' kb b' O V X;simp only[aae,aah]at h0;obtain⟨rfl,rfl,rfl,rfl,rfl,rfl,rfl⟩:=h0
    have U:iY T Z o.op=some v':=by
     rw[N];simp only[iY,V,X];rcases J with⟨rfl,J⟩|⟨rfl,J⟩
     all_goals simp_all[na]
    grind[WL.Td,WL.SG]
   simp at h0
  simp at h0
 simp at h0
end rules
def str(xs:Aa):Value:=.string ⟨xs.toArray⟩
def qc(P:Program)(t J:Nat):Bool:=(match P.underlying t with|some (.slice e)=>(match P.underlying e with|some (.int .u8)=>true|_=>false)|_=>false)&&(match P.underlying J with|some .string=>true|_=>false)
def BV{P:Program}{w t t' n c ao}(hs:qc P t t'=true)(xs)(hl:eq xs=n)
  (Y:∀(j:Nat) u,((xs.map fun b=>Value.int .u8 b.toNat))[j]?=some u->∃a,ao=some a/\w.cell? (a.add j)=some u):(convert t t' (.slice ao n c)).run P w=.ok (str xs) w:=by
 unfold qc at hs;simp only[aaJ]at hs;obtain⟨J,O⟩:=hs;cases e1:P.underlying t with
 |none=>simp[e1]at J
 |some U=>
  cases U<;>simp[e1]at J;rename_i e;cases e2:P.underlying e with
  |none=>simp[e2]at J
  |some V=>
   cases V<;>simp[e2]at J;rename_i kd;cases kd<;>simp at J;cases e3:P.underlying t' with
   |none=>simp[e3]at O
   |some X=>
    cases X<;>simp[e3]at O;rw[run_convert_bytes_string w t t' e _ n c e1 e2 e3];cases ao with
    |none=>
     have:xs=[]:=by
      cases xs with
      |nil=>rfl
      |cons x r=>obtain⟨a,h,_⟩:=Y 0 _ rfl;cases h
     subst this
     rfl
    |some a=>
     have N:(loadCells a n).run P w=.ok ((xs.map fun b=>((b.toNat:Nat):Int)).map (Value.int .u8)).toArray w:=by
      have:=run_loadCells_list (P:=P) w a (xs.map fun b=>Value.int .u8 b.toNat) (fun j v hj=>by
       grind)
      simpa[hl,Function.comp_def]using this
     rw[run_bytesToString w a n c _ N,foldl_push_bytes];simp[str,ByteArray.empty,ByteArray.emptyWithCapacity,Function.comp_def]
     try rfl
section rules
variable {P:Program}{T:be}{w0:World}{ops:Ai}{Q:An}{rest rest':Aj}{n:Nat}{l l':Sl}{K:PH}{hs:Ac}
def GN(T:be)(ops:Ai)(n k:Nat)(rest:Aj)(l:Sl):Option (Nat×Nat×Nat×(Ab×Nat×Nat)×Aj×Sl):=
 match eN T ops n k rest l with
 |some (o,r,l')=>match o.dst,o.op with
  |some d,.convert t J x=>match Nat.blt d n,ev l' x with
   |true,some (.slice ao m c)=>some (d,t,J,(ao,m,c),r,l')
   |_,_=>none
  |_,_=>none
 |none=>none
def vq[hT:a8 P T](k){d t t' m c ao h}(xs)(h0:GN T ops n k rest l=some (d,t,t',(ao,m,c),rest',l'))(J:In K hs h)
  (x:aj h ao m c 1 (xs.map fun b=>Value.int .u8 b.toNat)) (hs':qc P t t'=true)
  (hk:WL P w0 ops Q rest' n ((d,str xs)::l') K hs):WL P w0 ops Q rest n l K hs:=by
 unfold GN at h0
 split at h0
 ·rename_i o r l2 ho
  split at h0
  ·rename_i d' t1 t2 y hd N
   split at h0
   ·rename_i V m' X hb hx;simp only[aae,aah]at h0;obtain⟨rfl,rfl,rfl,⟨rfl,rfl,rfl⟩,rfl,rfl⟩:=h0;refine Ec ho fun hg=>Dx (R:=fun u O hs'=>u=str xs/\O=K/\hs'=hs) hd hb hg (fun A w ha U=>⟨str xs,w,K,hs,?_,U,I,I,I⟩) ?_
    ·have Y:=BV (P:=P) (w:=w) (c:=X) hs' xs (by have:=x.1;simpa using this) (fun j u hj=>by
      obtain⟨a,Z,h4⟩:=x.2.2 j u hj;exact⟨a,Z,U.cell J h4⟩)
     simp only[execOp,N,ha.ev hx];simp[Y]
    rintro u O hs' ⟨rfl,rfl,rfl⟩;exact hk
   simp at h0
  simp at h0
 simp at h0
def fI[hT:a8 P T](k i:Nat){d t b ty c fr}(h0:uX T ops n k rest l=some (d,t,⟨b,0,none⟩,rest',l'))(hi:hs[i]?=some (pt b c ty fr))(hm:i7 P t c.size=true)
  (J:WL P w0 ops Q rest' n ((d,.agg c)::l') K hs):WL P w0 ops Q rest n l K hs:=
 fu k c.toList h0 qo (.inr ⟨i,hi⟩) (m7 _ fun j v h=>by simpa using h) (by simpa using J)
def bA[hT:a8 P T](k i){t b ty}{c cs:Ah}(h0:uM T ops n k rest l=some (t,⟨b,0,none⟩,cs,rest',l'))(hi:hs[i]?=some (pt b c ty))(J:(P.info? t).map (·.size)=some cs.size)
  (U:cs.size=c.size) (N:cs.toList.all (·.oneCell')=true) (O:WL P w0 ops Q rest' n l' K (hs.set i (pt b cs ty))):WL P w0 ops Q rest n l K hs:=by
 refine lX k i h0 hi J qo (fun v hv=>(aaX.1 N) v hv) ?_
 have e:(c.toList.take 0++cs.toList++c.toList.drop (0+eq cs.toList)).toArray=cs:=by
  grind
 rw[e];exact O
end rules
section open_
variable {P:Program}{T:be}{w0:World}{ops:Ai}{Q:An}{plan plan':Af}{z:Nat}{listed listed':Al}{n:Nat}{l l':Sl}{K K0:PH}{hs A:Ac}
theorem zy{md q S S'}(h:∀L w,S' L w->S L w):∀(f:Nat) (L:Al) (a:Act) (w:World),tr P md ops q S' f L a w->tr P md ops q S f L a w
 |0,_,_,_,J=>J
 |f+1,_,_,_,J=>⟨J.1,fun i hi=>wpOp_mono (fun O w' N=>⟨h _ _ N.1,zy h f _ O w' N.2⟩) (J.2 i hi)⟩
def ff.SY{w0 w:World}{K:PH}{hs A:Ac}(s:a7 w0 w K hs)(J:∀h∈A,h∈hs):ff K A w:=
 ⟨s.SV,fun h hm b o hb=>s.block (.inr (ab7 (J h hm))) hb⟩
def oT{L}(A')(V:∀h∈A',h∈hs)(N:∀h∈A,h∈A')(X:K0=K)(hk:WA P w0 ops Q K A' z plan L n l K hs):
  WL P w0 ops (fun e a w=>gj .any ops plan L=true->fS .any ops L->lw P w0 ops Q K0 A z plan L e a w) [] n l K hs:=by
 subst X;intro a w Y O;refine wpList_nil fun hp Z=>?_;have up:∀L w,still z (ff K0 A') L w->still z (ff K0 A) L w:=fun L w h U=>⟨(h U).1,fun x hx=>(h U).2 x (N x hx)⟩;have J:still z (ff K0 A') L w:=fun _=>ff.SY O V;exact⟨up _ _ J,zy up _ _ _ _ (hk hp Z a w Y O J)⟩
def aP{L}(J:∀h∈A,h∈hs)(N:K0=K)(O:WA P w0 ops Q K A z plan L n l K hs):
  WL P w0 ops (fun e a w=>gj .any ops plan L=true->fS .any ops L->lw P w0 ops Q K0 A z plan L e a w) [] n l K hs:=oT A J (fun _ h=>h) N O
def bO{id}{o:Aj}(A z plan)(U:∀h∈A,h∈hs)(hm:P.follows .mixedOrders=true)(hp:(gj .any o.toArray plan (Array.replicate o.toArray.size false)&&Nat.beq (eq plan) o.toArray.size)=true)
  (h:WA P w0 o.toArray Q K A z plan (Array.replicate o.toArray.size false) n l K hs):WC P w0 (.region id o.toArray true) Q n l K hs:=by
 intro a w V Y;simp only[aaJ]at hp;refine wp_region_any hm ?_;have J:eq plan=o.toArray.size:=aaF hp.2;have N:a7 w0 {w with drawn:=w.drawn+1} K hs:=Y.drew
 have X:fS .any o.toArray (Array.replicate o.toArray.size false):=by
  refine⟨Q8,?_⟩
  grind[getD_replicate_false]
 have O:=h hp.1 X a {w with drawn:=w.drawn+1} V N (fun _=>ff.SY N U);rw[J]at O;refine EX (q:=Q .normal) (fun e a w h=>?_) _ _ _ _ O;cases e<;>first|exact h|exact h.elim
end open_
section ret
variable {P:Program}{w0:World}{fn:Func}{R:Ao}{n:Nat}{l:Sl}{K:PH}{hs:Ac}
def vH{w t m a}{cs:Ad}(hm:i7 P t m=true)(hl:eq cs=m)(J:∀(j:Nat) v,cs[j]?=some v->w.cell? (a.add j)=some v):(loadVar t a).run P w=.ok (.agg cs.toArray) w:=by
 have:=pC (P:=P) hm hl J
 simp_all[Instr.loadAt,Instr.sureAddr]
theorem a7.SS{w w0:World}:∀(m:Nat) {hs:Ac},a7 w0 w K hs->a7 w0 w K (hs.drop m)
 |0,_,s=>s
 |_+1,[],s=>s
 |m+1,_::r,s=>a7.SS m s.Qf
def gk(i m:Nat){t ty u b N:Nat}{x c fr}(X:fn.results=#[.cell t ty,.tmp u])(hv:look l t=some (Rp b))(Y:look l u=some x)(hi:hs[i]?=some (pt b c N fr))(hm:i7 P ty c.size=true)
  (V:R (.tuple #[.agg c,x]) K (hs.drop m)):WQ w0 (bodyPost P fn (fU w0 R)) .ret n l K hs:=
 fun _ w J U=>bodyPost_ret (v:=.tuple #[.agg c,x]) (by
  have O:=vH (P:=P) (w:=w) (t:=ty) (a:=⟨b,0,none⟩) (cs:=c.toList) qo rfl (fun j v hv=>U.cell (.inr ⟨i,hi⟩) (m7 c.toList (fun j v h=>by simpa using h) j v hv));have e:c.toList.toArray=c:=by simp
  rw[e]at O;simp[results,X,J.slot t _ hv,J.slot u x Y,asAddr,O]) J.defers ⟨_,_,_,rfl,V,U.SS m⟩
end ret
section open_
variable {P:Program}{T:be}{w0:World}{ops:Ai}{Q:An}{plan plan':Af}{z:Nat}{listed listed':Al}{n:Nat}{l l':Sl}{K K0:PH}{hs A:Ac}
def Gb(T:be)(ops:Ai)(n z k:Nat)(plan:Af)(L:Al)(l:Sl):Option (Nat×Oper×iU×(Ab×Nat×Nat)×Int×Af×Al×Sl):=
 match nA T ops n z k plan L l with
 |some (d,o,r,J,l')=>match o.op with
  |.indexAddr t x i=>match Ry T.So t,ev l' x,ev l' i with
   |some V,some (.slice N U O),some (.int _ j)=>some (d,o,V,(N,U,O),j,r,J,l')
   |_,_,_=>none
  |_=>none
 |none=>none
def bu[hT:a8 P T](J:Region.noSelect ops=true)(k){d o si a n1 c1 i}(j:Nat)
  (h0:Gb T ops n z k plan listed l=some (d,o,si,(some a,n1,c1),i,plan',listed',l')) (hj:i=(j:Int)) (N:j<n1)
  (hk:WA P w0 ops Q K0 A z plan' listed' n ((d,.pointer (some (a.add (j*si.size))))::l') K hs):WA P w0 ops Q K0 A z plan listed n l K hs:=by
 unfold Gb at h0
 split at h0
 ·rename_i d' o' r L' l2 hh
  split at h0
  ·rename_i t x' i' O
   split at h0
   ·rename_i aa a1 m1 k1 kk jj U hx hi;simp only[aae,aah]at h0;obtain⟨rfl,rfl,rfl,⟨rfl,rfl,rfl⟩,rfl,rfl,rfl,rfl⟩:=h0;subst hj;obtain⟨X,ii,Y,g3,Z,g5⟩:=hT.sl U;refine qD J k hh (fun A w V=>?_) hk;simp only[execOp,O,V.ev hx,V.ev hi];simp[Instr.indexAt,asIntOf,run_underlying X,sizeOf,typeInfo,Y,Z,N]
   simp at h0
  simp at h0
 simp at h0
def nY(T:be)(ops:Ai)(n z k:Nat)(plan:Af)(L:Al)(l:Sl):Option (Nat×Nat×Addr×Af×Al×Sl):=
 match lH T ops n z k plan L l with
 |some (p,o,r,J,l')=>match Nat.beq (p%2) 0,Nat.beq (p/2) z,fW ops l' o.guard,o.dst,o.op with
  |true,false,some true,some d,.load t x=>match Nat.blt d n,Ry T.kinds t,ev l' x with
   |true,some kd,some (.pointer (some a))=>cond kd.one (some (p,d,a,r,J.setIfInBounds (p/2) true,l')) none
   |_,_,_=>none
  |_,_,_,_,_=>none
 |none=>none
def GK[hT:a8 P T](J:Region.noSelect ops=true)(k){p d a v h}(h0:nY T ops n z k plan listed l=some (p,d,a,plan',listed',l'))(aa:cond (Nat.blt z ops.size) (Region.waitsFor .any ops z (p/2)) true=true)(hm:In K0 A h)(hc:co h a v)
  (hk:WA P w0 ops Q K0 A z plan' listed' n ((d,v)::l') K hs):WA P w0 ops Q K0 A z plan listed n l K hs:=by
 unfold nY at h0
 split at h0
 ·rename_i p' o r L' l2 hh
  split at h0
  ·rename_i dd t x hp hz hg hd V
   split at h0
   ·rename_i kd a' hb U hx;cases h1:kd.one with
    |false=>simp[h1]at h0
    |true=>
     simp only[h1,cond_true,aae,aah]at h0;obtain⟨rfl,rfl,rfl,rfl,rfl,rfl⟩:=h0;obtain⟨g1,g2⟩:=ki hh;refine Bd J k g1 ?_;have X:p'=2*(p' / 2):=by have:=aaF hp;omega
     rw[X];refine Bm g2 J hz hd hb (fun A' ha=>.inl ⟨gQ ha hg,fun w hw=>?_⟩) hk;obtain⟨L,O,Z,Y⟩:=hw;have N:=(Y (pB O Z aa)).cell hm hc;have h2:=pD (P:=P) U h1 N;simp only[execOp,V,ha.ev hx];simp[h2]
   simp at h0
  simp at h0
 simp at h0
def bR[hT:a8 P T](J:Region.noSelect ops=true)(k i:Nat){p d b off ty v c fr}(h0:nY T ops n z k plan listed l=some (p,d,⟨b,off,none⟩,plan',listed',l'))(N:cond (Nat.blt z ops.size) (Region.waitsFor .any ops z (p/2)) true=true)
  (hi:A[i]?=some (pt b c ty fr)) (hv:c[off]?=some v) (O:WA P w0 ops Q K0 A z plan' listed' n ((d,v)::l') K hs):WA P w0 ops Q K0 A z plan listed n l K hs:=
 GK J k h0 N (.inr ⟨i,hi⟩) (co.pt hv) O
def mu(T:be)(ops:Ai)(n z k:Nat)(plan:Af)(L:Al)(l:Sl):Option (Nat×Nat×Nat×Addr×Af×Al×Sl):=
 match lH T ops n z k plan L l with
 |some (p,o,r,J,l')=>match Nat.beq (p%2) 0,Nat.beq (p/2) z,fW ops l' o.guard,o.dst,o.op with
  |true,false,some true,some d,.load t x=>match Nat.blt d n,ev l' x with
   |true,some (.pointer (some a))=>some (p,d,t,a,r,J.setIfInBounds (p/2) true,l')
   |_,_=>none
  |_,_,_,_,_=>none
 |none=>none
def ln[hT:a8 P T](J:Region.noSelect ops=true)(k i:Nat){p d t b ty c fr}(h0:mu T ops n z k plan listed l=some (p,d,t,⟨b,0,none⟩,plan',listed',l'))(Y:cond (Nat.blt z ops.size) (Region.waitsFor .any ops z (p/2)) true=true)
  (hi:A[i]?=some (pt b c ty fr)) (hm:i7 P t c.size=true) (hk:WA P w0 ops Q K0 A z plan' listed' n ((d,.agg c)::l') K hs):WA P w0 ops Q K0 A z plan listed n l K hs:=by
 unfold mu at h0
 split at h0
 ·rename_i p' o r L' l2 hh
  split at h0
  ·rename_i dd t' x hp hz hg hd O
   split at h0
   ·rename_i a' hb hx;simp only[aae,aah]at h0;obtain⟨rfl,rfl,rfl,rfl,rfl,rfl,rfl⟩:=h0;obtain⟨g1,g2⟩:=ki hh;refine Bd J k g1 ?_;have U:p'=2*(p' / 2):=by have:=aaF hp;omega
    rw[U];refine Bm g2 J hz hd hb (fun A' ha=>.inl ⟨gQ ha hg,fun w hw=>?_⟩) hk;obtain⟨L,N,X,V⟩:=hw;have Z:=pC (P:=P) (w:=w) (t:=t') (a:=⟨b,0,none⟩) (cs:=c.toList) qo rfl (fun j v hv=>(V (pB N X Y)).cell (.inr ⟨i,hi⟩) (m7 c.toList (fun j v h=>by simpa using h) j v hv));have e:c.toList.toArray=c:=by simp
    rw[e]at Z;simp only[execOp,O,ha.ev hx];simp[Z]
   simp at h0
  simp at h0
 simp at h0
end open_
section join
variable {P:Program}{w0:World}{Q:An}{n:Nat}{l:Sl}{K:PH}{hs:Ac}
def JQ(w0:World){σ:Type}(F:σ->Sl)(N:PH)(H:σ->Ac)(J:σ->Prop)(n:Nat)(Q:An):An
 |.normal,a,w=>∃s,J s/\Ag n (F s) a/\a7 w0 w N (H s)
 |e,a,w=>Q e a w
def jn{σ x y}(F:σ->Sl)(H J)(U:WC P w0 x (JQ w0 F K H J n Q) n l K hs)(V:∀s,J s->WC P w0 y Q n (F s) K (H s)):WC P w0 (.seq x y) Q n l K hs:=
 sq fun a w N O=>Code.wp_mono (fun e a w h=>by
  cases e with
  |normal=>obtain⟨s,X,N,O⟩:=h;exact V s X a w N O
  |_=>exact h) (U a w N O)
def jx{σ}{F:σ->Sl}{HK H J}(s)(U:J s)(N:kP l (F s))(V:K=HK)(O:hs=H s):WQ w0 (JQ w0 F HK H J n Q) .normal n l K hs:=
 fun a w X Y=>⟨s,U,X.sub N,by rw[<-V,<-O];exact Y⟩
def jr{σ}{F:σ->Sl}{HK H J}(h:WQ w0 Q .ret n l K hs):WQ w0 (JQ w0 F HK H J n Q) .ret n l K hs:=h
def je{σ}{F:σ->Sl}{HK H J i}(h:WQ w0 Q (.exit i) n l K hs):WQ w0 (JQ w0 F HK H J n Q) (.exit i) n l K hs:=h
end join
def Le(K J:PH):Prop:=∀b o,K b=some o->J b=some o
theorem Le.refl(K):Le K K:=fun _ _ h=>h
abbrev Cg:=@Le.refl
def Le.trans{A B C}(h:Le A B)(g:Le B C):Le A C:=fun b o x=>g b o (h b o x)
def co.le{h h'}(l:Le h h'){a v}(c:co h a v):co h' a v:=by
 obtain⟨J,cs,ty,fr,N,O⟩:=c;exact⟨J,cs,ty,fr,l _ _ N,O⟩
theorem aj.le{h h'}(l:Le h h'){ao n cap size xs}(x:aj h ao n cap size xs):aj h' ao n cap size xs:=
 ⟨x.1,x.2.1,fun j u O=>by obtain⟨a,J,N⟩:=x.2.2 j u O;exact⟨a,J,N.le l⟩⟩
def un(K h:PH):PH:=fun b=>match K b with|some o=>some o|none=>h b
def a7.SK{w0 w:World}{K h:PH}{hs:Ac}(s:a7 w0 w K (h::hs)):Le K (un K h)/\Le h (un K h)/\a7 w0 w (un K h) hs:=by
 have J:∀b o,h b=some o->K b=none:=fun b o hb=>s.apart 0 h rfl b o hb;refine⟨fun b o hb=>by simp[un,hb],fun b o hb=>by simp[un,J b o hb,hb],⟨s.os,s.tape,s.output,s.size,?_,s.Qf.own,?_,s.Qf.sep⟩⟩
 ·intro b o hb;unfold un at hb;cases hk:K b with
  |some x=>rw[hk]at hb;cases hb;exact s.SV b _ hk
  |none=>rw[hk]at hb;exact s.own 0 h I b o hb
 intro i g hg b o hb;have N:=s.Qf.apart i g hg b o hb;have O:=s.sep (i+1) 0 g h (by simpa using hg) rfl qo b o hb;simp[un,N,O]
def a7.SJ{w0 w:World}{K J:PH}{hs:Ac}(l:Le K J)(s:a7 w0 w J hs):a7 w0 w K hs:=by
 refine⟨s.os,s.tape,s.output,s.size,fun b o hb=>s.SV b o (l b o hb),s.own,fun i h hi b o hb=>?_,s.sep⟩;have:=s.apart i h hi b o hb;cases hk:K b with
 |none=>rfl
 |some x=>rw[l b x hk]at this;cases this
section SK
variable {P:Program}{w0:World}{ops:Ai}{Q:An}{rest:Aj}{n:Nat}{l:Sl}{K h:PH}{hs:Ac}{c:Code}{e:Exit}
theorem WL.SK(X:∀J,Le K J->Le h J->WL P w0 ops Q rest n l J hs):WL P w0 ops Q rest n l K (h::hs):=fun a w V Y=>by
 obtain⟨N,O,U⟩:=Y.SK;exact X _ N O a w V U
abbrev Eg:=@WL.SK
theorem WC.SK(X:∀J,Le K J->Le h J->WC P w0 c Q n l J hs):WC P w0 c Q n l K (h::hs):=fun a w V Y=>by
 obtain⟨N,O,U⟩:=Y.SK;exact X _ N O a w V U
theorem WQ.SK(X:∀J,Le K J->Le h J->WQ w0 Q e n l J hs):WQ w0 Q e n l K (h::hs):=fun a w V Y=>by
 obtain⟨N,O,U⟩:=Y.SK;exact X _ N O a w V U
abbrev Ei:=@WQ.SK
theorem WQ.SJ{K'}(le:Le K K')(N:WQ w0 Q e n l K hs):WQ w0 Q e n l K' hs:=fun a w J O=>N a w J (O.SJ le)
def In.le{K J:PH}{hs:Ac}{x}(hm:In K hs x)(l:Le K J):∃y,In J hs y/\Le x y:=by
 rcases hm with rfl|h
 ·exact⟨J,.inl I,l⟩
 exact⟨x,.inr h,Cg _⟩
end SK
section rules
variable {P:Program}{T:be}{w0:World}{ops:Ai}{Q:An}{rest rest':Aj}{n:Nat}{l l':Sl}{K:PH}{hs:Ac}
def il(T:be)(ops:Ai)(n k:Nat)(rest:Aj)(l:Sl):Option (Nat×Oper×Aj×Sl):=
 match eN T ops n k rest l with
 |some (o,r,l')=>match o.dst with
  |some d=>cond (Nat.blt d n) (some (d,o,r,l')) none
  |none=>none
 |none=>none
def GQ(T:be)(ops:Ai)(n k:Nat)(rest:Aj)(l:Sl):Option (Nat×Nat×Nat×ByteArray×Aj×Sl):=
 match eN T ops n k rest l with
 |some (o,r,l')=>match o.dst,o.op with
  |some d,.convert t J x=>match Nat.blt d n,ev l' x with
   |true,some (.string s)=>some (d,t,J,s,r,l')
   |_,_=>none
  |_,_=>none
 |none=>none
def Hf[hT:a8 P T](k){d t t'}{xs:Aa}(h0:GQ T ops n k rest l=some (d,t,t',⟨xs.toArray⟩,rest',l'))(hs':qc P t' t=true)
  (X:∀b cap h,aj h (some ⟨b,0,none⟩) (eq xs) cap 1 (xs.map fun b=>Value.int .u8 b.toNat)->WL P w0 ops Q rest' n ((d,.slice (some ⟨b,0,none⟩) (eq xs) cap)::l') K (h::hs)):WL P w0 ops Q rest n l K hs:=by
 unfold GQ at h0
 split at h0
 ·rename_i o r l2 ho
  split at h0
  ·rename_i d' t1 t2 y hd Y
   split at h0
   ·rename_i s hb hy;simp only[aae,aah]at h0;obtain⟨rfl,rfl,rfl,rfl,rfl,rfl⟩:=h0;unfold qc at hs';simp only[aaJ]at hs';obtain⟨O,q2⟩:=hs';cases e1:P.underlying t2 with
    |none=>simp[e1]at O
    |some d1=>
     cases d1<;>simp[e1]at O;rename_i e;cases e2:P.underlying e with
     |none=>simp[e2]at O
     |some d2=>
      cases d2<;>simp[e2]at O;rename_i kd;cases kd<;>simp at O;cases e3:P.underlying t1 with
      |none=>simp[e3]at q2
      |some d3=>
       refine Ec ho fun hg=>Dx (R:=fun u Z hs'=>∃b cap h,u=.slice (some ⟨b,0,none⟩) (eq xs) cap/\Z=K/\hs'=h::hs/\aj h (some ⟨b,0,none⟩) (eq xs) cap 1 (xs.map fun b=>Value.int .u8 b.toNat)) hd hb hg
        (fun A w ha hw=>?_) (fun u Z hs' ⟨b,cap,h,U,h2,h3,h4⟩=>by subst U;subst h2;subst h3;exact X b cap h h4)
       have N:(⟨xs.toArray⟩:ByteArray).size=eq xs:=by rfl
       have hr:=Lib.run_convert_string_bytes (P:=P) w t1 t2 e ⟨xs.toArray⟩ e3 e1 e2;have J:eq xs<=grownCap w (eq xs) 0 e:=grownCap_ge w (eq xs) 0 e
       have V:(Lib.bytesCells w e ⟨xs.toArray⟩).toList=xs.map (fun b=>Value.int .u8 b.toNat)++List.replicate (grownCap w (eq xs) 0 e-eq xs) (.int .u8 0):=by
        simp[Lib.bytesCells,N]
       refine⟨.slice (some ⟨w.heap.size,0,none⟩) (eq xs) (grownCap w (eq xs) 0 e),Lib.bytesWorld w e ⟨xs.toArray⟩,K,pt w.heap.size (Lib.bytesCells w e ⟨xs.toArray⟩) e ((Lib.bytesCells w e ⟨xs.toArray⟩).size,(Lib.bytesCells w e ⟨xs.toArray⟩).size+1)::hs,?_,?_,w.heap.size,grownCap w (eq xs) 0 e,_,I,I,I,?_⟩
       ·simp only[execOp,Y,ha.ev hy];rw[<-N];simp[hr]
       ·have U:=(hw.drew.alloc (.cells (Lib.bytesCells w e ⟨xs.toArray⟩) e)).TE (i:=0) (w':=Lib.bytesWorld w e ⟨xs.toArray⟩) (fr':=((Lib.bytesCells w e ⟨xs.toArray⟩).size,(Lib.bytesCells w e ⟨xs.toArray⟩).size+1)) rfl
         (Lib.bytesWorld_at_new w e _) ?_ rfl rfl rfl ?_
        ·exact U
        ·intro k X;rcases aaz k w.heap.size with h|h
         ·rw[Lib.bytesWorld_at_old w e _ k h];exact(RowKit.Below.heap_alloc w.drew _ k h).symm
         have aa:w.heap.size<k:=by have:k≠w.heap.size:=X;omega
         rw[acB (by rw[Lib.bytesWorld_size];omega),acB Au]
        simp[Lib.bytesWorld_size]
       refine⟨Q8,J,fun j u hu=>⟨_,I,?_⟩⟩;rw[bf,aaO];refine co.pt ?_;have hj:j<eq xs:=by grind
       rw[<-acC,V,abE (by simpa using hj)];exact hu
   simp at h0
  simp at h0
 simp at h0
end rules
section ret
variable {P:Program}{w0:World}{fn:Func}{R:Ao}{n:Nat}{l:Sl}{K:PH}{hs:Ac}
def kZ(i m:Nat){t ty b J:Nat}{c fr}(X:fn.results=#[.cell t ty])(hv:look l t=some (Rp b))(hi:hs[i]?=some (pt b c J fr))(hm:i7 P ty c.size=true)
  (V:R (.agg c) K (hs.drop m)):WQ w0 (bodyPost P fn (fU w0 R)) .ret n l K hs:=
 fun _ w O U=>bodyPost_ret (v:=.agg c) (by
  have N:=vH (P:=P) (w:=w) (t:=ty) (a:=⟨b,0,none⟩) (cs:=c.toList) qo rfl (fun j v hv=>U.cell (.inr ⟨i,hi⟩) (m7 c.toList (fun j v h=>by simpa using h) j v hv));have e:c.toList.toArray=c:=by simp
  rw[e]at N;simp[results,X,O.slot t _ hv,asAddr,N]) O.defers ⟨_,_,_,rfl,V,U.SS m⟩
end ret
def lU{b p}(h:b=true↔p):(!b)=true↔¬p:=by cases b<;>simp_all
def Ag.cut{n}{l l':Sl}{a}(h:Ag n l' a)(J:l'.drop (eq l'-eq l)=l)(N:((l'.take (eq l'-eq l)).all fun x=>(look l x.1).isNone)=true):Ag n l a:=by
 refine⟨h.size,h.defers,fun t v ht=>h.slot t v ?_⟩;generalize (eq l')-eq l=k at J N;clear h
 induction k generalizing l' with
 |zero=>simp at J;rw[J];exact ht
 |succ k O=>
  cases l' with
  |nil=>simp at J;subst J;exact ht
  |cons x r=>
   obtain⟨U,u⟩:=x;simp only[abN,List.all_cons,aaJ]at N
   grind[Nat.eq_of_beq_eq_true,look]
def Ag.cons{n l a t v}(h:Ag n l a)(ht:a.tmps[t]?=some v):Ag n ((t,v)::l) a:=by
 refine⟨h.size,h.defers,fun s u hs=>?_⟩;simp only[look]at hs;cases e:Nat.beq t s with
 |true=>
  simp_all
 |false=>rw[e]at hs;exact h.slot s u hs
def BJ(w0:World)(t n:Nat)(l:Sl)(q:Prop)(K:PH)(hs:Ac):An:=fun e a w=>e=.normal/\∃c:Bool,(c=true↔q)/\Ag n ((t,.bool c)::l) a/\a7 w0 w K hs
def bJ{w0:World}{t n}{l l':Sl}{q}{K:PH}{hs:Ac}{c}(U:c=true↔q)(hl:look l' t=some (.bool c))(N:l'.drop (eq l'-eq l)=l)(O:((l'.take (eq l'-eq l)).all fun x=>(look l x.1).isNone)=true):
  WQ w0 (BJ w0 t n l q K hs) .normal n l' K hs:=fun a w J V=>⟨rfl,c,U,(J.cut N O).cons (J.slot t _ hl),V⟩
theorem vR{P:Program}{ops:Ai}{Q Q1:An}{rest:Aj}(J:∀e a w,Q1 e a w->e=.normal)(N:∀a w,Q1 .normal a w->wpList P ops Q rest a w):
  ∀(Rf:Aj) (a:Act) (w:World),wpList P ops Q1 Rf a w->wpList P ops Q (Rf++rest) a w
 |[],a,w,h=>N a w h
 |o::Rf,a,w,h=>by
  unfold wpList at h;rw[aaL];unfold wpList
  split
  ·rename_i O;rw[aab O]at h;rcases h with h|⟨_,U,w',h⟩
   ·refine .inl<|Oper.wp_mono (fun a w h=>vR J N Rf a w h) ?_
    grind[yD,Oper.wp]
   have:=J _ _ _ h;cases this
  rename_i O;rw[aaa O]at h;exact vR J N Rf _ w h
section rules
variable {P:Program}{T:be}{w0:World}{ops:Ai}{Q:An}{rest rest' rest2:Aj}{n:Nat}{l l' lE:Sl}{K:PH}{hs:Ac}
def fT(J:Af)(w:Bool):Sl->Sl
 |[]=>[]
 |(k,v)::r=>(k,cond (J.any (Nat.beq k)) (.bool w) v)::fT J w r
def bj[hT:a8 P T](k m t ts want b){φ q}(h0:iO T ops n k rest l=some (rest',l'))(N:fT ts b l'=l')(O:iO T ops n m rest' (fT ts (!want) l')=some (rest2,lE))(hl:look lE t=some (.bool (!want)))
  (Z:lE.drop (eq lE-eq (fT ts (!want) l'))=fT ts (!want) l') (h2:((lE.take (eq lE-eq (fT ts (!want) l'))).all fun x=>(look (fT ts (!want) l') x.1).isNone)=true) (hr:rest'=rest'.take m++rest2)
  (hn:b = !want->((!want)=true↔φ)) (hq:b=want->(q↔φ))
  (J:b=want->WL P w0 ops (BJ w0 t n (fT ts want l') q K hs) (rest'.take m) n (fT ts want l') K hs)
  (hk:∀Y,(Y=true↔φ)->WL P w0 ops Q rest2 n ((t,.bool Y)::l') K hs):WL P w0 ops Q rest n l K hs:=by
 refine Bc k h0 ?_
 by_cases hb:b=want
 ·subst hb;rw[N]at J;intro a w U X;rw[hr];refine vR (Q1:=BJ w0 t n l' q K hs) (fun e a w h=>h.1) (fun a w h=>?_) _ a w (J I a w U X);obtain⟨_,c,hc,hA,hS⟩:=h;exact hk c (hc.trans (hq I)) a w hA hS
 have V:b = !want:=by cases b<;>cases want<;>first|rfl|exact absurd rfl hb
 subst V;rw[N]at O Z h2;exact Bc m O fun a w U X=>hk _ (hn I) a w ((U.cut Z h2).cons (U.slot t _ hl)) X
def dB[hT:a8 P T](k m t ts){b p q}(hb:b=true↔p)(h0:iO T ops n k rest l=some (rest',l'))(N:fT ts b l'=l')(O:iO T ops n m rest' (fT ts true l')=some (rest2,lE))(hl:look lE t=some (.bool true))
  (V:lE.drop (eq lE-eq (fT ts true l'))=fT ts true l') (X:((lE.take (eq lE-eq (fT ts true l'))).all fun x=>(look (fT ts true l') x.1).isNone)=true) (Z:rest'=rest'.take m++rest2)
  (J:¬p->WL P w0 ops (BJ w0 t n (fT ts false l') q K hs) (rest'.take m) n (fT ts false l') K hs)
  (Y:∀U,(U=true↔p\/q)->WL P w0 ops Q rest2 n ((t,.bool U)::l') K hs):WL P w0 ops Q rest n l K hs:=
 bj k m t ts false b (φ:=p\/q) (q:=q) h0 N O hl V X Z (fun h=>by subst h;simpa using Or.inl (hb.1 rfl)) (fun h=>⟨.inr,fun g=>g.resolve_left (fun hp=>by have:=hb.2 hp;rw[h]at this;cases this)⟩)
  (fun h=>J (fun hp=>by have:=hb.2 hp;rw[h]at this;cases this)) Y
def eQ[hT:a8 P T](k m t ts){b p q}(hb:b=true↔p)(h0:iO T ops n k rest l=some (rest',l'))(N:fT ts b l'=l')(O:iO T ops n m rest' (fT ts false l')=some (rest2,lE))(hl:look lE t=some (.bool false))
  (X:lE.drop (eq lE-eq (fT ts false l'))=fT ts false l') (Y:((lE.take (eq lE-eq (fT ts false l'))).all fun x=>(look (fT ts false l') x.1).isNone)=true) (hr:rest'=rest'.take m++rest2)
  (J:p->WL P w0 ops (BJ w0 t n (fT ts true l') q K hs) (rest'.take m) n (fT ts true l') K hs)
  (Z:∀U,(U=true↔p/\q)->WL P w0 ops Q rest2 n ((t,.bool U)::l') K hs):WL P w0 ops Q rest n l K hs:=
 bj k m t ts true b (φ:=p/\q) (q:=q) h0 N O hl X Y hr (fun h=>Iff.intro (fun V=>absurd V Q9) (fun V=>by simp_all)) (fun h=>Iff.intro (fun g=>⟨hb.1 h,g⟩) (fun g=>g.2))
  (fun h=>J (hb.1 h)) Z
def aw[hT:a8 P T](k){d p}(h:zo T ops n k rest l=some (d,p,rest',l'))(J:∀b:Bool,(b=true↔p)->WL P w0 ops Q rest' n ((d,.bool b)::l') K hs):WL P w0 ops Q rest n l K hs:=
 bc k h (fun hp=>J true (by simpa using hp)) (fun hp=>J false (by simpa using hp))
def cG[hT:a8 P T](k){d c}(p)(h:mh T ops n k rest l=some (d,.bool c,rest',l'))(hp:c=true↔p)(J:∀b:Bool,(b=true↔p)->WL P w0 ops Q rest' n ((d,.bool b)::l') K hs):WL P w0 ops Q rest n l K hs:=
 ar k h rfl (J c hp)
def Qz[hT:a8 P T](k){d}{xs ys:Aa}(h:mh T ops n k rest l=some (d,.bool ((⟨xs.toArray⟩:ByteArray).toList==(⟨ys.toArray⟩:ByteArray).toList),rest',l'))(J:∀b:Bool,(b=true↔xs=ys)->WL P w0 ops Q rest' n ((d,.bool b)::l') K hs):WL P w0 ops Q rest n l K hs:=
 ar k h rfl (J _ Q8)
def Qx[hT:a8 P T](k){d}{xs ys:Aa}(h:mh T ops n k rest l=some (d,.bool !((⟨xs.toArray⟩:ByteArray).toList==(⟨ys.toArray⟩:ByteArray).toList),rest',l'))(J:∀b:Bool,(b=true↔xs≠ys)->WL P w0 ops Q rest' n ((d,.bool b)::l') K hs):WL P w0 ops Q rest n l K hs:=
 ar k h rfl (J _ Q8)
def mI{t c}(J:∀b:Bool,(b=true↔c=true)->WL P w0 ops Q rest n ((t,.bool b)::l) K hs):WL P w0 ops Q rest n ((t,.bool c)::l) K hs:=J c Iff.rfl
end rules
def ax{P:Program}{w0:World}{Q:An}{n l}{K:PH}{hs:Ac}{c x y b p}(hb:b=true↔p)(N:ev l c=some (.bool b))(h:p->WC P w0 x Q n l K hs)(J:¬p->WC P w0 y Q n l K hs):
  WC P w0 (.cond c x y) Q n l K hs:=fw N (fun e=>h (hb.1 e)) (fun e=>J (fun hp=>by rw[hb.2 hp]at e;cases e))
def uZ{P:Program}{w0:World}{Q:An}{n l}{K:PH}{hs:Ac}{c x y b p}(hb:b=true↔p)(hp:p)(J:ev l c=some (.bool b))(h:WC P w0 x Q n l K hs):
  WC P w0 (.cond c x y) Q n l K hs:=ax hb J (fun _=>h) (fun g=>absurd hp g)
def GE{P:Program}{w0:World}{Q:An}{n l}{K:PH}{hs:Ac}{c x y b p}(hb:b=true↔p)(hp:¬p)(J:ev l c=some (.bool b))(h:WC P w0 y Q n l K hs):
  WC P w0 (.cond c x y) Q n l K hs:=ax hb J (fun g=>absurd g hp) (fun _=>h)
def dU{P:Program}{T:be}{w0:World}{ops:Ai}{Q:An}{plan plan' z listed listed' n l l'}{K K0:PH}{hs A:Ac}
  [hT:a8 P T] (J:Region.noSelect ops=true) (k) {d c} (p) (h0:rK T ops n z k plan listed l=some (d,.bool c,plan',listed',l')) (hp:p↔c=true)
  (N:∀b:Bool,(b=true↔p)->WA P w0 ops Q K0 A z plan' listed' n ((d,.bool b)::l') K hs):WA P w0 ops Q K0 A z plan listed n l K hs:=
 bF J k h0 rfl (N c hp.symm)
def Ct.S4{P:Program}{w0:World}{f args}{K:PH}{hs:Ac}{h u}(i)(hi:hs[i]?=some h)
  (c:Ct P w0 f args K (h::hs.eraseIdx i) (fun v N hs'=>N=K/\hs'=h::hs.eraseIdx i/\v=u)):Ct P w0 f args K hs (Ap K hs u):=by
 refine⟨c.1,fun w O=>(c.2 w (O.perm (iE hs i h hi))).mono ?_⟩;rintro e w' ⟨v,N,hs',rfl,⟨rfl,rfl,rfl⟩,J⟩;exact⟨_,_,_,I,⟨I,I,I⟩,J.perm (iE hs i h hi).symm⟩
abbrev Ck:=@Ct.S4
def zH{P:Program}{T:be}{w0:World}{ops:Ai}{Q:An}{plan plan' z listed listed' n l l'}{K K0:PH}{hs A:Ac}
  [hT:a8 P T] (J:Region.noSelect ops=true) (k) {p d t a h} (cs:Ad) (h0:mu T ops n z k plan listed l=some (p,d,t,a,plan',listed',l')) (Z:cond (Nat.blt z ops.size) (Region.waitsFor .any ops z (p/2)) true=true)
  (hm:i7 P t (eq cs)=true) (O:In K0 A h) (hc:∀(j:Nat) v,cs[j]?=some v->co h (a.add j) v) (hk:WA P w0 ops Q K0 A z plan' listed' n ((d,.agg cs.toArray)::l') K hs):WA P w0 ops Q K0 A z plan listed n l K hs:=by
 unfold mu at h0
 split at h0
 ·rename_i p' o r L' l2 hh
  split at h0
  ·rename_i dd t' x hp hz hg hd U
   split at h0
   ·rename_i a' hb hx;simp only[aae,aah]at h0;obtain⟨rfl,rfl,rfl,rfl,rfl,rfl,rfl⟩:=h0;obtain⟨g1,g2⟩:=ki hh;refine Bd J k g1 ?_;have V:p'=2*(p' / 2):=by have:=aaF hp;omega
    rw[V];refine Bm g2 J hz hd hb (fun A' ha=>.inl ⟨gQ ha hg,fun w hw=>?_⟩) hk;obtain⟨L,N,Y,X⟩:=hw;have h2:=pC (P:=P) (w:=w) (t:=t') (a:=a') (cs:=cs) hm rfl (fun j v hv=>(X (pB N Y Z)).cell O (hc j v hv));simp only[execOp,U,ha.ev hx];simp[h2]
   simp at h0
  simp at h0
 simp at h0
theorem WL.hs{P:Program}{w0:World}{ops:Ai}{Q:An}{rest:Aj}{n l}{K:PH}{hs:Ac}(hs')(e:hs=hs')(J:WL P w0 ops Q rest n l K hs'):WL P w0 ops Q rest n l K hs:=by
 subst e;exact J
abbrev Ew:=@WL.hs
end
section
def bv(l:Aa):Ad:=l.map fun b=>Value.int .u8 b.toNat
def kT(l r):bv (l++r)=bv l++bv r:=by simp[bv]
def gE(l):∀u∈bv l,u.oneCell'=true:=by
 intro u J;obtain⟨b,_,rfl⟩:=aau.1 J
 rfl
def rL{l}{j:Nat}(h):(bv l)[j]?=some (.int .u8 (l[j].toNat:Nat)):=by
 simp[bv,h]
def aK(n:Nat):Aa:=if n<128 then [UInt8.ofNat n]else UInt8.ofNat (n%128+128)::aK (n/128)
 termination_by n
 decreasing_by omega
def pN{n}(h:n<128):aK n=[UInt8.ofNat n]:=by rw[aK,aab h]
def nQ{n}(h:¬n<128):aK n=UInt8.ofNat (n%128+128)::aK (n/128):=by rw[aK,aaa h]
theorem qI:∀(k n:Nat),n<128^k->0<k->eq (aK n)<=k
 |0,n,h,h0=>by omega
 |k+1,n,h,_=>by
  by_cases hn:n<128
  ·rw[pN hn];simp
  rw[nQ hn];have J:n/128<128^k:=qo
  have N:0<k:=by
   grind
  simp_all[qI]
theorem dI{n}(h:n<2^64):eq (aK n)<=10:=by
 refine qI 10 n ?_ qo;omega
def rY{n}(h:n<256):Value.int .u8 (n:Nat)=.int .u8 ((UInt8.ofNat n).toNat:Nat):=by
 grind[UInt8.toNat_ofNat_of_lt']
def Fs{h ao n n' cap size xs ys}(x:aj h ao n cap size xs)(J:n=n')(N:xs=ys):aj h ao n' cap size ys:=by subst J;subst N;exact x
def pK(b m)(h:m<256):aj (pt b #[.int .u8 (m:Nat)] 5) (some ⟨b,0,none⟩) 1 1 1 (bv [UInt8.ofNat m]):=by
 refine Fs (aJ.Re (e:=5) (n:=1) (size:=1) Q8 At).Ni I ?_;simp[bv,rY h]
theorem Md:∀m:BitVec 8,(m ||| 128#8)=BitVec.ofNat 8 (m.toNat%128+128):=by decide
def Mq(m):Value.int .u8 (IntKind.u8.wrap (BitVec.ofInt 8 ((m%256:Nat):Int) ||| BitVec.ofInt 8 128).toNat)=.int .u8 (m%128+128:Nat):=by
 grind[Md,kJ,BitVec.ofInt]
def Mr(m:Nat):Value.int .u64 ((m:Int).fdiv (2^(min (7:Int).toNat IntKind.u64.bits)))=.int .u64 (m/128:Nat):=by
 have:min (7:Int).toNat IntKind.u64.bits=7:=by decide
 grind
def yV(s:BitVec 32):BitVec 32:=(s >>> 1) ^^^ (0x82f63b78#32 &&& -(s &&& 1#32))
def pR:Nat->BitVec 32->BitVec 32
 |0,s=>s
 |k+1,s=>pR k (yV s)
theorem AJ:∀(k:Nat) (s:BitVec 32),pR (k+1) s=yV (pR k s)
 |0,s=>rfl
 |k+1,s=>by rw[pR,AJ k (yV s)];rfl
def EH(s:BitVec 32)(c:UInt8):BitVec 32:=pR 8 (s ^^^ BitVec.ofNat 32 c.toNat)
def p6(s:BitVec 32)(l:Aa):BitVec 32:=l.foldl EH s
def mN(l:Aa):BitVec 32 := ~~~ p6 4294967295#32 l
def HV(s l c):p6 s (l++[c])=EH (p6 s l) c:=by simp[p6]
def zS(x):BitVec.ofInt 32 ((x.toNat:Nat):Int)=x:=by
 simp
theorem uK(x:BitVec 32):Value.int .u32 (IntKind.u32.wrap ((x.toNat:Nat):Int))=.int .u32 x.toNat:=PN ⟨qo,qo⟩
def EV(x y:BitVec 32):Value.int .u32 (IntKind.u32.wrap (BitVec.ofInt 32 ((x.toNat:Nat):Int) ^^^ BitVec.ofInt 32 ((y.toNat:Nat):Int)).toNat)=.int .u32 (((x ^^^ y).toNat:Nat):Int):=by
 rw[zS,zS];exact uK _
def Mw(x:BitVec 32):Value.int .u32 (((x.toNat:Nat):Int).fdiv (2^(min (1:Int).toNat IntKind.u32.bits)))=.int .u32 (((x >>> 1).toNat:Nat):Int):=by
 have:min (1:Int).toNat IntKind.u32.bits=1:=by decide
 simp_all[Int.fdiv_eq_ediv_of_nonneg,Nat.shiftRight_eq_div_pow]
def N6(x:BitVec 32):Value.int .u32 (IntKind.u32.wrap (0-((x.toNat:Nat):Int)))=.int .u32 (((-x).toNat:Nat):Int):=by
 congr 1
 have:=x.isLt
 grind[IntKind.wrap,IntKind.bits,IntKind.signed]
def N5(x:BitVec 32):Value.int .u32 (IntKind.u32.wrap (BitVec.ofInt 32 (if IntKind.u32.signed then -1 else IntKind.u32.max) ^^^ BitVec.ofInt 32 ((x.toNat:Nat):Int)).toNat)=.int .u32 (((~~~x).toNat:Nat):Int):=by
 have e:BitVec.ofInt 32 (if IntKind.u32.signed then -1 else IntKind.u32.max)=BitVec.allOnes 32:=by decide
 rw[e,zS,BitVec.allOnes_xor];exact uK _
def My(x):Value.int .u32 (IntKind.u32.wrap (BitVec.ofInt 32 ((x.toNat:Nat):Int) &&& BitVec.ofInt 32 1).toNat)=.int .u32 (((x &&& 1#32).toNat:Nat):Int):=by
 grind[uK]
def Mx(x):Value.int .u32 (IntKind.u32.wrap (BitVec.ofInt 32 2197175160 &&& BitVec.ofInt 32 ((x.toNat:Nat):Int)).toNat)=.int .u32 (((0x82f63b78#32 &&& x).toNat:Nat):Int):=by
 grind[uK]
def Jz(c:UInt8):Value.int .u32 (IntKind.u32.wrap ((c.toNat:Nat):Int))=.int .u32 (((BitVec.ofNat 32 c.toNat).toNat:Nat):Int):=by
 rfl
theorem nF{α:Type}(l:List α)(j h):l.take (j+1)=l.take j++[l[j]]:=by
 simp
def cJ(x:Aa):Aa:=aK (eq x)++x
def cU(s:Nat):Aa:=[UInt8.ofNat s,UInt8.ofNat (s/256),UInt8.ofNat (s/65536),UInt8.ofNat (s/16777216)]
def pT(b:Aa):Aa:=cJ b++cU (mN b).toNat
def fC(i J:Nat):Aa->Nat×Nat×Int
 |[]=>(0,0,20)
 |c::r=>if i=9/\1<c.toNat then(0,0,21)
  else if 128<=c.toNat then fC (i+1) (J+c.toNat%128*128^i) r
  else if c.toNat=0/\0<i then(0,0,21)
  else(J+c.toNat%128*128^i,i+1,0)
theorem KJ:∀m:BitVec 8,(m &&& 127#8)=BitVec.ofNat 8 (m.toNat%128):=by decide
def CD(c:UInt8):Value.int .u8 (IntKind.u8.wrap (BitVec.ofInt 8 ((c.toNat:Nat):Int) &&& BitVec.ofInt 8 127).toNat)=.int .u8 (c.toNat%128:Nat):=by
 grind[KJ,kJ]
def DG(m i)(hi:i<=9)(h:m*128^i<2^64):Value.int .u64 (IntKind.u64.wrap (((m:Nat):Int)*2^(min ((7:Int)*(i:Nat)).toNat IntKind.u64.bits)))=.int .u64 (m*128^i:Nat):=by
 have e:min ((7:Int)*(i:Nat)).toNat IntKind.u64.bits=7*i:=by
  have:IntKind.u64.bits=64:=rfl;omega
 have e2:((m:Nat):Int)*2^(7*i)=((m*128^i:Nat):Int):=by
  have:(128:Nat)^i=2^(7*i):=by rw[Nat.pow_mul]
  rw[this]
  rfl
 rw[e,e2,nC,aaU h]
def FP(x y i)(J:x<128^i)(h:x+y*128^i<2^64):
  Value.int .u64 (IntKind.u64.wrap (BitVec.ofInt 64 ((x:Nat):Int) ||| BitVec.ofInt 64 ((y*128^i:Nat):Int)).toNat)=.int .u64 (x+y*128^i:Nat):=by
 have hp:(128:Nat)^i=2^(7*i):=by rw[Nat.pow_mul]
 have e:(BitVec.ofInt 64 ((x:Nat):Int) ||| BitVec.ofInt 64 ((y*128^i:Nat):Int)).toNat=x+y*128^i:=by
  rw[BitVec.toNat_or,abu,abu,abv,abv,aaU qo,aaU qo,Nat.or_comm,acb y,hp,
   <- acD qo]
  omega
 rw[e,nC,aaU h]
abbrev Rd:=Aa×Int
def br:Rd->Nat×Rd
 |(b,e)=>if e=0 then(match b with|[]=>(0,([],20))|c::r=>(c.toNat,(r,0)))else(0,(b,e))
def aG(most:Nat):Rd->Nat×Rd
 |(b,e)=>if e=0 then(let x:=fC 0 0 b;if x.2.2=0 then(if most<x.1 then(0,(b,22))else(x.1,(b.drop x.2.1,0)))else(0,(b,x.2.2)))else(0,(b,e))
def bW(most:Int):Rd->Aa×Rd
 |(b,e)=>let x:=aG most.toNat (b,e)
  if x.2.2=0 then(if eq x.2.1<x.1 then([],(b,20))else(x.2.1.take x.1,(x.2.1.drop x.1,0)))else([],x.2)
def kB:Rd->Int
 |(b,e)=>if e=0/\0<eq b then 23 else e
def sT(i acc c r):fC i acc (c::r)=if i=9/\1<c.toNat then(0,0,21)
  else if 128<=c.toNat then fC (i+1) (acc+c.toNat%128*128^i) r
  else if c.toNat=0/\0<i then(0,0,21)
  else(acc+c.toNat%128*128^i,i+1,0):=rfl
def wm{x m i}(hi:i<=9)(V:x<128^i)(hm:m<128)(U:i=9->m<=1):x+m*128^i<2^64/\(i<9->x+m*128^i<128^(i+1)):=by
 have J:(m+1)*128^i<=128*128^i:=abh _ qo;rw[Nat.add_mul]at J;have N:(128:Nat)^(i+1)=128*128^i:=qo
 by_cases h:i=9
 ·grind
 have O:(128:Nat)^(i+1)<=128^9:=abO qo qo;omega
theorem wM:∀(b:Aa) (i J:Nat),i<=9->J<128^i->(fC i J b).1<2^64/\(fC i J b).2.1<=i+eq b/\((fC i J b).2.2=0->0<(fC i J b).2.1)
 |[],i,J,hi,V=>by simp[fC]
 |c::r,i,J,hi,V=>by
  unfold fC
  split
  ·simp
  rename_i Y;have O:=wm (m:=c.toNat%128) hi V qo qo
  split
  ·rename_i X;have N:i<9:=qo
   have U:=wM r (i+1) (J+c.toNat%128*128^i) qo (O.2 N);simp only[aas];exact⟨U.1,qo,U.2.2⟩
  split
  ·simp
  simp only[aas];exact⟨O.1,qo,fun _=>by omega⟩
def pI(m:Nat)(b:Aa)(e:Int):(aG m (b,e)).1<2^64/\eq (aG m (b,e)).2.1<=eq b:=by
 have J:=wM b 0 0 qo qo
 grind[aG]
def xQ(s k)(J:k<=32):Value.int .u32 (((s:Nat):Int).fdiv (2^(min ((k:Nat):Int).toNat IntKind.u32.bits)))=.int .u32 (s/2^k:Nat):=by
 have:min ((k:Nat):Int).toNat IntKind.u32.bits=k:=by
  have:IntKind.u32.bits=32:=rfl;omega
 grind
def Kj(s):[Value.int .u8 (s%256:Nat),.int .u8 (s/2^8%256:Nat),.int .u8 (s/2^16%256:Nat),.int .u8 (s/2^24%256:Nat)]=bv (cU s):=by
 rfl
theorem pz(x):eq (cJ x)=eq (aK (eq x))+eq x:=by simp[cJ]
end
section
open Go.En Go.ChangeShapes Go.WideShapes Go.ChangeAt Go.RowKit
open Go.ChangeMaps (open_string shut_string)
def hp(W:World):PH:=fun b=>W.heap[b]?
def PR(W):a7 W W (hp W) []:=by
 refine⟨I,I,I,aac _,fun b o h=>h,?_,?_,?_⟩
 all_goals simp
def Mf{W w}{hs:Ac}(s:a7 W w (hp W) hs):Below W.heap.size W w:=by
 refine⟨s.os,s.tape,s.output,s.size,fun k J=>?_⟩;have h:W.heap[k]?=some W.heap[k]:=Array.getElem?_eq_getElem J;rw[s.SV k _ h,h]
def xP{P:Program}{W f}{args:Ad}(c:Ct P W f args (hp W) [] (fun v J _=>J=hp W/\v=.bool true)):
  Calls P f args.toArray W fun e W'=>e=.returned (.bool true)/\Below W.heap.size W W':=by
 refine(c.2 W (PR W)).mono ?_;rintro e w' ⟨v,J,hs',rfl,⟨rfl,rfl⟩,s⟩;exact⟨I,Mf s⟩
theorem BO{H}{enc:TypeId×Value->H}{P:Program}(hl:laidOutB P=true){W W'}{O:Nat->Bool}:
  ∀(N:List TypeId) (vs:Ad) (ds:List (DataW H)) (ps:List MemPlace),(∀t∈N,P.readableRec t=true/\t<P.types.size)->DataW.TrodAll enc P W 0 (fun _=>true) true N vs ds ps ->
   (∀p∈ps,W.sameAt W' p)->(∀p∈ps,O p.block=true)->DataW.TrodAll enc P W' 0 O true N vs ds ps
 |[],[],[],ps,_,h,_,_=>h
 |[],[],_::_,ps,_,h,_,_=>h.elim
 |[],_::_,_,ps,_,h,_,_=>h.elim
 |_::_,[],_,ps,_,h,_,_=>h.elim
 |_::_,_::_,[],ps,_,h,_,_=>h.elim
 |t::N,v::vs,d::ds,ps,ht,h,hs,hp=>by
  obtain⟨p,q,U,V,rfl⟩:=h;obtain⟨X,Z⟩:=ht t Q8;refine⟨p,q,WideElems.Trod_stays hl X Z U (fun x J=>hs x (by simp[J])) (fun x J=>hp x (by simp[J])),BO hl N vs ds q (fun u Y=>ht u (by simp[Y])) V (fun x J=>hs x (by simp[J])) (fun x J=>hp x (by simp[J])),I⟩
def wK{H enc}{P:Program}{f}{s:ChangeSpec}{W W' args ds gs before tb}
  (X:DataW.Whole enc P f.params.toList s.vars false W args.toList ds gs before) (hb:Below W.heap.size W W') (hl:laidOutB P=true)
  (aa:∀t∈f.params.toList,P.readableRec t=true/\t<P.types.size) (Z:f.resultTypes=#[tb]) (ab:P.underlying tb=some .bool) (hv:s.vars=[])
  (U:(s.fn H (ds++gs)).results=[.lit (.bool true)]) (J:(s.fn H (ds++gs)).args=ds) (N:(s.fn H (ds++gs)).vars=[]):
  s.post enc P f false true false false W args (.bool true) W':=by
 have O:=X.lt;have Y:=X;obtain⟨p,q,hA,V,rfl,ad,ae⟩:=X;rw[hv]at V
 have hq:q=[]:=by
  cases gs with
  |nil=>exact V
  |cons _ _=>exact V.elim
 subst hq;refine⟨ds,gs,_,[],p,[],Y,?_,?_,?_,hb.frame _,fun h=>by cases h⟩
 ·rw[Z,U];exact trodAll_cons_mk (shut_bool ab _) trodAll_mk0
 ·rw[J];exact BO hl _ _ _ _ aa hA (fun x hx=>hb.same (O x (by simp[hx]))) (fun x hx=>by simpa using O x (by simp[hx]))
 rw[hv,N];rfl
def zp{H l}(J:Rows.uptoSmall H l=true):Rows.uptoBulkAll l<=1048576:=by
 simpa[Rows.uptoSmall]using J
def own:ownKnob Tryz.prog.godebug=none:=by kernel_rfl
theorem laid:laidOutB Tryz.prog=true:=by kernel_rfl
end
section
open Go.En Go.ChangeShapes Go.WideShapes Go.ChangeAt Go.RowKit Go.Deep
section opens
variable {H:Type}{enc:TypeId×Value->H}{P:Program}{W:World}{α β γ:Type}
def gJ(enc:TypeId×Value->H)(P:Program)(W:World)(t:TypeId)(sz:Nat)(R:Ad->α->Prop)(m:α->Nat):Prop:=
 P.cellsOf t=sz/\∀J cs (x:DataW H×List MemPlace),DataW.trod enc P W 0 (fun _=>true) true J t cs=some x->∃v,R cs v/\m v<=Rows.uptoBulk x.1/\eq cs=sz
def RI(k:IntKind)(cs:Ad)(n:Int):Prop:=cs=[.int k n]/\(Lit.int k n).wf=true
theorem gJ.int{t k}(ht:P.underlying t=some (.int k))(N:P.cellsOf t=1):gJ enc P W t 1 (RI k) (fun _=>1):=by
 refine⟨N,fun J cs x h=>?_⟩;obtain⟨n,rfl,rfl,O⟩:=DataW.trod_int ht h;exact⟨n,⟨I,O⟩,by simp[Rows.uptoBulk],I⟩
def RB(cs:Ad)(b:Bool):Prop:=cs=[.bool b]
def fg(R:Ad->α->Prop):List (Ad)->List α->Prop
 |[],[]=>True
 |c::cs,x::xs=>R c x/\fg R cs xs
 |_,_=>False
theorem fg.snoc{R c x}(h:R c x):∀{cs:List (Ad)} {xs:List α},fg R cs xs->fg R (cs++[c]) (xs++[x])
 |[],[],_=>⟨h,trivial⟩
 |_::_,_::_,g=>⟨g.1,fg.snoc h g.2⟩
 |[],_::_,g=>g.elim
 |_::_,[],g=>g.elim
def sK(W:World)(sz:Nat)(R:Ad->α->Prop)(cs:Ad)(xs:List α):Prop:=
 ∃ao cap,∃css:List (Ad),cs=[.slice ao (eq xs) cap]/\aj (hp W) ao (eq xs) cap sz css.flatten/\fg R css xs
theorem CI(m:α->Nat)(v)(gK:List α->Nat)(h0:gK []=0)(J:∀x r,gK (x::r)=m x+gK r):∀xs,gK (xs++[v])=gK xs+m v
 |[]=>by simp[h0,J]
 |x::r=>by rw[aaL,J,J,CI m v gK h0 J r];omega
def gK(m:α->Nat):List α->Nat
 |[]=>0
 |x::r=>m x+gK m r
def NK{W a v}(h:W.cell? a=some v):co (hp W) a v:=by
 unfold World.cell? at h
 split at h
 ·rename_i c ty fr hb
  split at h
  ·cases h
  rename_i hs;exact⟨by cases hh:a.spot<;>simp[hh]at hs⊢,c,ty,fr,hb,h⟩
 cases h
def Mb{W:World}{base a n cs}(h:W.cells? base a n=some cs):eq cs=n/\∀(j:Nat) u,cs[j]?=some u->W.cell? (a.add j)=some u:=by
 unfold World.cells? at h
 split at h
 ·refine⟨by simpa using mapM_some_length h,fun j u N=>?_⟩;have hj:j<eq cs:=(aav.1 N).1;have hl:=mapM_some_length h;have J:j<n:=by simp at hl;omega
  have:=mapM_some_get h j j (by simp[J]);rw[this,N]
 cases h
theorem gJ.slice{t e sz}{R:Ad->α->Prop}{m}(ht:P.underlying t=some (.slice e))(hc:P.cellsOf t=1)(o:gJ enc P W e sz R m):gJ enc P W t 1 (sK W sz R) (fun xs=>gK m xs+1):=by
 refine⟨hc,fun ad cs x h=>?_⟩;rcases open_slice ht h with⟨rfl,rfl⟩|⟨a,len,cap,m',n,D,Pl,rfl,_,ag,ae,aa,rfl,Z⟩
 ·exact⟨[],⟨none,0,[],I,aj.nil _ _ _ _,trivial⟩,by simp[gK,Rows.uptoBulk],I⟩
 simp only[if_true]at aa;subst aa
 have O:∀i,i<len->∃(J:Ad) (v:α),(∀(j:Nat) u,J[j]?=some u->W.cell? ((a.add (i*sz)).add j)=some u)/\eq J=sz/\R J v/\m v<=Rows.uptoBulk (D i):=fun i hi=>by
  obtain⟨J,V,U⟩:=Z i qo;rw[o.1]at V;obtain⟨X,Y⟩:=Mb V;obtain⟨v,h5,h6,_⟩:=o.2 _ _ _ U;exact⟨J,v,Y,X,h5,h6⟩
 have N:∀k,k<=len->∃(css:List (Ad)) (xs:List α),eq css=k/\eq xs=k/\fg R css xs/\eq css.flatten=k*sz/\(∀(j:Nat) u,css.flatten[j]?=some u->W.cell? (a.add j)=some u)/\gK m xs<=Rows.uptoBulkAll ((List.range k).map D):=by
  intro k
  induction k with
  |zero=>intro _;exact⟨[],[],I,I,trivial,Q8,Q8,by simp[gK]⟩
  |succ k ih=>
   intro hk;obtain⟨css,xs,V,U,X,Y,h5,h6⟩:=ih qo;obtain⟨J,v,g1,g2,g3,g4⟩:=O k qo;have ab:(css++[J]).flatten=css.flatten++J:=by simp
   refine⟨css++[J],xs++[v],by simp[V],by simp[U],X.snoc g3,?_,?_,?_⟩
   ·grind
   ·intro j u hu;rw[ab]at hu;rcases aaz j (k*sz)with hj|hj
    ·grind
    rw[abc qo,Y]at hu;have:=g1 _ u hu
    simp_all[add_add]
   rw[CI m v (gK m) rfl (fun _ _=>rfl),List.range_succ,aa1]
   have e:∀l r:List (DataW H),Rows.uptoBulkAll (l++r)=Rows.uptoBulkAll l+Rows.uptoBulkAll r:=fun l r=>by
    induction l with
    |nil=>simp[Rows.uptoBulkAll]
    |cons x l ih=>grind[Rows.uptoBulkAll]
   grind[Rows.uptoBulkAll]
 obtain⟨css,xs,V,U,X,Y,h5,h6⟩:=N len (aac _);refine⟨xs,⟨some a,m',css,by rw[U],⟨by rw[Y,U],qo,fun j u hu=>⟨a,I,NK (h5 j u hu)⟩⟩,X⟩,?_,I⟩;simp only[Rows.uptoBulk];omega
def kw(enc:TypeId×Value->H)(P:Program)(W:World)(off:Nat)(fs:List Field)(sz:Nat)(R:Ad->α->Prop)(m:α->Nat):Prop:=
 ∀(n:Nat) (cs:Ad) (xs:List (DataW H×List MemPlace)),eq cs=off+sz->eq xs=eq fs ->
  (∀(i:Nat) (f:Field),fs[i]?=some f->DataW.trod enc P W 0 (fun _=>true) true n f.type ((cs.drop f.offset).take (P.cellsOf f.type))=xs[i]?)->∃v,R (cs.drop off) v/\m v<=Rows.uptoBulkAll (xs.map (·.1))
def R0(cs:Ad)(_:Unit):Prop:=cs=[]
def kw.nil{off}:kw enc P W off [] 0 R0 (fun _=>0):=fun n cs xs J N O=>⟨(),abj qo,aad _⟩
def RP(N:Ad->α->Prop)(O:Ad->β->Prop)(cs:Ad)(x:α×β):Prop:=∃J c2,cs=J++c2/\N J x.1/\O c2 x.2
theorem kw.cons{off sz1 sz2 f fs}{J:Ad->α->Prop}{N:Ad->β->Prop}{m1 m2}(Z:f.offset=off)(X:gJ enc P W f.type sz1 J m1)(o2:kw enc P W (off+sz1) fs sz2 N m2):
  kw enc P W off (f::fs) (sz1+sz2) (RP J N) (fun x=>m1 x.1+m2 x.2):=by
 intro n cs xs h1 O U;cases xs with
 |nil=>simp at O
 |cons x xs=>
  have V:=U 0 f rfl;rw[Z,X.1]at V;obtain⟨v,Y,g2,g3⟩:=X.2 _ _ _ V;obtain⟨u,k1,k2⟩:=o2 n cs xs qo (by simpa using O) (fun i f' hi=>U (i+1) f' (by simpa using hi));refine⟨(v,u),⟨_,_,(aaE sz1 (cs.drop off)).symm,Y,?_⟩,?_⟩
  ·rw[aaP];exact k1
  grind[Rows.uptoBulkAll]
theorem gJ.struct{t sz fs}{R:Ad->α->Prop}{m}(ht:P.underlying t=some (.struct fs))(O:P.cellsOf t=sz)(o:kw enc P W 0 fs.toList sz R m):gJ enc P W t sz R (fun x=>m x+1):=by
 refine⟨O,fun J cs x h=>?_⟩;obtain⟨xs,n,_,rfl,hl,N,U⟩:=DataW.trod_struct ht h;obtain⟨v,V,X⟩:=o n cs xs qo qo (fun i f hi=>U i f (by simpa using hi))
 grind[Rows.uptoBulk]
def gJ.arg{t sz}{R:Ad->α->Prop}{m:α->Nat}(o:gJ enc P W t sz R m){v}{d:DataW H}{ps:List MemPlace}(h:DataW.Trod enc P W 0 (fun _=>true) true t v d ps):∃x,R v.cells.toList x/\m x<=Rows.uptoBulk d:=by
 obtain⟨J,U⟩:=h;obtain⟨x,N,O,_⟩:=o.2 _ _ _ U;exact⟨x,N,O⟩
end opens
end
section
section rules
variable {P:Program}{T:be}{w0:World}{ops:Ai}{Q:An}{rest rest':Aj}{n:Nat}{l l':Sl}{K:PH}{hs:Ac}
def qp[hT:a8 P T](k i xs ys){d si ao ao2 c1 c2 h h2}(h0:kE T ops n k rest l=some (d,si,(ao,eq xs,c1),(ao2,eq ys,c2),rest',l'))
  (hi:hs[i]?=some h) (U:(si.size,si.bytes,si.zero.cells.size)=(1,1,1)) (o:aJ h ao (eq xs) c1 si.elem 1 (bv xs)) (hm:In K hs h2) (x:aj h2 ao2 (eq ys) c2 1 (bv ys)) (hb:eq xs+eq ys<=2^47)
  (Z:∀N J V,aJ V N (eq (xs++ys)) J si.elem 1 (bv (xs++ys))->WL P w0 ops Q rest' n ((d,.slice N (eq (xs++ys)) J)::l') K (hs.set i V)):WL P w0 ops Q rest n l K hs:=by
 simp only[aah]at U;obtain⟨O,e2,Y⟩:=U;refine app k i h0 hi (by rw[O];exact o) hm (by rw[O];exact x) (by rw[O,Y]) (by rw[O];decide) (gE _) (by rw[e2];omega) As fun N J V X=>?_;rw[O,<-kT,<-aaj]at X;have:=Z N J V X
 rwa[aaj]at this
end rules
def In.TP{K h x y z:PH}{hs:Ac}(hm:In K hs h):In K (x::y::z::hs) h:=Bl (Bl (Bl hm))
end
section
attribute [local irreducible] Code.wp wpList Calls
section rules
variable {P:Program}{T:be}{w0:World}{ops:Ai}{Q:An}{rest rest':Aj}{n:Nat}{l l':Sl}{K:PH}{hs:Ac}
def Gp(T:be)(ops:Ai)(n k:Nat)(rest:Aj)(l:Sl):Option (Nat×ByteArray×Int×Aj×Sl):=
 match eN T ops n k rest l with
 |some (o,r,l')=>match o.dst,o.op with
  |some d,.index t x i=>match Nat.blt d n,Ry T.kinds t,ev l' x,ev l' i with
   |true,some .str,some (.string s),some (.int _ j)=>some (d,s,j,r,l')
   |_,_,_,_=>none
  |_,_=>none
 |_=>none
def LY{d}(h:UK.fits .str d=true):d=.string:=by cases d<;>simp[UK.fits]at h⊢
def Qy[hT:a8 P T](k){d i}(xs:Aa)(j:Nat){b s}
  (h0:Gp T ops n k rest l=some (d,s,i,rest',l')) (U:s=⟨xs.toArray⟩) (hj:i=(j:Int)) (J:xs[j]?=some b)
  (hk:WL P w0 ops Q rest' n ((d,.int .u8 b.toNat)::l') K hs):WL P w0 ops Q rest n l K hs:=by
 unfold Gp at h0
 split at h0
 ·rename_i o r l2 ho
  split at h0
  ·rename_i d' t x' i' hd O
   split at h0
   ·rename_i s' kk jj hb V hx hi;simp only[aae,aah]at h0;obtain⟨rfl,rfl,rfl,rfl,rfl⟩:=h0;subst hj U;obtain⟨dd,Z,g2⟩:=hT.kind V;obtain rfl:=LY g2;refine Ec ho fun hg=>Dx (R:=fun u X hs'=>u=.int .u8 b.toNat/\X=K/\hs'=hs) hd hb hg (fun A w Y hw=>⟨_,w,K,hs,?_,hw,I,I,I⟩) ?_
    ·have h2:(⟨xs.toArray⟩:ByteArray)[j]?=some b:=by
      obtain⟨N,he⟩:=aav.1 J;have aa:j<(⟨xs.toArray⟩:ByteArray).size:=by simpa[ByteArray.size]using N
      simp_all[ByteArray.getElem_eq_getElem_data]
     simp only[execOp,O,Y.ev hx,Y.ev hi];simp[Instr.index,asIntOf,run_underlying Z,h2]
    rintro u X hs' ⟨rfl,rfl,rfl⟩;exact hk
   simp at h0
  simp at h0
 simp at h0
def Q5(T:be)(ops:Ai)(n k:Nat)(rest:Aj)(l:Sl):Option (Nat×ByteArray×Option Int×Option Int×Aj×Sl):=
 match eN T ops n k rest l with
 |some (o,r,l')=>match o.dst,o.op with
  |some d,.slice t x (some lo) none none=>match Nat.blt d n,Ry T.kinds t,ev l' x,ev l' lo with
   |true,some .str,some (.string s),some (.int _ i)=>some (d,s,some i,none,r,l')
   |_,_,_,_=>none
  |some d,.slice t x (some lo) (some hi) none=>match Nat.blt d n,Ry T.kinds t,ev l' x,ev l' lo,ev l' hi with
   |true,some .str,some (.string s),some (.int _ i),some (.int _ j)=>some (d,s,some i,some j,r,l')
   |_,_,_,_,_=>none
  |_,_=>none
 |_=>none
def GF(T:be)(ops:Ai)(n k:Nat)(rest:Aj)(l:Sl):Option (Nat×Nat×Addr×Int×Aj×Sl):=
 match eN T ops n k rest l with
 |some (o,r,l')=>match o.dst,o.op with
  |some d,.indexAddr t x i=>match Nat.blt d n,ev l' x,ev l' i with
   |true,some (.pointer (some a)),some (.int _ j)=>some (d,t,a,j,r,l')
   |_,_,_=>none
  |_,_=>none
 |_=>none
def sG[hT:a8 P T](k){d t len e sz:Nat}{a i}(j:Nat)(h0:GF T ops n k rest l=some (d,t,a,i,rest',l'))(hu:P.underlying t=some (.array len e))(J:(P.info? e).map (·.size)=some sz)(hj:i=(j:Int))(N:j<len)
  (hk:WL P w0 ops Q rest' n ((d,.pointer (some (a.add (j*sz))))::l') K hs):WL P w0 ops Q rest n l K hs:=by
 unfold GF at h0
 split at h0
 ·rename_i o r l2 ho
  split at h0
  ·rename_i d' t x' i' Z O
   split at h0
   ·rename_i Y kk jj hb hx hi;simp only[aae,aah]at h0;obtain⟨rfl,rfl,rfl,rfl,rfl,rfl⟩:=h0;subst hj;cases hii:P.info? e with
    |none=>rw[hii]at J;cases J
    |some ii=>
     rw[hii]at J;have U:ii.size=sz:=by simpa using J
     refine Ec ho fun hg=>Dx (R:=fun u V hs'=>u=.pointer (some<|Y.add (j*sz))/\V=K/\hs'=hs) Z hb hg (fun A w X hw=>⟨_,w,K,hs,?_,hw,I,I,I⟩) ?_
     ·simp only[execOp,O,X.ev hx,X.ev hi];simp[Instr.indexAt,Instr.sureAddr,asIntOf,run_underlying hu,sizeOf,typeInfo,hii,U,N]
     rintro u V hs' ⟨rfl,rfl,rfl⟩;exact hk
   simp at h0
  simp at h0
 simp at h0
end rules
section make
variable {P:Program}{T:be}{w0:World}{ops:Ai}{Q:An}{rest rest':Aj}{n:Nat}{l l':Sl}{K:PH}{hs:Ac}
def FZ(T:be)(ops:Ai)(n k:Nat)(rest:Aj)(l:Sl):Option (Nat×iU×Int×Int×Aj×Sl):=
 match eN T ops n k rest l with
 |some (o,r,l')=>match o.dst,o.op with
  |some d,.makeSlice t x y=>match Nat.blt d n,Ry T.So t,ev l' x,ev l' y with
   |true,some J,some (.int .i64 i),some (.int .i64 j)=>some (d,J,i,j,r,l')
   |_,_,_,_=>none
  |_,_=>none
 |_=>none
def Ha[hT:a8 P T](k){d si i j}(N:Nat)(z)(h0:FZ T ops n k rest l=some (d,si,i,j,rest',l'))(hi:i=(N:Int))(hj:j=(N:Int))(U:(si.size,si.zero.cells)=(1,#[z]))(hr:N*si.bytes<=roomBytes)(aa:0<N)(hN:N<=16777216)(J:si.bytes<=1024)
  (hk:∀b,aJ (pt b (Array.replicate N z) si.elem) (some ⟨b,0,none⟩) N N si.elem 1 (List.replicate N z)->WL P w0 ops Q rest' n ((d,.slice (some ⟨b,0,none⟩) N N)::l') K (pt b (Array.replicate N z) si.elem::hs)):WL P w0 ops Q rest n l K hs:=by
 simp only[aah]at U;obtain⟨z1,z2⟩:=U;unfold FZ at h0
 split at h0
 ·rename_i o r l2 ho
  split at h0
  ·rename_i d' t x y hd V
   split at h0
   ·rename_i O ii jj hb X hx hy;simp only[aae,aah]at h0;obtain⟨rfl,rfl,rfl,rfl,rfl,rfl⟩:=h0;subst hi hj;obtain⟨h1,Z,h2,h3,h4,h5⟩:=hT.sl X
    refine Ec ho fun hg=>Dx (R:=fun u K' hs'=>∃b,u=.slice (some ⟨b,0,none⟩) N N/\K'=K/\hs'=pt b (Array.replicate N z) O.elem::hs) hd hb hg
     (fun A w ha hw=>⟨.slice (some ⟨w.heap.size,0,none⟩) N N,_,K,_,?_,hw.alloc _,w.heap.size,rfl,rfl,rfl⟩) ?_
    ·have e1:IntKind.i64.wrap ((N:Nat):Int)=(N:Int):=by grind[IntKind.wrap,IntKind.bits]
     simp only[execOp,V,ha.ev hx,ha.ev hy];rw[h5.symm]at hr J;have hm:Z.bytes*N<=1024*16777216:=Nat.mul_le_mul J hN
     have c2:¬(281474976710656:Int)<(Z.bytes:Int)*(N:Int):=by
      omega
     have c1:¬((N:Nat):Int)<0:=qo
     have c3:¬roomBytes<N*Z.bytes:=qo
     have U:N≠0:=qo
     have Y:(Array.map (fun x=>[z][x%1]?.getD default) (Array.range N))=Array.replicate N z:=by
      grind
     simp[Instr.makeSlice,asInt,asIntOf,run_underlying h1,sizeOf,typeInfo,h2,h4,e1,z1,c1,c2,c3,askRoom,newRow,zeroValue,h3,z2,U,Y,pt]
    rintro u K' hs' ⟨b,rfl,rfl,rfl⟩;exact hk b (by simpa using aJ.Re (b:=b) (c:=Array.replicate N z) (e:=O.elem) (n:=N) (size:=1) Q8 As)
   simp at h0
  simp at h0
 simp at h0
end make
section three
variable {P:Program}{T:be}{w0:World}{ops:Ai}{Q:An}{rest rest':Aj}{n:Nat}{l l':Sl}{K:PH}{hs:Ac}
def Q6(T:be)(ops:Ai)(n k:Nat)(rest:Aj)(l:Sl):Option (Nat×iU×(Ab×Nat×Nat)×Int×Int×Int×Aj×Sl):=
 match eN T ops n k rest l with
 |some (o,r,l')=>match o.dst,o.op with
  |some d,.slice t x (some lo) (some hi) (some mx)=>match Nat.blt d n,Ry T.So t,ev l' x,ev l' lo,ev l' hi,ev l' mx with
   |true,some U,some (.slice J O N),some (.int _ i),some (.int _ j),some (.int _ m)=>some (d,U,(J,O,N),i,j,m,r,l')
   |_,_,_,_,_,_=>none
  |_,_=>none
 |_=>none
end three
section openx
variable {P:Program}{T:be}{w0:World}{ops:Ai}{Q:An}{plan plan':Af}{z:Nat}{listed listed':Al}{n:Nat}{l l':Sl}{K K0:PH}{hs A:Ac}
def Gc(T:be)(ops:Ai)(n z k:Nat)(plan:Af)(L:Al)(l:Sl):Option (Nat×Oper×Nat×Addr×Int×Af×Al×Sl):=
 match nA T ops n z k plan L l with
 |some (d,o,r,J,l')=>match o.op with
  |.indexAddr t x i=>match ev l' x,ev l' i with
   |some (.pointer (some a)),some (.int _ j)=>some (d,o,t,a,j,r,J,l')
   |_,_=>none
  |_=>none
 |none=>none
def qm[hT:a8 P T](J:Region.noSelect ops=true)(k){d t len e sz:Nat}{o a i}(j:Nat)
  (h0:Gc T ops n z k plan listed l=some (d,o,t,a,i,plan',listed',l')) (hu:P.underlying t=some (.array len e)) (N:(P.info? e).map (·.size)=some sz) (hj:i=(j:Int)) (O:j<len)
  (Z:WA P w0 ops Q K0 A z plan' listed' n ((d,.pointer (some (a.add (j*sz))))::l') K hs):WA P w0 ops Q K0 A z plan listed n l K hs:=by
 unfold Gc at h0
 split at h0
 ·rename_i d' o' r L' l2 Y
  split at h0
  ·rename_i t x' i' U
   split at h0
   ·rename_i a' kk jj hx hi;simp only[aae,aah]at h0;obtain⟨rfl,rfl,rfl,rfl,rfl,rfl,rfl,rfl⟩:=h0;subst hj;cases hii:P.info? e with
    |none=>rw[hii]at N;cases N
    |some ii=>
     rw[hii]at N;have V:ii.size=sz:=by simpa using N
     refine qD J k Y (fun A w X=>?_) Z;simp only[execOp,U,X.ev hx,X.ev hi];simp[Instr.indexAt,Instr.sureAddr,asIntOf,run_underlying hu,sizeOf,typeInfo,hii,V,O]
   simp at h0
  simp at h0
 simp at h0
end openx
section clear
variable {P:Program}{T:be}{w0:World}{ops:Ai}{Q:An}{rest rest':Aj}{n:Nat}{l l':Sl}{K:PH}{hs:Ac}
def WL.Um{o K' hs'}(V:o.dst=none)(hg:fW ops l o.guard=some true)
  (h:∀a w,Ag n l a->a7 w0 w K hs->∃v w',(execOp a.eval o).run P w=.ok (.value v) w'/\a7 w0 w' K' hs')
  (X:WL P w0 ops Q rest n l K' hs'):WL P w0 ops Q (o::rest) n l K hs:=by
 intro a w N Y;obtain⟨v,w',J,O⟩:=h a w N Y;have U:=gQ N hg;unfold wpList;rw[aab U];refine .inl ?_;unfold Oper.wp;rw[J];simp only[Oper.upon,V,Act.put];exact X _ _ N O
def Gh(T:be)(ops:Ai)(n k:Nat)(rest:Aj)(l:Sl):Option (iU×Addr×Nat×Aj×Sl):=
 match eN T ops n k rest l with
 |some (o,r,l')=>match o.dst,o.op with
  |none,.call {callee:=.builtin .clear,args,argTypes}=>match args.toList,argTypes.toList with
   |[x],[t]=>match Ry T.So t,ev l' x with
    |some J,some (.slice (some a) m _)=>some (J,a,m,r,l')
    |_,_=>none
   |_,_=>none
  |_,_=>none
 |none=>none
def SR[hT:a8 P T](k i){b off m ty si c z}(h0:Gh T ops n k rest l=some (si,⟨b,off,none⟩,m,rest',l'))(hi:hs[i]?=some (pt b c ty))(hz:(si.size,si.zero.cells)=(1,#[z]))(h1:z.oneCell'=true)(hm:0<m)(hf:off+m<=c.size)
  (hk:WL P w0 ops Q rest' n l' K (hs.set i (pt b (c.toList.take off++List.replicate m z++c.toList.drop (off+m)).toArray ty))):WL P w0 ops Q rest n l K hs:=by
 simp only[aah]at hz;obtain⟨z1,z2⟩:=hz;unfold Gh at h0
 split at h0
 ·rename_i o r l2 ho
  split at h0
  ·rename_i args J hd V
   split at h0
   ·rename_i x t e1 e2
    split at h0
    ·rename_i aa a' N c' X hx;simp only[aae,aah]at h0;obtain⟨rfl,rfl,rfl,rfl,rfl⟩:=h0;have O:args=#[x]:=by cases args;simp_all
     have U:J=#[t]:=by cases J;simp_all
     subst O U;obtain⟨g1,ii,g2,g3,g4,g5⟩:=hT.sl X;refine Ec ho fun hg=>WL.Um hd hg (fun A w ha hw=>⟨.tuple #[],_,?_,hw.setRow hi _⟩) hk;have hb:w.heap[b]?=some (.cells c ty (0,0)):=hw.own i _ hi b _ Q8
     have Y:(Builtin.zeroCells #[z] N).toList=List.replicate N z:=by
      unfold Builtin.zeroCells
      apply acd
      grind
     have Z:=run_storeCells_at P b off ty (List.replicate N z) 0 c w hb (by simpa using hf) (by simp_all);simp only[abb,List.length_replicate]at Z;obtain⟨q,rfl⟩:∃q,N=q+1:=⟨N-1,qo⟩;simp only[execOp,V];simp[resolve,invoke,builtin,ha.ev hx,Builtin.clear_,run_underlying g1,zeroValue,typeInfo,g2,g3,z2,Y,Z]
    simp at h0
   simp at h0
  simp at h0
 simp at h0
end clear
end
section
def fz(r:Am):Fence:={fn:=fun _=>True,depth:=none,alive:=false,round:=r}
def wd(ds:List Deferred)(a:Act):Act:={a with defers:=ds}
def SD(ds:List Deferred)(Q:An):An
 |.outgrown,_,_=>False
 |e,a,w=>a.defers=[]/\Q e (wd ds a) w
def WX(P:Program)(w0:World)(r:Am)(ds:List Deferred)(c:Code)(Q:An)(n:Nat)(l:Sl)(K:PH)(hs:Ac):Prop:=
 ∀a w,Ag n l a->a7 w0 w K hs->c.wpIn (fz r) 0 P Q (wd ds a) w
def dw(ds:List Deferred)(w0:World)(Q:An)(e:Exit)(n:Nat)(l:Sl)(K:PH)(hs:Ac):Prop:=
 ∀a w,Ag n l a->a7 w0 w K hs->Q e (wd ds a) w
def iT(P:Program)(w0:World)(r:Am)(ds:List Deferred)(ops:Ai)(Q:An)(rest:Aj)(n:Nat)(l:Sl)(K:PH)(hs:Ac):Prop:=
 ∀a w,Ag n l a->a7 w0 w K hs->wpListIn (fz r) 0 P ops Q rest (wd ds a) w
def pS(ds a d v):wd ds (a.put d v)=(wd ds a).put d v:=by cases d<;>rfl
def Mc{r}{P:Program}{f args w R}(h:Calls P f args w R):CallsIn (fz r) 0 P f args w R:=by
 have J:CallsIn Fence.wide 0 P f args w R:=callsIn_wide.2 h;cases r with
 |none=>exact J
 |some l=>exact J
def MO{r}{P:Program}{row args w R}(h:Rows P row args w R):RowsIn (fz r) 0 P row args w R:=
 fun c cs _=>let⟨v,w',J,s⟩:=h c cs;⟨v,w',J,(stepsIn_wide.2 s:StepsIn (Machine.fenced P Fence.wide) P _ _)⟩
theorem zq{ds}{Q:An}{e a w}(h:SD ds Q e a w):a.defers=[]:=by cases e<;>first|exact h.1|exact h.elim
theorem nt(a:Act)(d v):(a.put d v).defers=a.defers:=by cases d<;>rfl
def EU{P:Program}{o:Oper}{a N}{Q:An}(O:∀a w,N a w->a.defers=[])(U:∀e a w,Q e a w->a.defers=[])(hg:∀a w,¬Q .outgrown a w){x}(h:o.upon P a N Q x):a.defers=[]:=by
 cases x with
 |ok n w'=>
  cases n<;>simp only[Oper.upon]at h<;>first
   |exact(nt _ _ _).symm.trans (O _ _ h)
   |exact h.elim
   |(
     have:=O _ _ h
     rw[nt]at this;cases this)
   |(
     obtain⟨v,V,J,_⟩:=h default []
     exact(nt _ _ _).symm.trans (O _ _ J))
   |(
     obtain⟨e,V,fr,J,_⟩:=h []
     cases e with
     |returned v=>exact(nt _ _ _).symm.trans (O _ _ J)
     |panicked c=>exact U _ _ _ J
     |outgrown=>obtain⟨Y,V,X⟩:=J;exact(hg _ _ X).elim)
 |halt x w'=>
  cases x<;>simp only[Oper.upon]at h<;>first
   |exact h.elim
   |exact U _ _ _ h
def Mo{r}{P:Program}{o:Oper}{a ds N N'}{Q Q':An}(X:∀a w,N a w->a.defers=[])(O:∀a w,N a w->N' (wd ds a) w)(V:∀c w,Q (.panic c) a w->Q' (.panic c) (wd ds a) w)
  (hg:∀a w,¬Q .outgrown a w) {x} (h:o.upon P a N Q x):o.uponIn (fz r) 0 P (wd ds a) N' Q' x:=by
 cases x with
 |ok n w'=>
  cases n<;>simp only[Oper.upon]at h<;>first
   |(simp only[Oper.uponIn,<-pS];exact O _ _ h)
   |exact h.elim
   |(
     have:=X _ _ h
     rw[nt]at this;cases this)
   |(
     refine⟨by simp[fz],(MO h).mono fun v U J=>?_⟩
     simp only[<-pS];exact O _ _ J)
   |(
     refine⟨by simp[fz],(Mc h).mono fun e U J=>?_⟩
     cases e with
     |returned v=>simp only[<-pS];exact O _ _ J
     |panicked c=>exact V _ _ J
     |outgrown=>obtain⟨Z,w1,Y⟩:=J;exact(hg _ _ Y).elim)
 |halt x w'=>
  cases x<;>simp only[Oper.upon]at h⊢<;>first
   |exact h.elim
   |exact V _ _ h
theorem wX{P:Program}{ops:Ai}{ds}{Q:An}:∀(rest:Aj) (a:Act) (w:World),wpList P ops (SD ds Q) rest a w->a.defers=[]
 |[],a,w,h=>zq h
 |o::rest,a,w,h=>by
  unfold wpList at h
  split at h
  ·rcases h with h|⟨_,J,N,h⟩
   ·exact EU (Q:=SD ds Q) (fun a w=>wX rest a w) (fun e a w h=>zq h) (fun a w h=>h) h
   exact h.elim
  exact(nt _ _ _).symm.trans<|wX rest _ _ h
def H0{P:Program}{o:Oper}{a w N}{Q:An}(U:∀a w,N a w->a.defers=[])(h:o.wp P a w N Q){c}(J:o.op=.defer c):∃v w',(resolve a.eval c o.type).run P w=.halt v w':=by
 unfold Oper.wp at h;simp only[execOp,J]at h;rw[aax]at h;cases e:(resolve a.eval c o.type).run P w with
 |ok x O=>
  grind[Sem.run_pure,nt,Result.andThen,Oper.upon]
 |halt v O=>simp
def DA{r}{P:Program}{o:Oper}{a w ds N N'}{Q Q':An}(V:∀a w,N a w->a.defers=[])(Y:∀a w,N a w->N' (wd ds a) w)(Z:∀c w,Q (.panic c) a w->Q' (.panic c) (wd ds a) w)
  (hg:∀a w,¬Q .outgrown a w) (h:o.wp P a w N Q):o.wpIn (fz r) 0 P (wd ds a) w N' Q':=by
 refine⟨fun _ _=>trivial,?_⟩;have O:=Mo (r:=r) V Y Z hg h
 by_cases J:∃c,o.op=.defer c
 ·obtain⟨c,J⟩:=J;obtain⟨v,X,he⟩:=H0 V h J;have U:(execOp a.eval o).run P w=.halt v X:=by simp_all[execOp]
  rw[U]at O
  have e2:(o.semAt (fz r).round (wd ds a).eval).run P w=.halt v X:=by
   cases r with
   |none=>exact U
   |some l=>
    simp only[Oper.semAt,fz,J];rw[aax];show Result.andThen ((resolve a.eval c o.type).run P w) _=_;rw[he];rfl
  rw[e2];exact O
 have e2:o.semAt (fz r).round (wd ds a).eval=execOp a.eval o:=Oper.semAt_eq _ _ _ (fun c hh=>J ⟨c,hh⟩);rw[e2];exact O
theorem tP{r}{P:Program}{ops:Ai}{ds}{Q Q':An}(rest2)(hn:∀a w,Q .normal (wd ds a) w->wpListIn (fz r) 0 P ops Q' rest2 (wd ds a) w)(hp:∀c a w,Q (.panic c) (wd ds a) w->Q' (.panic c) (wd ds a) w):∀(rest:Aj) (a:Act) (w:World),wpList P ops (SD ds Q) rest a w->wpListIn (fz r) 0 P ops Q' (rest++rest2) (wd ds a) w
 |[],a,w,h=>hn a w h.2
 |o::rest,a,w,h=>by
  unfold wpList at h;rw[aaL];unfold wpListIn;show if Region.wanted o (yielded ops a.tmps)=true then _ else _
  split at h
  ·rename_i J;rw[aab J];rcases h with h|⟨_,N,O,h⟩
   ·exact DA (fun a w=>wX rest a w) (fun a w=>tP rest2 hn hp rest a w) (fun c w h=>hp c a w h.2) (fun a w h=>h) h
   exact h.elim
  rename_i J;rw[aaa J];exact⟨fun _ _=>trivial,by rw[<-pS];exact tP rest2 hn hp rest _ w h⟩
def D8{r}{P:Program}{ops:Ai}{ds}{Q:An}(rest a w)(h:wpList P ops (SD ds Q) rest a w):wpListIn (fz r) 0 P ops Q rest (wd ds a) w:=by
 have:=tP (r:=r) (ds:=ds) (Q:=Q) (Q':=Q) (P:=P) (ops:=ops) [] (fun a w h=>h) (fun c a w h=>h) rest a w h
 rwa[aaw]at this
theorem NT{ds}{Q:An}(e a w)(h:SD ds Q e a w):Q e (wd ds a) w:=by cases e<;>first|exact h.2|exact h.elim
theorem uL{P:Program}{md}{ops:Ai}{q S}(N:∀a w,q a w->a.defers=[]):∀(f:Nat) (L:Al) (a:Act) (w:World),tr P md ops q S f L a w->a.defers=[]
 |0,_,a,w,h=>N _ _ h.2
 |f+1,L,a,w,h=>by
  cases e:Region.ready md ops L with
  |nil=>exact N _ _ (h.1 e)
  |cons i rs=>
   have J:=h.2 i (by rw[e];simp);unfold wpOp at J
   split at J
   ·exact uL N f _ _ _ J.2
   split at J
   ·rcases J with J|⟨_,O,U,J⟩
    ·exact EU (fun a w h=>uL N f _ _ _ h.2) (fun e a w h=>by cases e<;>first|exact N _ _ h|exact h.elim) (fun a w h=>h) J
    exact J.elim
   exact(nt _ _ _).symm.trans<|uL N f _ _ _ J.2
theorem uD{r}{P:Program}{md}{ops:Ai}{ds q S}{Q:An}(O:∀a w,q a w->a.defers=[])(N:∀a w,q a w->Q .normal (wd ds a) w):
  ∀(f:Nat) (L:Al) (a:Act) (w:World),tr P md ops q S f L a w->wpAnyIn (fz r) 0 P md ops Q f L (wd ds a) w
 |0,_,a,w,h=>⟨h.1,N _ _ h.2⟩
 |f+1,L,a,w,h=>by
  refine⟨fun h0=>N _ _ (h.1 h0),fun i hi=>?_⟩;have J:=h.2 i hi;unfold wpOp at J;unfold wpOpIn
  split at J
  ·rename_i e;simp only[e];exact uD O N f _ _ _ J.2
  rename_i o e;simp only[e]
  split at J
  ·rename_i U;rw[aab (show Region.wanted o (yielded ops (wd ds a).tmps)=true from U)];rcases J with J|⟨_,V,X,J⟩
   ·exact DA (fun a w h=>uL O f _ _ _ h.2) (fun a w h=>uD O N f _ _ _ h.2) (fun c w h=>h.elim) (fun a w h=>h) J
   exact J.elim
  rename_i U;rw[aaa (show ¬Region.wanted o (yielded ops (wd ds a).tmps)=true from U)];exact⟨fun _ _=>trivial,by rw[<-pS];exact uD O N f _ _ _ J.2⟩
section code
variable {P:Program}{w0:World}{r:Am}{ds:List Deferred}{Q:An}{n:Nat}{l:Sl}{K:PH}{hs:Ac}
def df{x y}(h:WX P w0 r ds x (Exit.then (y.wpIn (fz r) 0 P Q) Q) n l K hs):WX P w0 r ds (.seq x y) Q n l K hs:=
 fun a w J N=>wpIn_seq (h a w J N)
def eW{id o}(h:WL P w0 o.toArray (SD ds Q) o n l K hs):WX P w0 r ds (.region id o.toArray false) Q n l K hs:=
 fun a w J N=>wpIn_region_lit (D8 o a w (h a w J N))
def kO{id c}(h:WX P w0 r ds c (Exit.inBlock id Q) n l K hs):WX P w0 r ds (.block id c) Q n l K hs:=
 fun a w J N=>wpIn_block (h a w J N)
def vp{id}(h:dw ds w0 Q (.exit id) n l K hs):WX P w0 r ds (.exit id) Q n l K hs:=
 fun a w J N=>wpIn_exit (h a w J N)
def lu(h:dw ds w0 Q .ret n l K hs):WX P w0 r ds .ret Q n l K hs:=
 fun a w J N=>wpIn_ret (h a w J N)
def mH(h:dw ds w0 Q .normal n l K hs):WX P w0 r ds .skip Q n l K hs:=
 fun a w J N=>wpIn_skip (h a w J N)
def sI{n l a}(h:Ag n l a){x v}(J:ev l x=some v):(wd ds a).eval x=v:=h.ev J
def sr{c x y}(N:ev l c=some (.bool true))(h:WX P w0 r ds x Q n l K hs):WX P w0 r ds (.cond c x y) Q n l K hs:=
 fun a w J O=>wpIn_cond_true (sI J N) (h a w J O)
def su{c x y}(N:ev l c=some (.bool false))(h:WX P w0 r ds y Q n l K hs):WX P w0 r ds (.cond c x y) Q n l K hs:=
 fun a w J O=>wpIn_cond_false (sI J N) (h a w J O)
def P5{c x y b}(U:ev l c=some (.bool b))(h:b=true->WX P w0 r ds x Q n l K hs)(O:b=false->WX P w0 r ds y Q n l K hs):WX P w0 r ds (.cond c x y) Q n l K hs:=
 fun a w J N=>wpIn_cond_split (sI J U) (fun e=>h e a w J N) (fun e=>O e a w J N)
def ql{c x y b p}(hb:b=true↔p)(N:ev l c=some (.bool b))(h:p->WX P w0 r ds x Q n l K hs)(J:¬p->WX P w0 r ds y Q n l K hs):WX P w0 r ds (.cond c x y) Q n l K hs:=
 P5 N (fun e=>h (hb.1 e)) (fun e=>J (fun hp=>by rw[hb.2 hp]at e;cases e))
def dx(h:dw ds w0 Q .normal n l K hs):WQ w0 (SD ds Q) .normal n l K hs:=fun a w J N=>⟨J.defers,h a w J N⟩
def du{y Q'}(h:WX P w0 r ds y Q n l K hs):dw ds w0 (Exit.then (y.wpIn (fz r) 0 P Q) Q') .normal n l K hs:=h
def l6{id}(h:dw ds w0 Q .normal n l K hs):dw ds w0 (Exit.inBlock id Q) .normal n l K hs:=h
def o8{id N}(h:dw ds w0 Q (.exit id) n l K hs):dw ds w0 (Exit.then N Q) (.exit id) n l K hs:=h
def vg{id}(h:dw ds w0 Q .normal n l K hs):dw ds w0 (Exit.inBlock id Q) (.exit id) n l K hs:=fun a w J N=>by
 simpa[Exit.inBlock]using h a w J N
def qw{N}(h:dw ds w0 Q .ret n l K hs):dw ds w0 (Exit.then N Q) .ret n l K hs:=h
def qx{id}(h:dw ds w0 Q .ret n l K hs):dw ds w0 (Exit.inBlock id Q) .ret n l K hs:=h
def uG{σ:Type}{body}(F:σ->Sl)(U:σ->PH)(H:σ->Ac)(J:σ->Prop)(V:σ->Nat)(x0)(h0:J x0)(Y:kP l (F x0))(hK:K=U x0)(Z:hs=H x0)
  (round:∀x,J x->WX P w0 r ds body (Exit.then (fun a w=>∃O,J O/\V O<V x/\(∃N,a=wd ds N/\Ag n (F O) N)/\a7 w0 w (U O) (H O)) Q) n (F x) (U x) (H x)):
  WX P w0 r ds (.loop body) Q n l K hs:=fun a w ha hw=>by
 subst hK;subst Z;refine wpIn_loop_ghost (fun m a w=>∃x,J x/\V x=m/\(∃N,a=wd ds N/\Ag n (F x) N)/\a7 w0 w (U x) (H x)) (V x0) ⟨x0,h0,I,⟨a,I,ha.sub Y⟩,hw⟩ ?_;rintro m a w ⟨x,hJ,rfl,⟨N,rfl,X⟩,hS⟩;refine wpIn_mono (round x hJ N w X hS) ?_
 grind
def uC{σ:Type}{F:σ->Sl}{U:σ->PH}{H:σ->Ac}{J:σ->Prop}{O:σ->Nat}{x Q'}(N)(Z:kP l (F N))(hK:K=U N)(hH:hs=H N)
  (X:J N) (Y:O N<O x):dw ds w0 (Exit.then (fun a w=>∃N,J N/\O N<O x/\(∃V,a=wd ds V/\Ag n (F N) V)/\a7 w0 w (U N) (H N)) Q') .normal n l K hs:=fun a w ha hw=>by
 subst hK;subst hH;exact⟨N,X,Y,⟨a,I,ha.sub Z⟩,hw⟩
def se{id}{o:Aj}(A z plan)(O:∀h∈A,h∈hs)(hm:P.follows .mixedOrders=true)(hp:(gj .any o.toArray plan (Array.replicate o.toArray.size false)&&Nat.beq (eq plan) o.toArray.size)=true)
  (h:WA P w0 o.toArray (SD ds Q) K A z plan (Array.replicate o.toArray.size false) n l K hs):WX P w0 r ds (.region id o.toArray true) Q n l K hs:=by
 intro a w U X;simp only[aaJ]at hp;refine wpIn_region_any hm ?_;have N:eq plan=o.toArray.size:=aaF hp.2;have J:a7 w0 {w with drawn:=w.drawn+1} K hs:=X.drew
 have V:fS .any o.toArray (Array.replicate o.toArray.size false):=by
  refine⟨Q8,?_⟩
  grind[getD_replicate_false]
 have Y:=h hp.1 V a {w with drawn:=w.drawn+1} U J (fun _=>ff.SY J O)
 grind[uD,zq,NT]
end code
def mJ(D:Nat):Deferred:={target:=.collected D,args:=#[]}
def fX(D:Nat):PH:=sg D (.deferred (some []))
theorem a7.putObj{w0 w:World}{K:PH}{hs:Ac}(s:a7 w0 w K hs){i b o}(hi:hs[i]?=some (sg b o))(o'):a7 w0 (w.putObj b o') K (hs.set i (sg b o')):=by
 have hb:w.heap[b]?=some o:=s.own i _ hi b _ Q8;refine s.T3 hi I I I Q8 ?_ ?_ ?_
 ·intro x u J;simp only[sg]at J
  grind[World.putObj_heap_same]
 ·intro x J hn;simp only[sg]at hn
  grind[World.putObj_heap_other]
 simp
def a7.dropLast{w0 w:World}{K x:PH}{hs:Ac}(s:a7 w0 w K (hs++[x])):a7 w0 w K hs:=(s.perm (abw x hs)).Qf
def a7.Qk{w0 w:World}{K:PH}{hs:Ac}{b o}(s:a7 w0 w K (hs++[sg b o]))(o'):a7 w0 (w.putObj b o') K (hs++[sg b o']):=by
 have:=s.putObj (i:=eq hs) (b:=b) (o:=o) Q8 o'
 simp_all
theorem a7.last{w0 w:World}{K:PH}{hs:Ac}{b o}(s:a7 w0 w K (hs++[sg b o])):w.heap[b]?=some o:=s.own (eq hs) (sg b o) Q8 b o Q8
def nX{P:Program}{w0:World}{f:FuncId}{fn c n args}{K:PH}{hs:Ac}{R}
  (N:P.funcs[f]?=some fn) (J:jD P f=true) (hb:fn.body=some c) (hn:fn.ntmps=n) (hl:Nat.ble (eq args) n=true)
  (h:WX P w0 none [] c (bodyPostM (fz none) 0 P fn (fU w0 R)) n (params 0 args) K hs):Ct P w0 f args K hs R:=by
 refine⟨J,fun w hw=>callsIn_wide.1 (callsIn_of_wp_marks (F:=fz none) (n:=0) N hb trivial<|h {tmps:=args.toArray++Array.replicate (fn.ntmps-args.toArray.size) undef,defers:=[]} w ⟨?_,I,?_⟩ hw)⟩
 ·simp_all
 intro t v ht;obtain⟨O,U⟩:=vO args 0 t v ht
 grind
section ret
variable {P:Program}{w0:World}{fn:Func}{R:Ao}{n:Nat}{l:Sl}{K:PH}{hs hs':Ac}{v x y:Value}
def FU{e}(U:e=.ret\/e=.normal)(J:∀a w,Ag n l a->a7 w0 w K hs->(results fn a.tmps).run P w=.ok v w)(h:R v K hs):dw [] w0 (bodyPostM (fz none) 0 P fn (fU w0 R)) e n l K hs:=by
 intro a w O N;rcases U with rfl|rfl<;>exact⟨v,J a w O N,v,K,hs,rfl,h,N⟩
def Pg{e}(D)(Y:hs=hs'++[fX D])(X:e=.ret\/e=.normal)(J:∀a w,Ag n l a->a7 w0 w K hs'->(results fn a.tmps).run P w=.ok v w)(h:R v K hs'):dw [mJ D] w0 (bodyPostM (fz none) 0 P fn (fU w0 R)) e n l K hs:=by
 subst Y;intro a w V O;have N:a7 w0 (w.putObj D (.deferred none)) K hs':=(O.Qk (.deferred none)).dropLast;have U:=run_takeDeferred (P:=P) (O.last);rcases X with rfl|rfl<;>exact⟨Q8,.inl ⟨D,_,rfl,U,v,J a _ V N,v,K,hs',rfl,h,N⟩⟩
def Gu(J:fn.results=#[]){a:Act}{w}:(results fn a.tmps).run P w=.ok (.tuple #[]) w:=results_none J _ _ _
def PS{t:Nat}(N:fn.results=#[.tmp t])(hv:look l t=some v){a}(J:Ag n l a){w}:(results fn a.tmps).run P w=.ok v w:=by
 have:=results_tmp N a.tmps P w;rw[this];simp[J.slot t v hv]
def y6(J:fn.results=#[])(h:R (.tuple #[]) K hs):dw [] w0 (bodyPostM (fz none) 0 P fn (fU w0 R)) .ret n l K hs:=FU (.inl rfl) (fun _ _ _ _=>Gu J) h
def zi(J:fn.results=#[])(h:R (.tuple #[]) K hs):dw [] w0 (bodyPostM (fz none) 0 P fn (fU w0 R)) .normal n l K hs:=FU (.inr rfl) (fun _ _ _ _=>Gu J) h
def Ph(D)(N:hs=hs'++[fX D]){t:Nat}(O:fn.results=#[.tmp t])(hv:look l t=some v)(h:R v K hs'):dw [mJ D] w0 (bodyPostM (fz none) 0 P fn (fU w0 R)) .ret n l K hs:=Pg D N (.inl rfl) (fun _ _ J _=>PS O hv J) h
end ret
def qF(P:Program)(w0:World)(L:Nat)(vs:Ad)(K:PH)(hs:Ac)(R:Ao):Prop:=∀w,a7 w0 w K hs->∃fn tmps J N,(Instr.yield L vs.toArray).run P w=.ok (.round L fn tmps J N) w/\RoundIn (fz none) 0 P L fn tmps J N w (fU w0 R)
def zN(P:Program)(w0:World)(f:Nat)(cap:Ad)(xs:List (Ad))(Rd:PH->Ac->Prop):Prop:=
 ∀(L:Nat) (St:Nat->PH->Ac->Prop) (N:PH->Ac->Prop),(∀i K hs,St i K hs->Rd K hs) ->
  (∀i vs K hs,xs[i]?=some vs->St i K hs->qF P w0 L vs K hs (fun v J hs'=>(v=.bool true/\St (i+1) J hs')\/(v=.bool false/\N J hs'))) ->
  ∀K hs,St 0 K hs->Ct P w0 f (.func (.yield L) #[] #[]::cap) K hs (fun _ J hs'=>St (eq xs) J hs'\/N J hs')
section it
variable {P:Program}{T:be}{w0:World}{r:Am}{ds:List Deferred}{ops:Ai}{Q:An}{rest rest':Aj}{n:Nat}{l:Sl}{K:PH}{hs:Ac}
def zR{id o}(h:iT P w0 r ds o.toArray Q o n l K hs):WX P w0 r ds (.region id o.toArray false) Q n l K hs:=fun a w J N=>wpIn_region_lit (h a w J N)
def iT.fin(h:WL P w0 ops (SD ds Q) rest n l K hs):iT P w0 r ds ops Q rest n l K hs:=fun a w J N=>D8 rest a w (h a w J N)
def zJ(P:Program)(r:Am)(ops:Ai)(Q:An)(rest2:Aj):An
 |.normal,a,w=>wpListIn (fz r) 0 P ops Q rest2 a w
 |_,_,_=>False
def iT.cut(k)(h:WL P w0 ops (SD ds (zJ P r ops Q (rest.drop k))) (rest.take k) n l K hs):iT P w0 r ds ops Q rest n l K hs:=fun a w J N=>by
 have:=tP (r:=r) (Q:=zJ P r ops Q (rest.drop k)) (Q':=Q) (rest.drop k) (fun a w h=>h) (fun c a w h=>h.elim) (rest.take k) a w (h a w J N)
 rwa[aaE]at this
def zI{rest2}(h:iT P w0 r ds ops Q rest2 n l K hs):WQ w0 (SD ds (zJ P r ops Q rest2)) .normal n l K hs:=fun a w J N=>⟨J.defers,h a w J N⟩
def G0(ops:Ai)(n:Nat)(rest:Aj)(l:Sl):Option (Nat×Nat×Ad×Aj):=
 match rest with
 |o::r=>match fW ops l o.guard,o.dst,o.op with
  |some true,some d,.call {callee:=.value f,args,..}=>match Nat.blt d n,ev l f,args.toList.mapM (ev l)with
   |true,some (.func (.yield L) first J),some vs=>match first.toList with
    |[]=>some (d,L,vs,r)
    |_=>none
   |_,_,_=>none
  |_,_,_=>none
 |[]=>none
def zP{d L vs R}(h0:G0 ops n rest l=some (d,L,vs,rest'))(hc:qF P w0 L vs K hs R)(hk:∀v X hs',R v X hs'->iT P w0 r ds ops Q rest' n ((d,v)::l) X hs'):iT P w0 r ds ops Q rest n l K hs:=by
 unfold G0 at h0
 split at h0
 ·rename_i o rr
  split at h0
  ·rename_i d' f args ab hg hd V
   split at h0
   ·rename_i L' first N aa hb hf Z
    split at h0
    ·rename_i ad;simp only[aae,aah]at h0;obtain⟨rfl,rfl,rfl,rfl⟩:=h0;have U:first=#[]:=by cases first;simp_all
     subst U;intro a w Y hw;have h1:=gQ Y hg;have h6:=yT Y _ _ Z
     have h7:args.map a.eval=aa.toArray:=by
      apply Array.ext'
      simpa using h6
     obtain⟨fn,tmps,J,O,hy,hR⟩:=hc w hw;unfold wpListIn;rw[aab (show Region.wanted o (yielded ops (wd ds a).tmps)=true from h1)];refine⟨fun _ _=>trivial,?_⟩;have e1:o.semAt (fz r).round (wd ds a).eval=execOp a.eval o:=Oper.semAt_eq _ _ _ (fun c hh=>by rw[V]at hh;cases hh)
     have e2:(execOp a.eval o).run P w=.ok (.round L' fn tmps J O) w:=by
      simp only[execOp,V];simp[resolve,h7,Y.ev hf,Deferred.ofValue,invoke,hy]
     rw[e1,e2];refine⟨by simp[fz],RoundIn.mono (R:=fU w0 R) hR fun e w' he=>?_⟩;obtain⟨v,X,hs',rfl,hr,hs2⟩:=he;simp only[<-pS,hd];exact hk v X hs' hr _ w' (Y.put hb) hs2
    simp at h0
   simp at h0
  simp at h0
 simp at h0
def S6:Af->Ad->Sl->Sl
 |t::J,v::vs,l=>S6 J vs ((t,v)::l)
 |_,_,l=>l
theorem Ag.S6:∀(J:Af) (vs:Ad) {l:Sl} {a:Act} (h:Ag n l a) (ht:∀t∈J,t<n),Ag n (S6 J vs l) {tmps:=(J.zip vs).foldl (fun tmps (x:Nat×Value)=>tmps.setIfInBounds x.1 x.2) a.tmps,defers:=[]}
 |[],vs,l,a,h,_=>⟨by simpa using h.size,rfl,by simpa[En.S6]using h.slot⟩
 |t::J,[],l,a,h,_=>⟨by simpa using h.size,rfl,by simpa[En.S6]using h.slot⟩
 |t::J,v::vs,l,a,h,ht=>by
  have N:=h.put (d:=t) (v:=v) (Nat.ble_eq_true_of_le (ht t Q8));have O:=Ag.S6 J vs N (fun x U=>ht x (by simp[U]));simpa[En.S6,Act.put]using O
def rQ(w0:World)(St:Nat->PH->Ac->Prop)(J:Code->PH->Ac->Prop)(t u:PH)(i:Nat):An
 |.normal,_,w=>∃K hs,a7 w0 w K (hs++[t,u])/\St (i+1) K hs
 |.ret,_,w=>∃K hs,a7 w0 w K (hs++[t,u])/\J .ret K hs
 |.exit id,_,w=>∃K hs,a7 w0 w K (hs++[t,u])/\J (.exit id) K hs
 |_,_,_=>False
def aQ(P:Program)(w0:World)(L n:Nat)(J:Code)(St:Nat->PH->Ac->Prop)(O:Code->PH->Ac->Prop)(t u:PH)(i:Nat)(a:Act)(w:World):Prop:=
 ∃l' N hs',Ag n l' a/\a7 w0 w N (hs'++[t,u])/\∀u,WX P w0 (some L) [] J (rQ w0 St O t u i) n l' N (hs'++[t,u])
def yB{n l a}(h:Ag n l a):wd [] a=a:=by cases a;have:=h.defers;simp only at this;subst this;rfl
def zL{L body}{St:Nat->PH->Ac->Prop}{J:Code->PH->Ac->Prop}{t u i}{hs':Ac}(O:hs=hs'++[t,u])(h:∀u,WX P w0 (some L) [] body (rQ w0 St J t u i) n l K (hs'++[t,u])):
  dw [] w0 (Exit.then (aQ P w0 L n body St J t u i) (fun _ _ _=>False)) .normal n l K hs:=fun a w N U=>by
 subst O;rw[yB N];exact⟨l,K,hs',N,U,h⟩
def zB{St Jm t u i hs'}(J:hs=hs'++[t,u])(h:St (i+1) K hs'):dw [] w0 (rQ w0 St Jm t u i) .normal n l K hs:=fun a w O N=>by
 subst J;exact⟨K,hs',N,h⟩
def GD{St Jm t u i hs'}(J:hs=hs'++[t,u])(h:Jm .ret K hs'):dw [] w0 (rQ w0 St Jm t u i) .ret n l K hs:=fun a w O N=>by
 subst J;exact⟨K,hs',N,h⟩
def fZ{α:Type}(hs:List α)(t u):hs++[t,u]=(hs++[t])++[u]:=by simp
def G5{g ps assign body}{f:Nat}(cap:Ad)(xs:List (Ad))(Rd:PH->Ac->Prop)(hg:ev l g=some (.func (.func f) #[] cap.toArray))(it:zN P w0 f cap xs Rd)(an:jD P f=true)
  (aF:∀vs∈xs,eq vs=ps.size) (ay:(ps.toList.all fun t=>Nat.blt t n)=true) (St:Nat->PH->Ac->Prop) (Jm:Code->PH->Ac->Prop) (h0:St 0 K hs) (aD:∀i K hs t u,St i K hs->Rd K (hs++[t,u]))
  (round:∀L i vs K hs t u,xs[i]?=some vs->St i K hs->WX P w0 (some L) [] assign (Exit.then (aQ P w0 L n body St Jm t u i) (fun _ _ _=>False)) n (S6 ps.toList vs l) K (hs++[t,u]))
  (done:∀D K' hs',St (eq xs) K' hs'->dw (mJ D::ds) w0 Q .normal n l K' (hs'++[fX D]))
  (stop:∀D c K' hs',Jm c K' hs'->WX P w0 none (mJ D::ds) c Q n l K' (hs'++[fX D])):WX P w0 none ds (.rangeFunc g ps assign body) Q n l K hs:=by
 intro a w ha hw;refine wpIn_rangeFunc ?_;intro fn _;obtain⟨J,N⟩:∃J:LoopState->Option Code->Loop,J=fun st pe=>{state:=st,pending:=pe,fn,tmps:=a.tmps,params:=ps,assign,body,defers:=w.heap.size}:=⟨_,rfl⟩;obtain⟨D,hD⟩:=a9 w.heap.size;obtain⟨W1,am⟩:∃W1,(w.alloc (.deferred (some []))).alloc (.loop (J .ready none))=W1:=⟨_,rfl⟩
 have ap:a7 w0 W1 K (hs++[fX D,sg (D+1) (.loop (J .ready none))]):=by
  have h1:=(hw.alloc (.deferred (some []))).alloc (.loop (J .ready none));rw[World.size_alloc,<-hD,am]at h1;refine h1.perm ?_;rw[fZ];exact((abw _ _).symm.cons _).trans (abw _ _).symm
 refine⟨D+1,[mJ D],W1,{target:=.fn (.func f) cap.toArray,args:=#[.func (.yield (D+1)) #[] #[]]},W1,f,#[.func (.yield (D+1)) #[] #[]]++cap.toArray,W1,?_,?_,?_,?_,fun h=>by simp[fz]at h,?_⟩
 ·rw[<-am,N,hD];exact run_enterLoop_outer _ _ _ _ _
 ·simp only[resolve,sI ha hg];simp[Deferred.ofValue]
  rfl
 ·intro f' _;trivial
 ·have U:=an;unfold jD at U;cases hfn:P.funcs[f]? with
  |none=>simp[hfn]at U
  |some fn=>
   simp only[hfn,aaJ,acz]at U;have aE:¬fn.body=none:=fun e=>by simp[e]at U
   simp_all[invoke,callFunc]
 have ab:(#[Value.func (.yield (D+1)) #[] #[]]++cap.toArray:Ah)=(Value.func (.yield (D+1)) #[] #[]::cap).toArray:=by simp
 rw[ab]
 have key:=it (D+1) (fun i K hs=>∃hs',hs=hs'++[fX D,sg (D+1) (.loop (J .ready none))]/\St i K hs') (fun K hs=>∃c hs',hs=hs'++[fX D,sg (D+1) (.loop (J .done (some c)))]/\Jm c K hs')
  (by grind) ?_ K _ ⟨hs,rfl,h0⟩
 ·refine(callsIn_wide.2 (key.2 _ ap)).mono ?_;rintro e w2 ⟨v,K2,hs2,rfl,hh,Y⟩;rcases hh with⟨hs',rfl,ad⟩|⟨c,hs',rfl,aq⟩
  ·rw[fZ]at Y;have h1:=run_endLoop (P:=P) Y.last (by rw[N];simp);rw[N]at h1;exact⟨none,_,h1,done D K2 hs' ad a _ ha (Y.Qk _).dropLast⟩
  rw[fZ]at Y;have h1:=run_endLoop (P:=P) Y.last (by rw[N];simp);rw[N]at h1;exact⟨some c,_,h1,stop D c K2 hs' aq a _ ha (Y.Qk _).dropLast⟩
 rintro i vs K1 aL aA ⟨hs',rfl,ad⟩ w1 ae;have av:w1.heap[D+1]?=some (.loop (J .ready none)):=by rw[fZ]at ae;exact ae.last
 have az:vs.toArray.size=(J .ready none).params.size:=by grind
 have hy:=run_yield (P:=P) av az;refine⟨_,_,_,_,hy,roundIn_of_wpIn (F:=fz none) trivial ?_⟩
 have hA:Ag n (S6 ps.toList vs l) {tmps:=((J .ready none).params.zip vs.toArray).foldl (fun tmps (t,a)=>tmps.setIfInBounds t a) (J .ready none).tmps,defers:=[]}:=by
  have h1:=Ag.S6 ps.toList vs ha (fun t ht=>ab6 (aaX.1 ay t ht));rw[N]
  have e1:(ps.zip vs.toArray).foldl (fun tmps (x:Nat×Value)=>tmps.setIfInBounds x.1 x.2) a.tmps=(ps.toList.zip vs).foldl (fun tmps (x:Nat×Value)=>tmps.setIfInBounds x.1 x.2) a.tmps:=by
   rw[<-Array.foldl_toList];simp
  simp_all
 have h2:=round (D+1) i vs K1 hs' (fX D) (sg (D+1) (.loop (J .ready none))) aA ad _ w1 hA ae;rw[N]at h2⊢;refine wpIn_mono h2 ?_;intro e a3 w3 hq;cases e with
 |normal=>
  obtain⟨l',K',aN,ag,aa,hb⟩:=hq;rw[fZ]at aa;refine⟨_,run_beginRound aa.last I,?_⟩;have ak:=aa.Qk (.loop {J .ready none with state:=.busy});rw[N]at ak;have h5:=hb _ a3 _ ag (by rw[fZ];exact ak);rw[yB ag]at h5;refine wpIn_mono h5 ?_;intro e a4 w4 X;cases e with
  |normal=>
   obtain⟨K5,Z,O,V⟩:=X;rw[fZ]at O;refine⟨_,_,run_endRound none O.last,_,K5,_,I,.inl ⟨I,Z,I,V⟩,?_⟩;rw[fZ];exact O.Qk _
  |ret=>
   obtain⟨K5,Z,O,V⟩:=X;rw[fZ]at O;refine⟨_,_,run_endRound (some .ret) O.last,_,K5,_,I,.inr ⟨I,.ret,Z,I,V⟩,?_⟩;rw[fZ];exact O.Qk _
  |exit id=>
   obtain⟨K5,Z,O,V⟩:=X;rw[fZ]at O;refine⟨_,_,run_endRound (some (.exit id)) O.last,_,K5,_,I,.inr ⟨I,.exit id,Z,I,V⟩,?_⟩;rw[fZ];exact O.Qk _
  |goto l=>exact X.elim
  |panic ch=>exact X.elim
  |outgrown=>exact X.elim
 |exit id=>exact hq.elim
 |goto l=>exact hq.elim
 |ret=>exact hq.elim
 |panic ch=>exact hq.elim
 |outgrown=>exact hq.elim
end it
end
section
attribute [local irreducible] Code.wp wpList Calls
def fk{κ:Type}[DecidableEq κ](k:κ):List (κ×Value)->Nat->Option (Nat×Value)
 |[],_=>none
 |(J,v)::m,i=>if k=J then some (i,v)else fk k m (i+1)
structure iz (P:Program) (kt:Nat) {κ:Type} [DecidableEq κ] (enc:κ->Value):Prop where
 SM:∀e k w,(Instr.checkKey e 10000 kt (enc k)).run P w=.ok () w
 Sr:∀(k:κ) (es:List MapEntry) (m:List (κ×Value)) w,es.map (fun e=>(e.key,e.val))=m.map (fun x=>(enc x.1,x.2))->(Instr.findKey kt (enc k) es).run P w=.ok (fk k m 0) w
 SP:∀k,Instr.sameBits 10000 (enc k) (enc k)=true
theorem Fw{P:Program}{kt:Nat}{d κ}[DecidableEq κ]{enc:κ->Value}(h:∀a b,Instr.sameNow d (enc a) (enc b)=some (decide (a=b)))(k):∀(J:List MapEntry) (m:List (κ×Value)) (i:Nat),
  J.map (fun e=>(e.key,e.val))=m.map (fun x=>(enc x.1,x.2))->Instr.findNow d (enc k) J i=some (fk k m i)
 |[],[],i,_=>rfl
 |[],_::_,i,h0=>by simp at h0
 |_::_,[],i,h0=>by simp at h0
 |e::J,(X,v)::m,i,h0=>by
  simp only[aay,List.cons.injEq,aah]at h0;obtain⟨⟨O,U⟩,V⟩:=h0;simp only[Instr.findNow,O,h,fk]
  by_cases N:k=X
  ·simp[N,U]
  simp[N,Fw (P:=P) (kt:=kt) h k J m (i+1) V]
def iz.TT{P:Program}{kt:Nat}{d κ}[DecidableEq κ]{enc:κ->Value}(O:P.underlying kt=some d)(h:∀a b,Instr.sameNow d (enc a) (enc b)=some (decide (a=b)))
  (N:∀e k w,(Instr.checkKey e 10000 kt (enc k)).run P w=.ok () w) (hs:∀k,Instr.sameBits 10000 (enc k) (enc k)=true):iz P kt enc:=
 ⟨N,fun k J m w h0=>by unfold Instr.findKey;rw[aax,run_underlying O];simp[Result.andThen,Fw (P:=P) (kt:=kt) h k J m 0 h0],hs⟩
def Fr{P:Program}{kt:Nat}{kk}(J:P.underlying kt=some (.int kk)):iz P kt (κ:=Int) (fun n=>.int kk n):=
 iz.TT J (fun a b=>by simp only[Instr.sameNow,if_true];rfl) (fun e k w=>by
  rw[show(10000:Nat)=9999+1 from rfl];unfold Instr.checkKey;rw[aax,run_underlying J]
  rfl) (fun k=>by simp[Instr.sameBits])
def dH{κ ν:Type}(enc:κ->Value)(encv:ν->Value)(h:PH)(b:Nat)(m:List (κ×ν)):Prop:=
 ∃N J,h=sg b (.map N J)/\N.toList.map (fun e=>(e.key,e.val))=m.map (fun x=>(enc x.1,encv x.2))/\(N.toList.map (·.born)).Pairwise (· < ·)/\∀e∈N.toList,e.born<J
def aZ{κ ν:Type}[DecidableEq κ](k:κ):List (κ×ν)->Option ν
 |[]=>none
 |(J,v)::m=>if k=J then some v else aZ k m
def cj{κ ν:Type}[DecidableEq κ](k:κ)(v:ν):List (κ×ν)->List (κ×ν)
 |[]=>[(k,v)]
 |(J,v')::m=>if k=J then(k,v)::m else(J,v')::cj k v m
def dN{κ ν:Type}[DecidableEq κ](k:κ):List (κ×ν)->List (κ×ν)
 |[]=>[]
 |(J,v')::m=>if k=J then m else(J,v')::dN k m
theorem l8{κ ν}[DecidableEq κ](k j v):∀m:List (κ×ν),aZ j (cj k v m)=if j=k then some v else aZ j m
 |[]=>by rfl
 |(J,v')::m=>by
  have N:=l8 k j v m
  by_cases h:k=J
  ·subst h
   by_cases hj:j=k<;>simp[cj,aZ,hj]
  by_cases hj:j=J
  ·subst hj;have:¬j=k:=fun e=>h e.symm;simp[cj,aZ,h,this]
  simp[cj,aZ,h,hj,N]
theorem qM{κ ν}[DecidableEq κ](k v):∀m:List (κ×ν),eq (cj k v m)=if(aZ k m).isSome then eq m else eq m+1
 |[]=>by rfl
 |(N,v')::m=>by
  have J:=qM k v m
  grind[cj,aZ]
theorem tp{κ ν}[DecidableEq κ](k v):∀m:List (κ×ν),(cj k v m).map (·.1)=if(aZ k m).isSome then m.map (·.1)else m.map (·.1)++[k]
 |[]=>by rfl
 |(N,v')::m=>by
  have J:=tp k v m
  grind[cj,aZ]
theorem gS{κ ν}[DecidableEq κ]{k v}:∀{m:List (κ×ν)},aZ k m=some v->(k,v)∈m
 |[],h=>by simp[aZ]at h
 |(J,v')::m,h=>by
  simp only[aZ]at h
  split at h
  ·rename_i e;subst e;simp only[aae]at h;subst h;simp
  exact aba _<|gS h
theorem gI{κ ν}[DecidableEq κ]{k}:∀{m:List (κ×ν)},aZ k m=none↔k∉m.map (·.1)
 |[]=>by simp[aZ]
 |(J,v')::m=>by
  have N:=gI (k:=k) (m:=m)
  by_cases h:k=J<;>simp_all[aZ]
theorem yS{κ ν}[DecidableEq κ]{encv:ν->Value}(k):∀(m:List (κ×ν)) (i:Nat),(fk k (m.map fun x=>(x.1,encv x.2)) i).map (·.2)=(aZ k m).map encv
 |[],i=>rfl
 |(J,v)::m,i=>by
  by_cases h:k=J
  ·simp[fk,aZ,h]
  simp[fk,aZ,h,yS k m (i+1)]
theorem pL{κ}[DecidableEq κ](k):∀(m:List (κ×Value)) (i:Nat),fk k m i=(fk k m 0).map fun x=>(i+x.1,x.2)
 |[],i=>rfl
 |(J,v)::m,i=>by
  by_cases h:k=J
  ·simp[fk,h]
  simp only[fk,h,if_false];rw[pL k m (i+1),pL k m (0+1)];cases fk k m 0 with
  |none=>rfl
  |some x=>simp;omega
def dH.empty{κ ν enc encv}(b c):dH (κ:=κ) (ν:=ν) enc encv (sg b (.map #[] c)) b []:=⟨#[],c,rfl,rfl,Q8,Q8⟩
section look
variable {κ ν:Type} [DecidableEq κ] {enc:κ->Value}{encv:ν->Value}{P:Program}{h:PH}{b:Nat}{m:List (κ×ν)}
def pc(ok:Bool)(v:Value)(is:Bool):Value:=cond ok (.tuple #[v,.bool is]) v
theorem dH.map(hm:dH enc encv h b m):∃N J,h=sg b (.map N J)/\N.toList.map (fun e=>(e.key,e.val))=(m.map fun x=>(x.1,encv x.2)).map (fun x=>(enc x.1,x.2)):=by
 obtain⟨N,c,O,U,_⟩:=hm;exact⟨N,c,O,by rw[U];simp⟩
def lz{w es c}(h:w.heap[b]?=some (.map es c)):(getObj b).run P w=.ok (.map es c) w:=by simp[getObj,Sem.run,h]
def vY{t kt et:Nat}{z}(Y:P.underlying t=some (.map kt et))(U:iz P kt enc)(hz:(P.info? et).bind (·.zero)=some z)(hm:dH enc encv h b m){w:World}(Z:∀b o,h b=some o->w.heap[b]?=some o)(k ok):
  (Instr.lookup t (.map (some b)) (enc k) ok).run P w=.ok (pc ok (match aZ k m with|some v=>encv v|none=>z) (aZ k m).isSome) w:=by
 obtain⟨O,c,rfl,V⟩:=hm.map;have hb:=Z b (.map O c) Q8;have X:=U.Sr k O.toList _ w V;have hg:=yS (encv:=encv) k m 0;obtain⟨i,hi,N⟩:=acx.1 hz;unfold Instr.lookup;simp only[aax,run_underlying Y,Result.andThen,lz hb,abY,U.SM,X];cases e:fk k (m.map fun x=>(x.1,encv x.2)) 0 with
 |none=>
  rw[e]at hg;have hn:aZ k m=none:=by cases J:aZ k m with|none=>rfl|some v=>simp[J]at hg
  simp only[hn];have:(zeroValue et).run P w=.ok z w:=by simp[zeroValue,typeInfo,hi,N]
  rw[aax,this];cases ok<;>rfl
 |some x=>
  rw[e]at hg
  obtain⟨v,hv,hx⟩:∃v,aZ k m=some v/\x.2=encv v:=by
   cases J:aZ k m with
   |none=>simp[J]at hg
   |some v=>simp[J]at hg;exact⟨v,I,hg⟩
  simp only[hv,hx];cases ok<;>rfl
def Hp{t kt et:Nat}{z}(U:P.underlying t=some (.map kt et))(N:iz P kt enc)(V:(P.info? et).bind (·.zero)=some z){w}(k ok):
  (Instr.lookup t (.map none) (enc k) ok).run P w=.ok (pc ok z false) w:=by
 have O:=N.Sr k [] [] w rfl;obtain⟨i,hi,J⟩:=acx.1 V;unfold Instr.lookup;simp only[aax,run_underlying U,Result.andThen,abY,N.SM,show(#[]:Array MapEntry).toList=[]from rfl,O,fk];have:(zeroValue et).run P w=.ok z w:=by simp[zeroValue,typeInfo,hi,J]
 rw[this];cases ok<;>rfl
def jW(k v:Value)(c:Nat):Option (Nat×Value)->List MapEntry->List MapEntry
 |some (i,_),J=>J.modify i fun e=>{e with key:=k,val:=v}
 |none,J=>J++[{key:=k,val:=v,born:=c}]
theorem xO(k v c):∀(J:List MapEntry) (m:List (κ×ν)),J.map (fun e=>(e.key,e.val))=m.map (fun x=>(enc x.1,encv x.2)) ->
  (jW (enc k) (encv v) c (fk k (m.map fun x=>(x.1,encv x.2)) 0) J).map (fun e=>(e.key,e.val))=(cj k v m).map (fun x=>(enc x.1,encv x.2))
 |[],[],_=>rfl
 |[],_::_,h0=>by simp at h0
 |_::_,[],h0=>by simp at h0
 |e::J,(U,v')::m,h0=>by
  simp only[aay,List.cons.injEq,aah]at h0;obtain⟨⟨V,X⟩,N⟩:=h0;have Y:=xO k v c J m N
  by_cases O:k=U
  ·simp[fk,cj,O,jW,N]
  simp only[aay,fk,cj,O,if_false];rw[pL];cases hf:fk k (m.map fun x=>(x.1,encv x.2)) 0 with
  |none=>
   simp_all[jW]
  |some x=>
   grind[jW]
def Ch(k v c)(f:Option (Nat×Value))(J:List MapEntry)(h:(J.map (·.born)).Pairwise (· < ·))(U:∀e∈J,e.born<c):
  ((jW k v c f J).map (·.born)).Pairwise (· < ·)/\∀e∈jW k v c f J,e.born<(match f with|some _=>c|none=>c+1):=by
 cases f with
 |none=>
  refine⟨?_,?_⟩
  ·simp only[jW,aa1,aay,List.map_nil]
   grind
  intro e N;simp only[jW,aao,aaC]at N
  grind
 |some x=>
  obtain⟨i,x⟩:=x
  have O:(J.modify i fun e=>{e with key:=k,val:=v}).map (·.born)=J.map (·.born):=by
   clear h U
   induction J generalizing i with
   |nil=>simp
   |cons e J V=>
    grind
  refine⟨by simp only[jW];rw[O];exact h,?_⟩;intro e N;simp only[jW]at N;have:e.born∈(J.modify i fun e=>{e with key:=k,val:=v}).map (·.born):=aau.2 ⟨e,N,rfl⟩
  grind
def Fz{J:List MapEntry}{m:List (κ×Value)}(k){i v}(h0:J.map (fun e=>(e.key,e.val))=m.map (fun x=>(enc x.1,x.2)))(N:fk k m 0=some (i,v)):(J[i]?).map (·.key)=some (enc k):=by
 induction m generalizing J i v with
 |nil=>simp[fk]at N
 |cons x m Z=>
  obtain⟨U,v'⟩:=x;cases J with
  |nil=>simp at h0
  |cons e J=>
   simp only[aay,List.cons.injEq,aah]at h0;obtain⟨⟨V,X⟩,Y⟩:=h0
   by_cases O:k=U
   ·simp only[fk,O,if_true,aae,aah]at N
    grind
   simp only[fk,O,if_false]at N;rw[pL]at N;cases hf2:fk k m 0 with
   |none=>simp[hf2]at N
   |some y=>
    grind
def Ht{w0:World}{K:PH}{hs:Ac}{t kt et i:Nat}(hu:P.underlying t=some (.map kt et))(X:iz P kt enc)(hm:dH enc encv h b m){w}(s:a7 w0 w K hs)(hi:hs[i]?=some h)(k v):
  ∃Z w',dH enc encv Z b (cj k v m)/\(Instr.mapUpdate t (.map (some b)) (enc k) (encv v)).run P w=.ok () w'/\a7 w0 w' K (hs.set i Z):=by
 obtain⟨J,c,rfl,h2,h3,h4⟩:=hm;have O:J.toList.map (fun e=>(e.key,e.val))=(m.map fun x=>(x.1,encv x.2)).map (fun x=>(enc x.1,x.2)):=by rw[h2];simp
 have hb:w.heap[b]?=some (.map J c):=s.own i _ hi b _ Q8;have hf:=X.Sr k J.toList _ w O;have N:=xO (enc:=enc) (encv:=encv) k v c J.toList m h2;have e2:=Ch (enc k) (encv v) c (fk k (m.map fun x=>(x.1,encv x.2)) 0) J.toList h3 h4;have V:∀o:Obj,(setObj b o).run P w=.ok () (w.putObj b o):=fun o=>by simp[setObj,Sem.run,hb,World.putObj]
 unfold Instr.mapUpdate;simp only[aax,run_underlying hu,Result.andThen,lz hb,abY,X.SM,hf];cases hk:fk k (m.map fun x=>(x.1,encv x.2)) 0 with
 |none=>
  rw[hk]at N e2;simp only[jW]at N e2;refine⟨sg b (.map (J.push {key:=enc k,val:=encv v,born:=c}) (c+1)),_,⟨_,_,I,by rw[acE];exact N,by rw[acE];exact e2.1,by rw[acE];exact e2.2⟩,V _,s.putObj hi _⟩
 |some x=>
  obtain⟨j,x⟩:=x;rw[hk]at N e2;simp only[jW]at N e2;have U:=Fz (enc:=enc) k O hk;have Y:((J[j]?).map (·.key)).getD (enc k)=enc k:=by rw[<-acC,U];rfl
  have aa:(Instr.keyThatStays (enc k) (enc k)).run P w=.ok (enc k) w:=by unfold Instr.keyThatStays;simp[X.SP]
  refine⟨sg b (.map (J.modify j fun e=>{e with key:=enc k,val:=encv v}) c),w.putObj b (.map (J.modify j fun e=>{e with key:=enc k,val:=encv v}) c),⟨_,_,I,by rw[abZ];exact N,by rw[abZ];exact e2.1,by rw[abZ];exact e2.2⟩,?_,s.putObj hi _⟩
  simp_all
def Bs{t kt et ty:Nat}(O:P.underlying t=some (.map kt et))(hm:dH enc encv h b m){w}(U:∀b o,h b=some o->w.heap[b]?=some o):(Builtin.len_ #[t] ty #[.map (some b)]).run P w=.ok (.int .i64 (eq m)) w:=by
 obtain⟨J,c,rfl,N,_⟩:=hm;have hb:=U b (.map J c) Q8;have hl:J.size=eq m:=by have:=congrArg List.length N;simpa using this
 unfold Builtin.len_;simp[aax,run_underlying O,Result.andThen,lz hb,hl,goInt]
end look
section rules
variable {P:Program}{T:be}{w0:World}{ops:Ai}{Q:An}{rest rest':Aj}{n:Nat}{l l':Sl}{K:PH}{hs:Ac}
variable {κ ν:Type} [DecidableEq κ] {enc:κ->Value}{encv:ν->Value}{h:PH}{b:Nat}{m:List (κ×ν)}
def jy[hT:a8 P T](k){d o v}(h0:il T ops n k rest l=some (d,o,rest',l'))(hv:∀a w,Ag n l' a->a7 w0 w K hs->(execOp a.eval o).run P w=.ok (.value v) w)
  (hk:WL P w0 ops Q rest' n ((d,v)::l') K hs):WL P w0 ops Q rest n l K hs:=by
 unfold il at h0
 split at h0
 ·rename_i o' r l2 ho
  split at h0
  ·rename_i O Z;cases hb:Nat.blt O n with
   |false=>simp[hb]at h0
   |true=>
    simp only[hb,cond_true,aae,aah]at h0;obtain⟨rfl,rfl,rfl,rfl⟩:=h0;exact Ec ho fun hg=>Dx (R:=fun u J hs'=>u=v/\J=K/\hs'=hs) Z hb hg (fun A w Y N=>⟨v,w,K,hs,hv A w Y N,N,I,I,I⟩) (fun u J hs' ⟨U,V,X⟩=>by subst U;subst V;subst X;exact hk)
  simp at h0
 simp at h0
def uQ(T:be)(ops:Ai)(n k:Nat)(rest:Aj)(l:Sl):Option (Oper×Aj×Sl):=
 match eN T ops n k rest l with
 |some (o,r,l')=>match o.dst with
  |none=>some (o,r,l')
  |some _=>none
 |none=>none
def G6[hT:a8 P T](k){o}{R:PH->Ac->Prop}(h0:uQ T ops n k rest l=some (o,rest',l'))(hv:∀a w,Ag n l' a->a7 w0 w K hs->∃w' J hs',(execOp a.eval o).run P w=.ok .skip w'/\a7 w0 w' J hs'/\R J hs')
  (Z:∀J hs',R J hs'->WL P w0 ops Q rest' n l' J hs'):WL P w0 ops Q rest n l K hs:=by
 unfold uQ at h0
 split at h0
 ·rename_i o' r l2 ho
  split at h0
  ·rename_i Y;simp only[aae,aah]at h0;obtain⟨rfl,rfl,rfl⟩:=h0;refine Ec ho fun hg=>?_;intro a w O hw;obtain⟨w',J,hs',N,U,X⟩:=hv a w O hw;have V:=gQ O hg;unfold wpList;rw[aab V];refine .inl ?_;unfold Oper.wp;rw[N];simp only[Oper.upon,Y,Act.put];exact Z J hs' X _ _ O U
  simp at h0
 simp at h0
def sE[hT:a8 P T](k){d o}{R:Ao}(h0:il T ops n k rest l=some (d,o,rest',l'))(hv:∀a w,Ag n l' a->a7 w0 w K hs->∃v w' J hs',(execOp a.eval o).run P w=.ok (.value v) w'/\a7 w0 w' J hs'/\R v J hs')
  (U:∀v J hs',R v J hs'->WL P w0 ops Q rest' n ((d,v)::l') J hs'):WL P w0 ops Q rest n l K hs:=by
 unfold il at h0
 split at h0
 ·rename_i X r V ho
  split at h0
  ·rename_i N O;cases hb:Nat.blt N n with
   |false=>simp[hb]at h0
   |true=>
    simp only[hb,cond_true,aae,aah]at h0;obtain⟨rfl,rfl,rfl,rfl⟩:=h0;exact Ec ho fun hg=>Dx O hb hg hv U
  simp at h0
 simp at h0
def a7.S8{w}(s:a7 w0 w K hs)(hm:In K hs h):∀b o,h b=some o->w.heap[b]?=some o:=fun b o hb=>s.block hm hb
def za(T:be)(ops:Ai)(n k:Nat)(rest:Aj)(l:Sl):Option (Nat×Oper×Aj×Sl):=
 match il T ops n k rest l with
 |some (d,o,r,l')=>match o.op with
  |.makeMap _ none=>some (d,o,r,l')
  |_=>none
 |none=>none
def IK{k d o}(h:za T ops n k rest l=some (d,o,rest',l')):il T ops n k rest l=some (d,o,rest',l')/\∃t,o.op=.makeMap t none:=by
 unfold za at h
 grind
def vj[hT:a8 P T](k){d o}(h0:za T ops n k rest l=some (d,o,rest',l'))(O:∀b,WL P w0 ops Q rest' n ((d,.map (some b))::l') K (sg b (.map #[] 0)::hs)):WL P w0 ops Q rest n l K hs:=by
 obtain⟨N,t,U⟩:=IK h0;refine sE k (R:=fun v J hs'=>∃b,v=.map (some b)/\J=K/\hs'=sg b (.map #[] 0)::hs) N (fun a w X V=>⟨.map (some w.heap.size),w.alloc (.map #[] 0),K,_,?_,V.alloc _,w.heap.size,I,I,I⟩) ?_
 ·simp_all[execOp,Instr.makeMap]
 rintro v J hs' ⟨b,rfl,rfl,rfl⟩;exact O b
def sh(T:be)(ops:Ai)(n k:Nat)(rest:Aj)(l:Sl):Option (Nat×Oper×Nat×Value×Value×Bool×Aj×Sl):=
 match il T ops n k rest l with
 |some (d,o,r,l')=>match o.op with
  |.lookup t x y ok=>match ev l' x,ev l' y with
   |some u,some v=>some (d,o,t,u,v,ok,r,l')
   |_,_=>none
  |_=>none
 |none=>none
def B9{k d t o u v ok}(h:sh T ops n k rest l=some (d,o,t,u,v,ok,rest',l')):il T ops n k rest l=some (d,o,rest',l')/\∃x y,o.op=.lookup t x y ok/\ev l' x=some u/\ev l' y=some v:=by
 unfold sh at h
 grind
def iR[hT:a8 P T](k){d t kt et:Nat}{o z v ok}(j)(h0:sh T ops n k rest l=some (d,o,t,.map (some b),v,ok,rest',l'))(Y:P.underlying t=some (.map kt et))(hz:(P.info? et).bind (·.zero)=some z)(V:iz P kt enc)(hv:v=enc j)(J:In K hs h)(hm:dH enc encv h b m)
  (X:WL P w0 ops Q rest' n ((d,pc ok (match aZ j m with|some v=>encv v|none=>z) (aZ j m).isSome)::l') K hs):WL P w0 ops Q rest n l K hs:=by
 obtain⟨U,x,y,N,hx,hy⟩:=B9 h0;subst hv;refine jy k U (fun a w O Z=>?_) X;have:=vY (P:=P) Y V hz hm (Z.S8 J) j ok;simp only[execOp,N,O.ev hx,O.ev hy];simp[this]
def Hc[hT:a8 P T](k){d t kt et:Nat}{o z v ok}(j)(h0:sh T ops n k rest l=some (d,o,t,.map none,v,ok,rest',l'))(X:P.underlying t=some (.map kt et))(hz:(P.info? et).bind (·.zero)=some z)(U:iz P kt enc)(hv:v=enc j)
  (V:WL P w0 ops Q rest' n ((d,pc ok z false)::l') K hs):WL P w0 ops Q rest n l K hs:=by
 obtain⟨O,x,y,J,Y,Z⟩:=B9 h0;subst hv;refine jy k O (fun a w N hw=>?_) V;have:=Hp (P:=P) (w:=w) X U hz j ok;simp only[execOp,J,N.ev Y,N.ev Z];simp[this]
def uT(T:be)(ops:Ai)(n k:Nat)(rest:Aj)(l:Sl):Option (Oper×Nat×Value×Value×Value×Aj×Sl):=
 match uQ T ops n k rest l with
 |some (o,r,l')=>match o.op with
  |.mapUpdate t x y z=>match ev l' x,ev l' y,ev l' z with
   |some u,some v,some w=>some (o,t,u,v,w,r,l')
   |_,_,_=>none
  |.insert t x y z=>match ev l' x,ev l' y,ev l' z with
   |some u,some v,some w=>some (o,t,u,v,w,r,l')
   |_,_,_=>none
  |_=>none
 |none=>none
def B4{k t o u v y}(h:uT T ops n k rest l=some (o,t,u,v,y,rest',l')):uQ T ops n k rest l=some (o,rest',l')/\∀a,Ag n l' a->execOp a.eval o=(do Instr.mapUpdate t u v y;pure .skip):=by
 unfold uT at h
 split at h
 ·rename_i o' r l2 ho
  split at h
  ·rename_i X Z x2 x3 N
   split at h
   ·rename_i Y v' y' O U V;simp only[aae,aah]at h;obtain⟨rfl,rfl,rfl,rfl,rfl,rfl,rfl⟩:=h;exact⟨ho,fun a J=>by simp only[execOp,N,J.ev O,J.ev U,J.ev V]⟩
   simp at h
  ·rename_i X Z x2 x3 N
   split at h
   ·rename_i Y v' y' O U V;simp only[aae,aah]at h;obtain⟨rfl,rfl,rfl,rfl,rfl,rfl,rfl⟩:=h;exact⟨ho,fun a J=>by simp only[execOp,N,J.ev O,J.ev U,J.ev V]⟩
   simp at h
  simp at h
 simp at h
def sF[hT:a8 P T](k i){t kt et:Nat}{o v y}(j x)(h0:uT T ops n k rest l=some (o,t,.map (some b),v,y,rest',l'))(hi:hs[i]?=some h)(hu:P.underlying t=some (.map kt et))(Z:iz P kt enc)(hv:v=enc j)(hy:y=encv x)(hm:dH enc encv h b m)
  (hk:∀J,dH enc encv J b (cj j x m)->WL P w0 ops Q rest' n l' K (hs.set i J)):WL P w0 ops Q rest n l K hs:=by
 obtain⟨X,Y⟩:=B4 h0;subst hv hy;refine G6 k (R:=fun O hs'=>∃J,dH enc encv J b (cj j x m)/\O=K/\hs'=hs.set i J) X (fun a w ha hw=>?_) ?_
 ·obtain⟨J,w',N,U,V⟩:=Ht (P:=P) (t:=t) (et:=et) (i:=i) hu Z hm hw hi j x;refine⟨w',K,_,?_,V,J,N,I,I⟩;rw[Y a ha,aax,U]
  rfl
 rintro O hs' ⟨J,N,rfl,rfl⟩;exact hk J N
def Gx(T:be)(ops:Ai)(n k:Nat)(rest:Aj)(l:Sl):Option (Nat×Oper×Nat×Value×Aj×Sl):=
 match il T ops n k rest l with
 |some (d,o,r,l')=>match o.op with
  |.call {callee:=.builtin .len,args,argTypes}=>match args.toList,argTypes.toList with
   |[x],[t]=>match ev l' x with
    |some u=>some (d,o,t,u,r,l')
    |none=>none
   |_,_=>none
  |_=>none
 |none=>none
def QD[hT:a8 P T](k){d t kt et:Nat}{o}(h0:Gx T ops n k rest l=some (d,o,t,.map (some b),rest',l'))(Z:P.underlying t=some (.map kt et))(U:In K hs h)(hm:dH enc encv h b m)
  (Y:WL P w0 ops Q rest' n ((d,.int .i64 (eq m))::l') K hs):WL P w0 ops Q rest n l K hs:=by
 unfold Gx at h0
 split at h0
 ·rename_i d' o' r l2 ho
  split at h0
  ·rename_i args J V
   split at h0
   ·rename_i x t' e1 e2
    split at h0
    ·rename_i u hx;simp only[aae,aah]at h0;obtain⟨rfl,rfl,rfl,rfl,rfl,rfl⟩:=h0;have N:args=#[x]:=by cases args;simp_all
     have O:J=#[t']:=by cases J;simp_all
     subst N O;refine jy k ho (fun a w X hw=>?_) Y;have:=Bs (P:=P) (ty:=o'.type) (encv:=encv) Z hm (hw.S8 U);simp only[execOp,V];simp[resolve,invoke,builtin,X.ev hx,this]
    simp at h0
   simp at h0
  simp at h0
 simp at h0
end rules
section Sz
variable {P:Program}{T:be}{w0:World}{ops:Ai}{Q:An}{plan plan':Af}{z:Nat}{listed listed':Al}{n:Nat}{l l':Sl}{K K0:PH}{hs A:Ac}
variable {κ ν:Type} [DecidableEq κ] {enc:κ->Value}{encv:ν->Value}{h:PH}{b:Nat}{m:List (κ×ν)}
def uI(T:be)(ops:Ai)(n z k:Nat)(plan:Af)(L:Al)(l:Sl):Option (Nat×Oper×Af×Al×Sl):=
 match lH T ops n z k plan L l with
 |some (p,o,r,J,l')=>match Nat.beq (p%2) 0,Nat.beq (p/2) z,cond (Nat.blt z ops.size) (Region.waitsFor .any ops z (p/2)) true,fW ops l' o.guard,o.dst with
  |true,false,true,some true,some d=>match Nat.blt d n with
   |true=>some (d,o,r,J.setIfInBounds (p/2) true,l')
   |false=>none
  |_,_,_,_,_=>none
 |none=>none
def sx[hT:a8 P T](J:Region.noSelect ops=true)(k){d o v}(h0:uI T ops n z k plan listed l=some (d,o,plan',listed',l'))(hv:∀a w,Ag n l' a->ff K0 A w->(execOp a.eval o).run P w=.ok (.value v) w)
  (hk:WA P w0 ops Q K0 A z plan' listed' n ((d,v)::l') K hs):WA P w0 ops Q K0 A z plan listed n l K hs:=by
 unfold uI at h0
 split at h0
 ·rename_i p o r L' l2 hh
  split at h0
  ·rename_i dd hp hz X hg hd
   split at h0
   ·rename_i hb;simp only[aae,aah]at h0;obtain⟨rfl,rfl,rfl,rfl,rfl⟩:=h0;obtain⟨g1,g2⟩:=ki hh;refine Bd J k g1 ?_;have O:p=2*(p/2):=by have:=aaF hp;omega
    rw[O];refine Bm g2 J hz hd hb (fun Z Y=>.inl ⟨gQ Y hg,fun w hw=>?_⟩) hk;obtain⟨L,N,V,U⟩:=hw;exact hv Z w Y (U (pB N V X))
   simp at h0
  simp at h0
 simp at h0
def ff.S8{w}(s:ff K A w)(hm:In K A h):∀b o,h b=some o->w.heap[b]?=some o:=by
 rcases hm with rfl|⟨i,hi⟩
 ·exact s.1
 exact s.2 h<|aam hi
def F8(T:be)(ops:Ai)(n z k:Nat)(plan:Af)(L:Al)(l:Sl):Option (Nat×Oper×Nat×Value×Value×Bool×Af×Al×Sl):=
 match uI T ops n z k plan L l with
 |some (d,o,r,J,l')=>match o.op with
  |.lookup t x y ok=>match ev l' x,ev l' y with
   |some u,some v=>some (d,o,t,u,v,ok,r,J,l')
   |_,_=>none
  |_=>none
 |none=>none
def GJ[hT:a8 P T](J:Region.noSelect ops=true)(k){d t kt et:Nat}{o zv v ok}(j)(h0:F8 T ops n z k plan listed l=some (d,o,t,.map (some b),v,ok,plan',listed',l'))(Z:P.underlying t=some (.map kt et))(hz:(P.info? et).bind (·.zero)=some zv)(X:iz P kt enc)(hv:v=enc j)(N:In K0 A h)(hm:dH enc encv h b m)
  (Y:WA P w0 ops Q K0 A z plan' listed' n ((d,pc ok (match aZ j m with|some v=>encv v|none=>zv) (aZ j m).isSome)::l') K hs):WA P w0 ops Q K0 A z plan listed n l K hs:=by
 unfold F8 at h0
 split at h0
 ·rename_i d' o' r L' l2 ho
  split at h0
  ·rename_i t' x y U O
   split at h0
   ·rename_i u' v' hx hy;simp only[aae,aah]at h0;obtain⟨rfl,rfl,rfl,rfl,rfl,rfl,rfl,rfl,rfl⟩:=h0;subst hv;refine sx J k ho (fun a w V hw=>?_) Y;have:=vY (P:=P) Z X hz hm (hw.S8 N) j U;simp only[execOp,O,V.ev hx,V.ev hy];simp[this]
   simp at h0
  simp at h0
 simp at h0
end Sz
end
section
attribute [local irreducible] Code.wp wpList Calls
def aj.pre{h ao n cap size xs}(x:aj h ao n cap size xs)(m)(hm:m<=n):aj h ao m cap size (xs.take (m*size)):=by
 obtain⟨J,N,O⟩:=x;have:m*size<=n*size:=abh _ hm;refine⟨by simp;omega,qo,fun j u U=>?_⟩
 grind
section rules
variable {P:Program}{T:be}{w0:World}{ops:Ai}{Q:An}{rest rest':Aj}{n:Nat}{l l':Sl}{K:PH}{hs:Ac}
def zK(T:be)(ops:Ai)(n k:Nat)(rest:Aj)(l:Sl):Option (Nat×Oper×Builtin×Nat×Nat×Value×Value×Aj×Sl):=
 match il T ops n k rest l with
 |some (d,o,r,l')=>match o.op with
  |.call {callee:=.builtin b,args,argTypes}=>match args.toList,argTypes.toList with
   |[x,y],[t,u]=>match ev l' x,ev l' y with
    |some J,some N=>some (d,o,b,t,u,J,N,r,l')
    |_,_=>none
   |_,_=>none
  |_=>none
 |none=>none
def KO{k d t u o b vx vy}(h:zK T ops n k rest l=some (d,o,b,t,u,vx,vy,rest',l')):
  il T ops n k rest l=some (d,o,rest',l')/\∀a w,Ag n l' a->∃cs,(execOp a.eval o).run P w=(builtin b #[t,u] o.type cs #[vx,vy]).run P w:=by
 unfold zK at h
 split at h
 ·rename_i d' o' r l2 ho
  split at h
  ·rename_i b' args J U
   split at h
   ·rename_i x y Z u' e1 e2
    split at h
    ·rename_i aa ab X Y;simp only[aae,aah]at h;obtain⟨rfl,rfl,rfl,rfl,rfl,rfl,rfl,rfl,rfl⟩:=h;have N:args=#[x,y]:=by cases args;simp_all
     have O:J=#[Z,u']:=by cases J;simp_all
     subst N O;refine⟨ho,fun a w V=>⟨#[x,y].map fun|.const _=>true|_=>false,?_⟩⟩;simp only[execOp,U];simp[resolve,invoke,V.ev X,V.ev Y]
     rfl
    simp at h
   simp at h
  simp at h
 simp at h
def Hg[hT:a8 P T](k i){d t u b off ty nd cd ns csrc o si aos h2 c xs}(m)
  (h0:zK T ops n k rest l=some (d,o,.copy,t,u,.slice (some ⟨b,off,none⟩) nd cd,.slice aos ns csrc,rest',l')) (U:Ry T.So t=some si) (hi:hs[i]?=some (pt b c ty)) (O:In K hs h2) (x:aj h2 aos ns csrc si.size xs)
  (hm:m=min ns nd) (h1:∀u∈xs.take (m*si.size),u.oneCell'=true) (hf:off+m*si.size<=c.size)
  (hk:WL P w0 ops Q rest' n ((d,.int .i64 (m:Int))::l') K (hs.set i (pt b (c.toList.take off++xs.take (m*si.size)++c.toList.drop (off+m*si.size)).toArray ty))):WL P w0 ops Q rest n l K hs:=by
 obtain⟨ho,N⟩:=KO h0;refine sE k (R:=fun v Y hs'=>v=.int .i64 (m:Int)/\Y=K/\hs'=hs.set i (pt b (c.toList.take off++xs.take (m*si.size)++c.toList.drop (off+m*si.size)).toArray ty)) ho (fun a w ha X=>?_) ?_
 ·obtain⟨cs,he⟩:=N a w ha;obtain⟨g1,ii,g2,g3,g4,g5⟩:=hT.sl U;have hb:w.heap[b]?=some (.cells c ty (0,0)):=X.own i _ hi b _ Q8;have Z:=x.pre m qo
  have aa:(Builtin.firstCells si.size m (.slice aos ns csrc)).run P w=.ok (xs.take (m*si.size)).toArray w:=by
   have:=vC (P:=P) X O Z;cases aos<;>exact this
  have J:eq (xs.take (m*si.size))=m*si.size:=Z.1;have V:=run_storeCells_at P b off ty (xs.take (m*si.size)) 0 c w hb qo (by intro u hu;exact h1 u hu);simp only[abb,J]at V;refine⟨_,_,K,_,?_,X.setRow hi _,I,I,I⟩;rw[he];simp only[builtin]
  simp_all[run_underlying,Builtin.copy_,Builtin.lenOf,sizeOf,typeInfo,goInt]
 rintro v Y hs' ⟨rfl,rfl,rfl⟩;exact hk
def o9[hT:a8 P T](k){d si ao n1 c1 lo hi}(L N:Nat)
  (h0:qh T ops n k rest l=some (d,si,(ao,n1,c1),lo,hi,rest',l')) (V:lo.getD 0=(L:Int)) (U:hi.getD n1=((L+N:Nat):Int)) (X:L+N<=c1)
  (hk:WL P w0 ops Q rest' n ((d,.slice (dE ao c1 L si.size) N (c1-L))::l') K hs):WL P w0 ops Q rest n l K hs:=by
 obtain⟨o,ho,Z,hb,J⟩:=tE (P:=P) L (L+N) h0 V U qo X;refine Ec ho fun hg=>Dx (R:=fun u O hs'=>u=.slice (dE ao c1 L si.size) N (c1-L)/\O=K/\hs'=hs) Z hb hg (fun A w Y hw=>⟨_,w,K,hs,J A w Y,hw,?_,I,I⟩) ?_
 ·simp
 rintro u O hs' ⟨rfl,rfl,rfl⟩;exact hk
def EG{g off c L size}(h:L<c):dE (some ⟨g,off,none⟩) c L size=some ⟨g,off+L*size,none⟩:=by
 rw[dE,aaa qo];simp[bf]
def pZ{ao c size}:dE ao c 0 size=ao:=by
 simp[dE,Addr.add]
end rules
section ext
variable {P:Program}{T:be}{w0:World}{ops:Ai}{Q:An}{rest rest':Aj}{n:Nat}{l l':Sl}{K:PH}{hs:Ac}
end ext
section three
variable {P:Program}{T:be}{w0:World}{ops:Ai}{Q:An}{rest rest':Aj}{n:Nat}{l l':Sl}{K:PH}{hs:Ac}
def FT(T:be)(ops:Ai)(n k:Nat)(rest:Aj)(l:Sl):Option (Nat×Oper×iU×(Ab×Nat×Nat)×Option Int×Int×Int×Aj×Sl):=
 match il T ops n k rest l with
 |some (d,o,r,l')=>match o.op with
  |.slice t x none (some hi) (some mx)=>match Ry T.So t,ev l' x,ev l' hi,ev l' mx with
   |some U,some (.slice J O N),some (.int _ j),some (.int _ m)=>some (d,o,U,(J,O,N),none,j,m,r,l')
   |_,_,_,_=>none
  |.slice t x (some lo) (some hi) (some mx)=>match Ry T.So t,ev l' x,ev l' lo,ev l' hi,ev l' mx with
   |some U,some (.slice J O N),some (.int _ i),some (.int _ j),some (.int _ m)=>some (d,o,U,(J,O,N),some i,j,m,r,l')
   |_,_,_,_,_=>none
  |_=>none
 |none=>none
def uO[hT:a8 P T](k){d o si ao n1 Y lo hi mx}(L N M:Nat)(h0:FT T ops n k rest l=some (d,o,si,(ao,n1,Y),lo,hi,mx,rest',l'))
  (hL:lo.getD 0=(L:Int)) (hH:hi=((L+N:Nat):Int)) (hM:mx=(M:Int)) (hN:L+N<=M) (hc:M<=Y)
  (hk:WL P w0 ops Q rest' n ((d,.slice (dE ao M L si.size) N (M-L))::l') K hs):WL P w0 ops Q rest n l K hs:=by
 unfold FT at h0
 split at h0
 ·rename_i d' o' r l2 ho;have ak:((M:Nat):Int)<=((Y:Nat):Int):=qo
  have t1:(((L:Nat):Int)+((N:Nat):Int)).toNat=L+N:=qo
  have t2:(((L:Nat):Int)+((N:Nat):Int))<=((M:Nat):Int):=qo
  have t3:0<=((L:Nat):Int)+((N:Nat):Int):=qo
  split at h0
  ·rename_i t x ab ae V
   split at h0
   ·rename_i ag a1 m1 k1 kk jj ad mm X hx O U;simp only[aae,aah]at h0;obtain⟨rfl,rfl,rfl,⟨rfl,rfl,rfl⟩,rfl,rfl,rfl,rfl,rfl⟩:=h0;subst hH hM;simp only[abs]at hL;obtain rfl:L=0:=qo
    obtain⟨Z,im,h2,h3,h4,h5⟩:=hT.sl X;refine jy k ho (fun a w J hw=>?_) hk;have q1:N<=M:=qo
    have q2:((N:Nat):Int)<=((M:Nat):Int):=qo
    simp only[execOp,V,J.ev hx];simp[Instr.sliceAt,Instr.slice,Instr.sliceBounds,Instr.sliceBound,asIntOf,run_underlying Z,J.ev O,J.ev U,sizeOf,typeInfo,h2,h4,dE,hc,q1,q2]
   simp at h0
  ·rename_i t x an ab ae V
   split at h0
   ·rename_i ag a1 m1 k1 am ii kk jj ad mm X hx aa O U;simp only[aae,aah]at h0;obtain⟨rfl,rfl,rfl,⟨rfl,rfl,rfl⟩,rfl,rfl,rfl,rfl,rfl⟩:=h0;subst hH hM;simp only[aaZ]at hL;subst hL;obtain⟨Z,im,h2,h3,h4,h5⟩:=hT.sl X;refine jy k ho (fun a w J hw=>?_) hk;simp only[execOp,V,J.ev hx];simp[Instr.sliceAt,Instr.slice,Instr.sliceBounds,Instr.sliceBound,asIntOf,run_underlying Z,J.ev aa,J.ev O,J.ev U,sizeOf,typeInfo,h2,h4,dE,hc];rw[aab qo,t1]
    simp
   simp at h0
  simp at h0
 simp at h0
end three
section openc
variable {P:Program}{T:be}{w0:World}{ops:Ai}{Q:An}{plan plan':Af}{z:Nat}{listed listed':Al}{n:Nat}{l l':Sl}{K K0:PH}{hs A:Ac}
def oP[hT:a8 P T](O:Region.noSelect ops=true)(k){d d' o si ao n1 c1 lo hi}(L N:Nat)
  (h0:nA T ops n z k plan listed l=some (d,o,plan',listed',l')) (U:qh T ops n 0 [o] l'=some (d',si,(ao,n1,c1),lo,hi,[],l')) (X:lo.getD 0=(L:Int)) (V:hi.getD n1=((L+N:Nat):Int)) (Y:L+N<=c1)
  (hk:WA P w0 ops Q K0 A z plan' listed' n ((d,.slice (dE ao c1 L si.size) N (c1-L))::l') K hs):WA P w0 ops Q K0 A z plan listed n l K hs:=by
 obtain⟨o',ho,hd,hb,J⟩:=tE (P:=P) L (L+N) U X V qo Y
 have Z:o'=o:=by
  have e:iO T ops n 0 [o] l'=some ([o],l'):=rfl
  grind[eN]
 grind[qD]
end openc
def aJ.behind{g off n cap e cur xs}(o:aJ (pt g cur e) (some ⟨g,off,none⟩) n cap e 1 xs)(O:cur.size=off+cap*1)(ht:(cur.toList.drop off).take (n*1)=xs)(p ys)(J:off+n<=p)(N:p+eq ys<=cur.size):
  aJ (pt g (cur.toList.take p++ys++cur.toList.drop (p+eq ys)).toArray e) (some ⟨g,off,none⟩) n cap e 1 xs:=by
 refine⟨o.1,o.2.1,o.2.2.1,.inr ⟨g,off,_,I,I,?_,?_⟩⟩
 ·grind
 have hl:eq cur.toList=cur.size:=abW;rw[<-ht];simp only[aaf];rw[aaH,abP Au,aa2,aa3 Au,aaK,abk qo]
def aJ.UB{h ao n cap e xs}(o:aJ h ao n cap e 1 xs)(hn:0<cap):∃g off J,ao=some ⟨g,off,none⟩/\h=pt g J e/\J.size=off+cap/\(J.toList.drop off).take n=xs:=by
 obtain⟨_,_,_,N⟩:=o
 grind
def aJ.Uq{g off n cap e cur xs}(U:cur.size=off+cap)(N:n<=cap)(O:cap<=maxLen)(J:(cur.toList.drop off).take n=xs):aJ (pt g cur e) (some ⟨g,off,none⟩) n cap e 1 xs:=by
 have hl:eq cur.toList=cur.size:=abW;exact⟨by rw[<-J];simp;omega,N,O,.inr ⟨g,off,cur,rfl,rfl,qo,by simpa using J⟩⟩
end
section
def eG{α:Type}(R:Ad->α->Prop):List (Ad)->List α->Prop
 |[],[]=>True
 |c::cs,x::xs=>R c x/\eG R cs xs
 |_,_=>False
section al
variable {α:Type}{R R':Ad->α->Prop}
theorem eG.imp(h:∀c x,R c x->R' c x):∀{cs:List (Ad)} {xs:List α},eG R cs xs->eG R' cs xs
 |[],[],_=>trivial
 |_::_,_::_,g=>⟨h _ _ g.1,eG.imp h g.2⟩
 |[],_::_,g=>g.elim
 |_::_,[],g=>g.elim
theorem eG.len:∀{cs:List (Ad)} {xs:List α},eG R cs xs->eq cs=eq xs
 |[],[],_=>rfl
 |_::_,_::_,g=>by simp[eG.len g.2]
 |[],_::_,g=>g.elim
 |_::_,[],g=>g.elim
theorem eG.get:∀{cs:List (Ad)} {xs:List α} {i:Nat} {x:α},eG R cs xs->xs[i]?=some x->∃c,cs[i]?=some c/\R c x
 |[],[],i,x,_,h=>by simp at h
 |c::cs,y::xs,0,x,g,h=>by simp at h;subst h;exact⟨c,Q8,g.1⟩
 |c::cs,y::xs,i+1,x,g,h=>by
  obtain⟨d,J,N⟩:=eG.get (i:=i) g.2 (by simpa using h);exact⟨d,by simpa using J,N⟩
 |[],_::_,_,_,g,_=>g.elim
 |_::_,[],_,_,g,_=>g.elim
theorem eG.append:∀{cs ds:List (Ad)} {xs ys:List α},eG R cs xs->eG R ds ys->eG R (cs++ds) (xs++ys)
 |[],_,[],_,_,h=>h
 |_::_,_,_::_,_,g,h=>⟨g.1,eG.append g.2 h⟩
 |[],_,_::_,_,g,_=>g.elim
 |_::_,_,[],_,g,_=>g.elim
theorem eG.drop:∀(k:Nat) {cs:List (Ad)} {xs:List α},eG R cs xs->eG R (cs.drop k) (xs.drop k)
 |0,_,_,h=>h
 |k+1,[],[],_=>trivial
 |k+1,_::_,_::_,g=>eG.drop k g.2
 |k+1,[],_::_,g=>g.elim
 |k+1,_::_,[],g=>g.elim
theorem eG.take:∀(k:Nat) {cs:List (Ad)} {xs:List α},eG R cs xs->eG R (cs.take k) (xs.take k)
 |0,_,_,_=>trivial
 |k+1,[],[],_=>trivial
 |k+1,_::_,_::_,g=>⟨g.1,eG.take k g.2⟩
 |k+1,[],_::_,g=>g.elim
 |k+1,_::_,[],g=>g.elim
theorem tS{size}:∀{cs:List (Ad)} {i:Nat} {c:Ad},(∀d∈cs,eq d=size)->cs[i]?=some c->∀(j:Nat) v,c[j]?=some v->cs.flatten[i*size+j]?=some v
 |[],i,c,_,h,_,_,_=>by simp at h
 |d::cs,0,c,hl,h,j,v,hv=>by
  grind
 |d::cs,i+1,c,hl,h,j,v,hv=>by
  have N:=hl d Q8;rw[abF,abQ,show i*size+size+j=eq d+(i*size+j)from qo,abc qo,ab0];exact tS (fun x J=>hl x (by simp[J])) (by simpa using h) j v hv
theorem Dd{size}:∀{cs:List (Ad)},(∀d∈cs,eq d=size)->eq cs.flatten=eq cs*size
 |[],_=>by simp
 |d::cs,h=>by rw[abF,aaj,h d Q8,Dd (fun x J=>h x (by simp[J])),aas,abQ];omega
theorem q9{size}:∀(k:Nat) {cs:List (Ad)},(∀d∈cs,eq d=size)->cs.flatten.drop (k*size)=(cs.drop k).flatten
 |0,cs,_=>by simp
 |k+1,[],_=>by simp
 |k+1,d::cs,h=>by
  rw[abF,abQ,show k*size+size=eq d+k*size from by rw[h d Q8];omega,<-aaP,List.drop_left,q9 k (fun x J=>h x (by simp[J]))]
  simp
theorem wR{size}:∀(k:Nat) {cs:List (Ad)},(∀d∈cs,eq d=size)->cs.flatten.take (k*size)=(cs.take k).flatten
 |0,cs,_=>by simp
 |k+1,[],_=>by simp
 |k+1,d::cs,h=>by
  simp_all[abQ,ace,aaA,wR]
def dn(size:Nat)(R:Ad->α->Prop)(H:PH)(ao:Ab)(n cap:Nat)(xs:List α):Prop:=
 ∃css:List (Ad),n=eq xs/\aj H ao n cap size css.flatten/\eG R css xs/\∀d∈css,eq d=size
theorem dn.le{size H H' ao n cap xs}(h:dn size R H ao n cap xs)(l:Le H H')(V:∀c x,R c x->R' c x):dn size R' H' ao n cap xs:=by
 obtain⟨css,J,N,O,U⟩:=h;exact⟨css,J,N.le l,O.imp V,U⟩
theorem dn.nil(size H ao cap):dn size R H ao 0 cap []:=⟨[],rfl,aj.nil H ao cap size,trivial,Q8⟩
def dn.cells{size H a n cap i xs x}(h:dn size R H (some a) n cap xs)(Y:xs[i]?=some x):∃c,R c x/\eq c=size/\∀(j:Nat) v,c[j]?=some v->co H ((a.add (i*size)).add j) v:=by
 obtain⟨css,h1,U,V,N⟩:=h;obtain⟨c,O,X⟩:=V.get Y;refine⟨c,X,N c (aam O),fun j v hv=>?_⟩;obtain⟨Z,e,J⟩:=U.2.2 _ v (tS N O j v hv)
 grind[Addr.add]
def dn.Ni{size H ao n cap xs}(h:dn size R H ao n cap xs):∃vs,aj H ao n cap size vs:=by
 obtain⟨css,_,J,_⟩:=h;exact⟨_,J⟩
def dn.len{size H ao n cap xs}(h:dn size R H ao n cap xs):n=eq xs:=by
 obtain⟨css,J,_⟩:=h;exact J
theorem dn.addr{size H ao n cap xs}(h:dn size R H ao n cap xs)(hn:0<n)(hs:0<size):∃a,ao=some a:=by
 obtain⟨css,_,J,_⟩:=h;exact J.addr hn hs
theorem dn.cut{size H ao n cap xs}(h:dn size R H ao n cap xs)(L)(X:L<=n):dn size R H (dE ao cap L size) (n-L) (cap-L) (xs.drop L):=by
 obtain⟨css,O,V,U,J⟩:=h;have hl:eq css=n:=by rw[U.len,O]
 refine⟨css.drop L,by simp[O],V.cut L (n-L) qo ?_,U.drop L,fun d N=>J d (aaV N)⟩;rw[q9 L J];exact aaA (by rw[Dd (fun d N=>J d (aaV N))];simp[hl])
def ka(size e:Nat)(R:Ad->α->Prop)(h:PH)(ao:Ab)(n cap:Nat)(xs:List α):Prop:=
 ∃css:List (Ad),n=eq xs/\aJ h ao n cap e size css.flatten/\eG R css xs/\∀d∈css,eq d=size
theorem ka.nil(size e):ka size e R em none 0 0 []:=⟨[],rfl,aJ.nil e size,trivial,Q8⟩
def ka.SL{size e h ao n cap xs}(x:ka size e R h ao n cap xs):dn size R h ao n cap xs:=by
 obtain⟨css,J,N,O,U⟩:=x;exact⟨css,J,N.Ni,O,U⟩
theorem ka.imp{size e h ao n cap xs}(V:∀c x,R c x->R' c x)(x:ka size e R h ao n cap xs):ka size e R' h ao n cap xs:=by
 obtain⟨css,J,N,O,U⟩:=x;exact⟨css,J,N,O.imp V,U⟩
end al
section app
variable {P:Program}{T:be}{w0:World}{ops:Ai}{Q:An}{rest rest':Aj}{n:Nat}{l l':Sl}{K:PH}{hs:Ac}{α:Type}{R:Ad->α->Prop}
def Qq[hT:a8 P T](k i){d si ao n1 c1 b h xs}(c x)(h0:kE T ops n k rest l=some (d,si,(ao,n1,c1),(some ⟨b,0,none⟩,1,1),rest',l'))
  (Y:hs[0]?=some (pt b c.toArray si.elem)) (hi:hs[i]?=some h) (o:ka si.size si.elem R h ao n1 c1 xs) (Z:R c x) (hl:eq c=si.size) (X:∀u∈c,u.oneCell'=true) (hz:si.zero.cells.size=si.size) (V:0<si.size) (hb:(n1+1)*si.bytes<=2^47) (U:n1+1<=maxLen)
  (hk:∀N J O,ka si.size si.elem R O N (n1+1) J (xs++[x])->WL P w0 ops Q rest' n ((d,.slice N (n1+1) J)::l') K (hs.set i O)):WL P w0 ops Q rest n l K hs:=by
 obtain⟨css,q1,q2,q3,q4⟩:=o
 have xv:aj (pt b c.toArray si.elem) (some ⟨b,0,none⟩) 1 1 si.size c:=by
  simpa using(aJ.Re (b:=b) (c:=c.toArray) (e:=si.elem) (n:=1) (size:=si.size) (by simpa using hl) At).Ni
 refine app k i h0 hi q2 (.inr ⟨0,Y⟩) xv hz V X hb U fun N J O o'=>hk N J O ⟨css++[c],by simp[q1],by simpa using o',q3.append ⟨Z,trivial⟩,?_⟩
 grind
end app
def dt:Ac->PH
 |[]=>em
 |h::l=>un h (dt l)
def Dj(h J:PH):Prop:=∀b,h b=none\/J b=none
def iW(l:Ac):Prop:=l.Pairwise Dj
theorem w9:∀{l:Ac} {b:Nat} {o:Obj},dt l b=some o->∃h∈l,h b=some o
 |[],b,o,h=>by simp[dt,em]at h
 |x::l,b,o,h=>by
  simp only[dt,un]at h;cases e:x b with
  |some O=>rw[e]at h;simp only[aae]at h;subst h;exact⟨x,Q8,e⟩
  |none=>
   rw[e]at h;obtain⟨y,J,N⟩:=w9 h;exact⟨y,by simp[J],N⟩
theorem yE:∀{l:Ac} (d:iW l) {h:PH} (hm:h∈l) {b:Nat} {o:Obj},h b=some o->dt l b=some o
 |[],_,_,hm,_,_,_=>by cases hm
 |x::l,d,h,hm,b,o,hb=>by
  simp only[dt,un];rcases aaB.1 hm with rfl|hm
  ·rw[hb]
  have J:=(aa4.1 d).1 h hm b;cases e:x b with
  |none=>exact yE (aa4.1 d).2 hm hb
  |some N=>
   simp_all
def KT{l b}(h:∀x∈l,x b=none):dt l b=none:=by
 cases e:dt l b with
 |none=>rfl
 |some o=>grind[w9]
def a7.split{w0 w:World}{K:PH}{l hs:Ac}(s:a7 w0 w K (dt l::hs))(d:iW l):a7 w0 w K (l++hs):=by
 rw[a7.iff]at s⊢;obtain⟨⟨O,U,V,X,Y,N⟩,J⟩:=s;rw[aa4]at J;refine⟨⟨O,U,V,X,Y,fun h hm b o hb=>?_⟩,?_⟩
 ·rcases aao.1 hm with hm|hm
  ·exact N (dt l) Q8 b o<|yE d hm hb
  exact N h (by simp[hm]) b o hb
 rw[acf];refine⟨d,J.2,fun x hx y Z b=>?_⟩;cases e:x b with
 |none=>simp
 |some o=>
  rcases J.1 y Z b with h|h
  all_goals grind[yE]
def a7.join{w0 w:World}{K:PH}(l){hs:Ac}(s:a7 w0 w K (l++hs)):iW l/\a7 w0 w K (dt l::hs):=by
 rw[a7.iff]at s⊢;obtain⟨⟨V,X,Y,Z,h5,J⟩,N⟩:=s;rw[acf]at N;obtain⟨d,h8,h9⟩:=N;refine⟨d,⟨V,X,Y,Z,h5,fun h hm b o hb=>?_⟩,?_⟩
 ·rcases aaB.1 hm with rfl|hm
  ·obtain⟨x,O,U⟩:=w9 hb;exact J x (by simp[O]) b o U
  exact J h (by simp[hm]) b o hb
 rw[aa4];refine⟨fun y hy b=>?_,h8⟩;cases e:y b with
 |none=>simp
 |some o=>
  refine .inl (KT fun x hx=>?_);rcases h9 x hx y hy b with h|h
  ·exact h
  rw[e]at h;cases h
section sj
variable {P:Program}{w0:World}{ops:Ai}{Q:An}{rest:Aj}{n:Nat}{l:Sl}{K:PH}{hs:Ac}{c:Code}{e:Exit}{r:Am}{ds:List Deferred}
theorem WL.split{m}(d:iW m)(N:WL P w0 ops Q rest n l K (m++hs)):WL P w0 ops Q rest n l K (dt m::hs):=fun a w J O=>N a w J (O.split d)
abbrev Be:=@WL.split
theorem WC.split{m}(d:iW m)(N:WC P w0 c Q n l K (m++hs)):WC P w0 c Q n l K (dt m::hs):=fun a w J O=>N a w J (O.split d)
theorem WQ.split{m}(d:iW m)(N:WQ w0 Q e n l K (m++hs)):WQ w0 Q e n l K (dt m::hs):=fun a w J O=>N a w J (O.split d)
theorem WL.join(m)(O:iW m->WL P w0 ops Q rest n l K (dt m::hs)):WL P w0 ops Q rest n l K (m++hs):=fun a w N J=>O (J.join m).1 a w N (J.join m).2
theorem WC.join(m)(O:iW m->WC P w0 c Q n l K (dt m::hs)):WC P w0 c Q n l K (m++hs):=fun a w N J=>O (J.join m).1 a w N (J.join m).2
theorem WQ.join(m)(O:iW m->WQ w0 Q e n l K (dt m::hs)):WQ w0 Q e n l K (m++hs):=fun a w N J=>O (J.join m).1 a w N (J.join m).2
theorem dw.drop{h}(N:dw ds w0 Q e n l K hs):dw ds w0 Q e n l K (h::hs):=fun a w J O=>N a w J O.Qf
def WQ.Tj{h x}(N:WQ w0 Q e n l K (h::hs)):WQ w0 Q e n l K (h::x::hs):=fun a w J O=>N a w J (O.perm (aap x h hs)).Qf
theorem WX.drop{h}(N:WX P w0 r ds c Q n l K hs):WX P w0 r ds c Q n l K (h::hs):=fun a w J O=>N a w J O.Qf
theorem dw.perm{hs'}(p:hs.Perm hs')(N:dw ds w0 Q e n l K hs'):dw ds w0 Q e n l K hs:=fun a w J O=>N a w J (O.perm p)
theorem WX.perm{hs'}(p:hs.Perm hs')(N:WX P w0 r ds c Q n l K hs'):WX P w0 r ds c Q n l K hs:=fun a w J O=>N a w J (O.perm p)
theorem WX.SK{h}(X:∀J,Le K J->Le h J->WX P w0 r ds c Q n l J hs):WX P w0 r ds c Q n l K (h::hs):=fun a w V Y=>by
 obtain⟨N,O,U⟩:=Y.SK;exact X _ N O a w V U
theorem WX.em(N:WX P w0 r ds c Q n l K (En.em::hs)):WX P w0 r ds c Q n l K hs:=fun a w J O=>N a w J O.RU
end sj
def zj{P:Program}{w0:World}{ops:Ai}{Q:An}{plan z n l}{K K0:PH}{hs A:Ac}{L}(A')(V:∀h∈A',h∈hs)(N:∀h∈A,h∈A')(X:Le K0 K)(hk:WA P w0 ops Q K A' z plan L n l K hs):
  WL P w0 ops (fun e a w=>gj .any ops plan L=true->fS .any ops L->lw P w0 ops Q K0 A z plan L e a w) [] n l K hs:=by
 intro a w Y O;refine wpList_nil fun hp Z=>?_;have up:∀L w,still z (ff K A') L w->still z (ff K0 A) L w:=fun L w h U=>⟨fun b o hb=>(h U).1 b o (X b o hb),fun x hx=>(h U).2 x (N x hx)⟩;have J:still z (ff K A') L w:=fun _=>ff.SY O V;exact⟨up _ _ J,zy up _ _ _ _ (hk hp Z a w Y O J)⟩
def dX{P:Program}{w0:World}{ops:Ai}{Q:An}{plan z n l}{K K0:PH}{hs A:Ac}{L}(J:∀h∈A,h∈hs)(N:Le K0 K)(O:WA P w0 ops Q K A z plan L n l K hs):
  WL P w0 ops (fun e a w=>gj .any ops plan L=true->fS .any ops L->lw P w0 ops Q K0 A z plan L e a w) [] n l K hs:=zj A J (fun _ h=>h) N O
section jh
variable {P:Program}{T:be}{w0:World}{ops:Ai}{Q:An}{plan plan':Af}{z:Nat}{listed listed':Al}{n:Nat}{l l':Sl}{K K0:PH}{hs A:Ac}
def Gf(T:be)(ops:Ai)(n z k:Nat)(plan:Af)(L:Al)(l:Sl):Option (Nat×Oper×Nat×List (Nat×Value)×Af×Al×Sl):=
 match nA T ops n z k plan L l with
 |some (d,o,r,N,l')=>match o.op with
  |.build t J=>match J.toList.mapM (fun x=>(ev l' x.2).map (fun v=>(x.1,v)))with
   |some vs=>some (d,o,t,vs,r,N,l')
   |none=>none
  |_=>none
 |none=>none
def jh[hT:a8 P T](N:Region.noSelect ops=true)(k){d t o vs}(v)(h0:Gf T ops n z k plan listed l=some (d,o,t,vs,plan',listed',l'))(hv:∀w,(Instr.build t vs.toArray).run P w=.ok v w)
  (Z:WA P w0 ops Q K0 A z plan' listed' n ((d,v)::l') K hs):WA P w0 ops Q K0 A z plan listed n l K hs:=by
 unfold Gf at h0
 split at h0
 ·rename_i d' o' r L' l2 Y
  split at h0
  ·rename_i t' J aa
   split at h0
   ·rename_i U O;simp only[aae,aah]at h0;obtain⟨rfl,rfl,rfl,rfl,rfl,rfl,rfl⟩:=h0;refine qD N k Y (fun a w X=>?_) Z;have V:=ud X _ _ O
    have h7:(J.map fun x=>(x.1,a.eval x.2))=U.toArray:=by
     apply Array.ext'
     simpa using V
    simp_all[execOp]
   simp at h0
  simp at h0
 simp at h0
end jh
end
section
section
variable {P:Program}{T:be}{w0:World}{ops:Ai}{Q:An}{rest rest':Aj}{n:Nat}{l l':Sl}{K:PH}{hs:Ac}
variable {κ:Type} [DecidableEq κ] {enc:κ->Value}{h:PH}{b:Nat}{m:List (κ×Value)}
end
attribute [local irreducible] Code.wp wpList Calls
def Hn{P:Program}{w0 w:World}{K:PH}{hs:Ac}(t ty e i z)(ht:P.underlying t=some (.slice e))(hi:P.info? e=some i)(hz:i.zero=some z)
  (an:z.cells.size=i.size) (s0:a7 w0 w K hs) {hv h2 ao ao2 n cap m c2 xs news} (ag:In K hs hv) (o:aj hv ao n cap i.size xs) (V:ao=none->cap=0)
  (hm:In K hs h2) (x:aj h2 ao2 m c2 i.size news) (am:0<i.size) (ak:¬n+m<=cap) (hb:(n+m)*i.bytes<=2^47) (U:n+m<=maxLen):
  ∃Y O h' w',(Builtin.append_ #[t,t] ty #[.slice ao n cap,.slice ao2 m c2]).run P w=.ok (.slice Y (n+m) O) w'/\aJ h' Y (n+m) O e i.size (xs++news)/\a7 w0 w' K (h'::hs):=by
 have Z:eq (xs++news)=(n+m)*i.size:=by rw[aaj,o.1,x.1,Nat.add_mul]
 have s:a7 w0 w K (em::hs):=s0.RU;have aa:0<m:=by have:=o.2.1;omega
 obtain⟨a2,rfl⟩:=x.addr aa am
 have N:∀(j:Nat) v,news[j]?=some v->w.cell? (a2.add j)=some v:=fun j v hv=>by
  obtain⟨a',ha,hc⟩:=x.2.2 j v hv;cases ha;exact s0.cell hm hc
 have ab:∀Jd,Jd<n+m->aJ (pt w.heap.size (xs.toArray++news.toArray++Builtin.zeroCells z.cells (grownCap w (n+m) Jd e-(n+m))) e) (some ⟨w.heap.size,0,none⟩) (n+m) (grownCap w (n+m) Jd e) e i.size (xs++news) /\
   a7 w0 (w.drew.alloc (.cells (xs.toArray++news.toArray++Builtin.zeroCells z.cells (grownCap w (n+m) Jd e-(n+m))) e)) K ((em::hs).set 0 (pt w.heap.size (xs.toArray++news.toArray++Builtin.zeroCells z.cells (grownCap w (n+m) Jd e-(n+m))) e)):=by
  intro Jd ho;have ae:=grownCap_ge w (n+m) Jd e;have ad:grownCap w (n+m) Jd e<=maxLen:=grownCap_le_maxLen w (n+m) Jd e U;refine⟨⟨Z,ae,ad,.inr ⟨_,0,_,I,I,?_,?_⟩⟩,?_⟩
  ·simp only[Array.size_append,aca,size_zeroCells,an,o.1,x.1,<-Nat.add_mul,aaO]
   congr 1
   omega
  ·grind
  refine s.T3 (i:=0) I I I I Q8 ?_ ?_ ?_
  ·intro b ob J;simp only[pt,sg]at J
   split at J
   ·rename_i e1;subst e1;cases J;exact heap_alloc_new w.drew _
   cases J
  ·intro b J _;exact RowKit.Below.heap_alloc w.drew _ b J
  simp
 cases ao with
 |none=>
  obtain rfl:=V rfl;obtain rfl:n=0:=by have:=o.2.1;omega
  obtain rfl:xs=[]:=aaY (by simpa using o.1);have hr:=run_append_nil (P:=P) w t ty e i z ht hi hz a2 m c2 news x.1 N aa (by simp only[maxLen]at U;omega) (by simp only[aaO]at hb;omega)
  grind
 |some a=>
  have X:∀(k:Nat) u,xs[k]?=some u->w.cell? (a.add k)=some u:=fun k u hu=>by
   obtain⟨a',ha,hc⟩:=o.2.2 k u hu;cases ha;exact s0.cell ag hc
  have hr:=run_append_grow (P:=P) w t ty e i z ht hi hz a n cap xs o.1 X a2 m c2 news x.1 N qo (by simp only[maxLen]at U;omega) (growslice_fits qo hb)
  grind
def qn{P:Program}{T:be}{w0:World}{ops:Ai}{Q:An}{rest rest':Aj}{n l l'}{K:PH}{hs:Ac}
  [hT:a8 P T] (k) {d si ao ao2 n1 c1 n2 c2 hv h2 xs news} (h0:kE T ops n k rest l=some (d,si,(ao,n1,c1),(ao2,n2,c2),rest',l'))
  (am:In K hs hv) (o:aj hv ao n1 c1 si.size xs) (X:ao=none->c1=0) (hm:In K hs h2) (x:aj h2 ao2 n2 c2 si.size news) (hz:si.zero.cells.size=si.size) (aa:0<si.size) (Z:¬n1+n2<=c1)
  (hb:(n1+n2)*si.bytes<=2^47) (ag:n1+n2<=maxLen)
  (hk:∀O J U,aJ U O (n1+n2) J si.elem si.size (xs++news)->WL P w0 ops Q rest' n ((d,.slice O (n1+n2) J)::l') K (U::hs)):WL P w0 ops Q rest n l K hs:=by
 unfold kE at h0
 split at h0
 ·rename_i oo r l2 ho
  split at h0
  ·rename_i d' args N hd an
   split at h0
   ·rename_i x' y' t t' e1 e2
    split at h0
    ·rename_i V a1 m1 k1 a2 m2 k2 ak aq ap hx hy;simp only[aae,aah]at h0;obtain⟨rfl,rfl,⟨rfl,rfl,rfl⟩,⟨rfl,rfl,rfl⟩,rfl,rfl⟩:=h0;have ab:t=t':=aaF aq;subst ab;have ad:args=#[x',y']:=by cases args;simp_all
     have ae:N=#[t,t]:=by cases N;simp_all
     subst ad;subst ae;obtain⟨g1,ii,g2,g3,g4,g5⟩:=hT.sl ap
     refine Ec ho fun hg=>Dx (R:=fun u K' hs'=>∃O J U,u=.slice O (m1+m2) J/\aJ U O (m1+m2) J V.elem V.size (xs++news)/\K'=K/\hs'=U::hs) hd ak hg
      (fun A w ha hw=>?_) ?_
     ·rw[<-g4]at o x hz aa;rw[<-g5]at hb;obtain⟨O,J,U,w',hr,Y,hs'⟩:=Hn (P:=P) t oo.type V.elem ii V.zero g1 g2 g3 hz hw am o X hm x aa Z hb ag;refine⟨_,w',K,_,?_,hs',O,J,U,I,by rw[<-g4];exact Y,I,I⟩;simp only[execOp,an];simp[resolve,invoke,builtin,ha.ev hx,ha.ev hy,hr]
     rintro u K' hs' ⟨O,J,U,rfl,Y,rfl,rfl⟩;exact hk O J U Y
    simp at h0
   simp at h0
  simp at h0
 simp at h0
end
section
attribute [local irreducible] Code.wp wpList Calls
def sM(P:Program)(w0:World)(f:Nat)(cap:Ad){σ:Type}(step:σ->Ad->σ->Prop)(O:σ->Prop)(V:σ)(Rd:PH->Ac->Prop):Prop:=
 ∀(L:Nat) (St:σ->PH->Ac->Prop) (U:PH->Ac->Prop),(∀s K hs,St s K hs->Rd K hs) ->
  (∀s vs s' K hs fr,step s vs s'->St s K hs->qF P w0 L vs K (hs++fr) (fun v N hs'=>∃J,hs'=J++fr/\((v=.bool true/\St s' N J)\/(v=.bool false/\U N J)))) ->
  ∀K hs,St V K hs->Ct P w0 f (.func (.yield L) #[] #[]::cap) K hs (fun _ N hs'=>(∃s,O s/\St s N hs')\/U N hs')
section it
variable {P:Program}{T:be}{w0:World}{r:Am}{ds:List Deferred}{ops:Ai}{Q:An}{rest rest':Aj}{n:Nat}{l:Sl}{K:PH}{hs:Ac}
theorem qF.perm{L vs R hs'}(p:hs.Perm hs')(h:qF P w0 L vs K hs' R):qF P w0 L vs K hs R:=fun w J=>h w (J.perm p)
def QA{g ps assign body}{f:Nat}(cap:Ad){σ}(step:σ->Ad->σ->Prop)(ae:σ->Prop)(s0)(Rd:PH->Ac->Prop)(hg:ev l g=some (.func (.func f) #[] cap.toArray))(it:sM P w0 f cap step ae s0 Rd)(av:jD P f=true)
  (aN:∀s vs s',step s vs s'->eq vs=ps.size) (aL:(ps.toList.all fun t=>Nat.blt t n)=true) (St:σ->PH->Ac->Prop) (Jm:Code->PH->Ac->Prop) (h0:St s0 K hs) (aR:∀s K hs t u,St s K hs->Rd K (hs++[t,u]))
  (round:∀L s vs s' K hs fr t u,step s vs s'->St s K hs->WX P w0 (some L) [] assign (Exit.then (aQ P w0 L n body (fun _ K hs=>∃aa,hs=aa++fr/\St s' K aa) (fun c K hs=>∃aa,hs=aa++fr/\Jm c K aa) t u 0) (fun _ _ _=>False)) n (S6 ps.toList vs l) K ((hs++fr)++[t,u]))
  (done:∀D s K' hs',ae s->St s K' hs'->dw (mJ D::ds) w0 Q .normal n l K' (hs'++[fX D]))
  (stop:∀D c K' hs',Jm c K' hs'->WX P w0 none (mJ D::ds) c Q n l K' (hs'++[fX D])):WX P w0 none ds (.rangeFunc g ps assign body) Q n l K hs:=by
 intro a w ha hw;refine wpIn_rangeFunc ?_;intro fn _;obtain⟨N,J⟩:∃N:LoopState->Option Code->Loop,N=fun st pe=>{state:=st,pending:=pe,fn,tmps:=a.tmps,params:=ps,assign,body,defers:=w.heap.size}:=⟨_,rfl⟩;obtain⟨D,hD⟩:=a9 w.heap.size;obtain⟨W1,aq⟩:∃W1,(w.alloc (.deferred (some []))).alloc (.loop (N .ready none))=W1:=⟨_,rfl⟩
 have aA:a7 w0 W1 K (hs++[fX D,sg (D+1) (.loop (N .ready none))]):=by
  have h1:=(hw.alloc (.deferred (some []))).alloc (.loop (N .ready none));rw[World.size_alloc,<-hD,aq]at h1;refine h1.perm ?_;rw[fZ];exact((abw _ _).symm.cons _).trans (abw _ _).symm
 refine⟨D+1,[mJ D],W1,{target:=.fn (.func f) cap.toArray,args:=#[.func (.yield (D+1)) #[] #[]]},W1,f,#[.func (.yield (D+1)) #[] #[]]++cap.toArray,W1,?_,?_,?_,?_,fun h=>by simp[fz]at h,?_⟩
 ·rw[<-aq,J,hD];exact run_enterLoop_outer _ _ _ _ _
 ·simp only[resolve,sI ha hg];simp[Deferred.ofValue]
  rfl
 ·intro f' _;trivial
 ·have U:=av;unfold jD at U;cases hfn:P.funcs[f]? with
  |none=>simp[hfn]at U
  |some fn=>
   simp only[hfn,aaJ,acz]at U;have aS:¬fn.body=none:=fun e=>by simp[e]at U
   simp_all[invoke,callFunc]
 have ak:(#[Value.func (.yield (D+1)) #[] #[]]++cap.toArray:Ah)=(Value.func (.yield (D+1)) #[] #[]::cap).toArray:=by simp
 rw[ak]
 have key:=it (D+1) (fun s K hs=>∃hs',hs=hs'++[fX D,sg (D+1) (.loop (N .ready none))]/\St s K hs') (fun K hs=>∃c hs',hs=hs'++[fX D,sg (D+1) (.loop (N .done (some c)))]/\Jm c K hs')
  (by grind) ?_ K _ ⟨hs,rfl,h0⟩
 ·refine(callsIn_wide.2 (key.2 _ aA)).mono ?_;rintro e w2 ⟨v,K2,hs2,rfl,hh,ab⟩;rcases hh with⟨s,aF,hs',rfl,am⟩|⟨c,hs',rfl,aD⟩
  ·rw[fZ]at ab;have h1:=run_endLoop (P:=P) ab.last (by rw[J];simp);rw[J]at h1;exact⟨none,_,h1,done D s K2 hs' aF am a _ ha (ab.Qk _).dropLast⟩
  rw[fZ]at ab;have h1:=run_endLoop (P:=P) ab.last (by rw[J];simp);rw[J]at h1;exact⟨some c,_,h1,stop D c K2 hs' aD a _ ha (ab.Qk _).dropLast⟩
 rintro s vs s' K1 aa fr az ⟨hs',rfl,am⟩ w1 ad
 have pf:∀(X:Ac) (t u:PH),(X++[t,u]++fr).Perm ((X++fr)++[t,u]):=fun X t u=>by
  rw[aaH,aaH];exact List.perm_append_comm.append_left X
 replace ad:=ad.perm (pf hs' _ _)
 have aE:w1.heap[D+1]?=some (.loop (N .ready none)):=by rw[fZ]at ad;exact ad.last
 have aO:vs.toArray.size=(N .ready none).params.size:=by rw[J];simpa using aN s vs s' az
 have hy:=run_yield (P:=P) aE aO;refine⟨_,_,_,_,hy,roundIn_of_wpIn (F:=fz none) trivial ?_⟩
 have hA:Ag n (S6 ps.toList vs l) {tmps:=((N .ready none).params.zip vs.toArray).foldl (fun tmps (t,a)=>tmps.setIfInBounds t a) (N .ready none).tmps,defers:=[]}:=by
  have h1:=Ag.S6 ps.toList vs ha (fun t ht=>ab6 (aaX.1 aL t ht));rw[J]
  have e1:(ps.zip vs.toArray).foldl (fun tmps (x:Nat×Value)=>tmps.setIfInBounds x.1 x.2) a.tmps=(ps.toList.zip vs).foldl (fun tmps (x:Nat×Value)=>tmps.setIfInBounds x.1 x.2) a.tmps:=by
   rw[<-Array.foldl_toList];simp
  simp_all
 have h2:=round (D+1) s vs s' K1 hs' fr (fX D) (sg (D+1) (.loop (N .ready none))) az am _ w1 hA ad;rw[J]at h2⊢;refine wpIn_mono h2 ?_;intro e a3 w3 hq;cases e with
 |normal=>
  obtain⟨l',K',aT,an,ag,hb⟩:=hq;rw[fZ]at ag;refine⟨_,run_beginRound ag.last I,?_⟩;have ap:=ag.Qk (.loop {N .ready none with state:=.busy});rw[J]at ap;have h5:=hb _ a3 _ an (by rw[fZ];exact ap);rw[yB an]at h5;refine wpIn_mono h5 ?_;intro e a4 w4 Z;cases e with
  |normal=>
   obtain⟨K5,ay,O,V,rfl,Y⟩:=Z;rw[fZ]at O;refine⟨_,_,run_endRound none O.last,_,K5,_,I,⟨_,I,.inl ⟨I,V,I,Y⟩⟩,(a7.perm (pf V _ _).symm ?_)⟩;rw[fZ];exact O.Qk _
  |ret=>
   obtain⟨K5,ay,O,V,rfl,Y⟩:=Z;rw[fZ]at O;refine⟨_,_,run_endRound (some .ret) O.last,_,K5,_,I,⟨_,I,.inr ⟨I,.ret,V,I,Y⟩⟩,(a7.perm (pf V _ _).symm ?_)⟩;rw[fZ];exact O.Qk _
  |exit id=>
   obtain⟨K5,ay,O,V,rfl,Y⟩:=Z;rw[fZ]at O;refine⟨_,_,run_endRound (some (.exit id)) O.last,_,K5,_,I,⟨_,I,.inr ⟨I,.exit id,V,I,Y⟩⟩,(a7.perm (pf V _ _).symm ?_)⟩;rw[fZ];exact O.Qk _
  |goto l=>exact Z.elim
  |panic ch=>exact Z.elim
  |outgrown=>exact Z.elim
 |exit id=>exact hq.elim
 |goto l=>exact hq.elim
 |ret=>exact hq.elim
 |panic ch=>exact hq.elim
 |outgrown=>exact hq.elim
end it
end
section
attribute [local irreducible] Code.wp wpList Calls
def a7.RV{w0 w:World}{K:PH}{hs:Ac}(s:a7 w0 w K hs)(i){h h'}(hi:hs[i]?=some h)(J:h'=h\/h'=em):a7 w0 w K (hs.set i h'):=by
 rcases J with rfl|rfl
 ·have:hs.set i h'=hs:=by
   apply acd
   grind
  rw[this];exact s
 exact((s.perm<|iE hs i h hi).Qf.RU).perm<|nO hs i h em hi
section RV
variable {P:Program}{T:be}{w0:World}{ops:Ai}{Q:An}{rest:Aj}{n:Nat}{l:Sl}{K:PH}{hs:Ac}{c:Code}{e:Exit}
theorem WL.RV(i){h}(h')(hi:hs[i]?=some h)(N:h'=h\/h'=En.em)(O:WL P w0 ops Q rest n l K (hs.set i h')):WL P w0 ops Q rest n l K hs:=fun a w J U=>O a w J (U.RV i hi N)
theorem WC.RV(i){h}(h')(hi:hs[i]?=some h)(N:h'=h\/h'=En.em)(O:WC P w0 c Q n l K (hs.set i h')):WC P w0 c Q n l K hs:=fun a w J U=>O a w J (U.RV i hi N)
theorem WQ.RV(i){h}(h')(hi:hs[i]?=some h)(N:h'=h\/h'=En.em)(O:WQ w0 Q e n l K (hs.set i h')):WQ w0 Q e n l K hs:=fun a w J U=>O a w J (U.RV i hi N)
abbrev Cm:=@WQ.RV
end RV
def io(h:PH)(ao:Ab)(n cap e size:Nat)(xs:Ad):Prop:=aJ h ao n cap e size xs\/(n=0/\cap=0/\xs=[]/\h=em)
theorem io.nil(e size):io em none 0 0 e size []:=.inl (aJ.nil e size)
theorem io.Ni{h ao n cap e size xs}(o:io h ao n cap e size xs):aj h ao n cap size xs:=by
 rcases o with o|⟨rfl,rfl,rfl,rfl⟩
 ·exact o.Ni
 simp[aj.nil]
def io.Sd{h ao n cap e size xs}(o:io h ao n cap e size xs):n<=cap:=o.Ni.2.1
def io.cut{h ao n cap e size xs ys}(o:io h ao n cap e size xs)(L N)(hN:L+N<=n)(U:(xs.drop (L*size)).take (N*size)=ys):
  ∃O,(O=h\/O=em)/\io O (dE ao cap L size) N (cap-L) e size ys:=by
 have X:=o.Sd;rcases o with o|⟨rfl,rfl,rfl,rfl⟩
 ·obtain⟨h1,h2,h3,h4⟩:=o
  have V:eq ys=N*size:=by
   rw[<-U,aal,aar,h1];have:(L+N)*size<=n*size:=abh _ hN;rw[Nat.add_mul]at this;omega
  by_cases hL:L=cap
  ·subst hL;obtain rfl:N=0:=qo
   refine⟨em,.inr I,.inr ⟨I,qo,?_,I⟩⟩
   simp_all
  rcases h4 with⟨_,h5,_⟩|⟨g,off,J,rfl,rfl,Y,Z⟩
  ·omega
  refine⟨_,.inl I,.inl ⟨V,qo,qo,.inr ⟨g,off+L*size,J,EG qo,I,?_,?_⟩⟩⟩
  ·rw[Y];have:cap*size=L*size+(cap-L)*size:=by rw[<-Nat.add_mul];congr 1;omega
   omega
  rw[<-U,<-Z,aa2,aaK,aaP]
  grind
 obtain rfl:L=0:=qo
 obtain rfl:N=0:=qo
 refine⟨em,.inl I,.inr ⟨I,I,?_,I⟩⟩;rw[<-U];simp
section rules
variable {P:Program}{T:be}{w0:World}{ops:Ai}{Q:An}{rest rest':Aj}{n:Nat}{l l':Sl}{K:PH}{hs:Ac}
def GU[hT:a8 P T](k i){d si ao ao2 n1 c1 n2 c2 h h2 xs news}(h0:kE T ops n k rest l=some (d,si,(ao,n1,c1),(ao2,n2,c2),rest',l'))
  (hi:hs[i]?=some h) (o:io h ao n1 c1 si.elem si.size xs) (hm:In K hs h2) (x:aj h2 ao2 n2 c2 si.size news) (X:si.zero.cells.size=si.size) (V:0<si.size) (Y:∀u∈news,u.oneCell'=true) (aa:0<n2)
  (hb:(n1+n2)*si.bytes<=2^47) (U:n1+n2<=maxLen)
  (Z:∀O J N,aJ N O (n1+n2) J si.elem si.size (xs++news)->WL P w0 ops Q rest' n ((d,.slice O (n1+n2) J)::l') K (hs.set i N)):WL P w0 ops Q rest n l K hs:=by
 rcases o with o|⟨rfl,rfl,rfl,rfl⟩
 ·exact app k i h0 hi o hm x X V Y hb U Z
 refine qn k h0 (.inl I) (aj.nil _ _ _ _) (fun _=>I) hm x X V qo hb U fun O J N o'=>?_;have p:(N::hs).Perm (em::hs.set i N):=((iE hs i em hi).cons N).trans ((aap em N _).trans ((nO hs i em N hi).cons em))
 grind[WL.perm,WL.drop]
end rules
def dD{α:Type}(size e:Nat)(R:Ad->α->Prop)(h:PH)(ao:Ab)(n cap:Nat)(xs:List α):Prop:=
 ∃css:List (Ad),n=eq xs/\io h ao n cap e size css.flatten/\eG R css xs/\∀d∈css,eq d=size
section slz
variable {α:Type}{R R':Ad->α->Prop}{size e:Nat}{h:PH}{ao:Ab}{n cap:Nat}{xs:List α}
theorem dD.nil(size e):dD size e R em none 0 0 []:=⟨[],rfl,io.nil e size,trivial,Q8⟩
def dD.SL(x:dD size e R h ao n cap xs):dn size R h ao n cap xs:=by
 obtain⟨css,J,N,O,U⟩:=x;exact⟨css,J,N.Ni,O,U⟩
theorem dD.imp(V:∀c x,R c x->R' c x)(x:dD size e R h ao n cap xs):dD size e R' h ao n cap xs:=by
 obtain⟨css,J,N,O,U⟩:=x;exact⟨css,J,N,O.imp V,U⟩
theorem dD.Sd(x:dD size e R h ao n cap xs):n<=cap:=let⟨_,_,J,_⟩:=x;J.Sd
theorem dD.cut(x:dD size e R h ao n cap xs)(L N)(hN:L+N<=n):∃J,(J=h\/J=em)/\dD size e R J (dE ao cap L size) N (cap-L) ((xs.drop L).take N):=by
 obtain⟨css,X,Y,O,Z⟩:=x;have hl:eq css=n:=by rw[O.len,X]
 obtain⟨J,U,V⟩:=Y.cut L N hN (ys:=((css.drop L).take N).flatten) (by grind[q9,wR]);refine⟨J,U,(css.drop L).take N,by grind,V,(O.drop L).take N,fun d hd=>Z d (aaV (aaS hd))⟩
def nB{P:Program}{T:be}{w0:World}{ops:Ai}{Q:An}{rest rest':Aj}{n l l'}{K:PH}{hs:Ac}
  [hT:a8 P T] (k i) {d si ao n1 c1 b h xs} (c x) (h0:kE T ops n k rest l=some (d,si,(ao,n1,c1),(some ⟨b,0,none⟩,1,1),rest',l'))
  (Y:hs[0]?=some (pt b c.toArray si.elem)) (hi:hs[i]?=some h) (o:dD si.size si.elem R h ao n1 c1 xs) (Z:R c x) (hl:eq c=si.size) (X:∀u∈c,u.oneCell'=true) (hz:si.zero.cells.size=si.size) (V:0<si.size) (hb:(n1+1)*si.bytes<=2^47) (U:n1+1<=maxLen)
  (hk:∀N J O,dD si.size si.elem R O N (n1+1) J (xs++[x])->WL P w0 ops Q rest' n ((d,.slice N (n1+1) J)::l') K (hs.set i O)):WL P w0 ops Q rest n l K hs:=by
 obtain⟨css,q1,q2,q3,q4⟩:=o
 have xv:aj (pt b c.toArray si.elem) (some ⟨b,0,none⟩) 1 1 si.size c:=by
  simpa using(aJ.Re (b:=b) (c:=c.toArray) (e:=si.elem) (n:=1) (size:=si.size) (by simpa using hl) At).Ni
 refine GU k i h0 hi q2 (.inr ⟨0,Y⟩) xv hz V X qo hb U fun N J O o'=>hk N J O<|⟨css++[c],by simp[q1],.inl (by simpa using o'),q3.append ⟨Z,trivial⟩,?_⟩
 grind
end slz
def nh(ops:Ai)(z:Nat):Af->Nat->Bool
 |[],i=>Region.waitsFor .any ops z i
 |y::ys,i=>Region.waitsFor .any ops z y&&nh ops y ys i
def ET{ops:Ai}{L}(c:fS .any ops L){z i}(V:Region.waitsFor .any ops z i=true)(X:L.getD z false=true):L.getD i false=true:=by
 obtain⟨Y,N,e,U,J,O⟩:=Region.waitsFor_spec V;have:=c.2 z Y N X e U J
 rwa[O]at this
theorem AP{ops:Ai}{L}(c:fS .any ops L):∀(ys:Af) {z i:Nat},nh ops z ys i=true->L.getD z false=true->L.getD i false=true
 |[],z,i,J,N=>ET c J N
 |y::ys,z,i,J,N=>by
  simp only[nh,aaJ]at J;exact AP c ys J.2 (ET c J.1 N)
def vE{ops:Ai}{L i z}(c:fS .any ops L)(ys)(hi:L.getD i true=false)(J:nh ops z ys i=true):L.getD z false=false:=by
 grind[AP]
section path
variable {P:Program}{T:be}{w0:World}{ops:Ai}{Q:An}{plan plan':Af}{z:Nat}{listed listed':Al}{n:Nat}{l l':Sl}{K K0:PH}{hs A:Ac}
def P7(ys)[hT:a8 P T](J:Region.noSelect ops=true)(k){p d a v h}(h0:nY T ops n z k plan listed l=some (p,d,a,plan',listed',l'))(aa:nh ops z ys (p/2)=true)(hm:In K0 A h)(hc:co h a v)
  (hk:WA P w0 ops Q K0 A z plan' listed' n ((d,v)::l') K hs):WA P w0 ops Q K0 A z plan listed n l K hs:=by
 unfold nY at h0
 split at h0
 ·rename_i p' o r L' l2 hh
  split at h0
  ·rename_i dd t x hp hz hg hd V
   split at h0
   ·rename_i kd a' hb U hx;cases h1:kd.one with
    |false=>simp[h1]at h0
    |true=>
     simp only[h1,cond_true,aae,aah]at h0;obtain⟨rfl,rfl,rfl,rfl,rfl,rfl⟩:=h0;obtain⟨g1,g2⟩:=ki hh;refine Bd J k g1 ?_;have X:p'=2*(p' / 2):=by have:=aaF hp;omega
     rw[X];refine Bm g2 J hz hd hb (fun A' ha=>.inl ⟨gQ ha hg,fun w hw=>?_⟩) hk;obtain⟨L,O,Z,Y⟩:=hw;have N:=(Y (vE O ys Z aa)).cell hm hc;have h2:=pD (P:=P) U h1 N;simp only[execOp,V,ha.ev hx];simp[h2]
   simp at h0
  simp at h0
 simp at h0
def dA(ys)[hT:a8 P T](J:Region.noSelect ops=true)(k i:Nat){p d b off ty v c fr}(h0:nY T ops n z k plan listed l=some (p,d,⟨b,off,none⟩,plan',listed',l'))(N:nh ops z ys (p/2)=true)
  (hi:A[i]?=some (pt b c ty fr)) (hv:c[off]?=some v) (O:WA P w0 ops Q K0 A z plan' listed' n ((d,v)::l') K hs):WA P w0 ops Q K0 A z plan listed n l K hs:=
 P7 ys J k h0 N (.inr ⟨i,hi⟩) (co.pt hv) O
end path
end
section
def uo:Op->Bool
 |.move ..|.assign ..|.pick ..|.nilCheck ..|.extract ..|.fieldAddr ..|.makeFunc ..|.unOp .not ..=>true
 |.call {callee:=.builtin .len,..}|.call {callee:=.builtin .max,..}|.call {callee:=.builtin .min,..}=>true
 |_=>false
def rS(T:be)(ops:Ai)(n:Nat):Aj->Sl->Option (Aj×Sl)
 |[],l=>some ([],l)
 |o::r,l=>match o.dst with
  |none=>some (o::r,l)
  |some d=>match Nat.blt d n,fW ops l o.guard with
   |true,some true=>cond (uo o.op) (match iY T l o.op with
    |some v=>rS T ops n r ((d,v)::l)
    |none=>some (o::r,l)) (some (o::r,l))
   |true,some false=>rS T ops n r ((d,undef)::l)
   |_,_=>some (o::r,l)
def rU(T:be)(ops:Ai)(n z:Nat):Af->Al->Sl->Option (Af×Al×Sl)
 |[],L,l=>some ([],L,l)
 |p::r,L,l=>match Nat.beq (p%2) 0,Nat.beq (p/2) z,ops[p/2]? with
  |true,false,some o=>match o.dst with
   |some d=>match Nat.blt d n,fW ops l o.guard with
    |true,some true=>cond (uo o.op) (match iY T l o.op with
     |some v=>rU T ops n z r (L.setIfInBounds (p/2) true) ((d,v)::l)
     |none=>some (p::r,L,l)) (some (p::r,L,l))
    |true,some false=>rU T ops n z r (L.setIfInBounds (p/2) true) ((d,undef)::l)
    |_,_=>some (p::r,L,l)
   |none=>some (p::r,L,l)
  |_,_,_=>some (p::r,L,l)
section
variable {P:Program}{T:be}{w0:World}{ops:Ai}{Q:An}{rest rest':Aj}{n:Nat}{l l':Sl}{K K0:PH}{hs A:Ac}
def QV{α:Type}{x:α}{l}:(x::l)[0]?=some x:=rfl
def QU{α:Type}{a x:α}{l}:(a::x::l)[1]?=some x:=rfl
def Te{α:Type}{a b x:α}{l}:(a::b::x::l)[2]?=some x:=rfl
def T8{α:Type}{a b c x:α}{l}:(a::b::c::x::l)[3]?=some x:=rfl
def QT{α:Type}{a b c d x:α}{l}:(a::b::c::d::x::l)[4]?=some x:=rfl
def QS{α:Type}{a b c d e x:α}{l}:(a::b::c::d::e::x::l)[5]?=some x:=rfl
def QR{α:Type}{a b c d e f x:α}{l}:(a::b::c::d::e::f::x::l)[6]?=some x:=rfl
def QQ{α:Type}{a b c d e f g x:α}{l}:(a::b::c::d::e::f::g::x::l)[7]?=some x:=rfl
def QP{α:Type}{a b c d e f g h x:α}{l}:(a::b::c::d::e::f::g::h::x::l)[8]?=some x:=rfl
def pj{p:Prop}(h:p:=by first|exact QV|exact QU|exact Te|exact T8|exact QT|exact QS|exact QR|exact QQ|exact QP):p:=h
theorem WL.all[hT:a8 P T]:∀{rest:Aj} {l:Sl},rS T ops n rest l=some (rest',l')->WL P w0 ops Q rest' n l' K hs->WL P w0 ops Q rest n l K hs
 |[],l,h,J=>by
  unfold rS at h;simp only[aae,aah]at h;obtain⟨rfl,rfl⟩:=h;exact J
 |o::r,l,h,J=>by
  have st:some (o::r,l)=some (rest',l')->WL P w0 ops Q (o::r) n l K hs:=fun e=>by
   simp only[aae,aah]at e;obtain⟨rfl,rfl⟩:=e;exact J
  unfold rS at h
  split at h
  ·exact st h
  rename_i d N
  split at h
  ·rename_i hb hg;cases hs':uo o.op with
   |false=>rw[hs']at h;exact st h
   |true=>
    rw[hs']at h;simp only[cond_true]at h
    split at h
    ·rename_i v hv;exact WL.SG N hb hg hv (WL.all h J)
    exact st h
  ·rename_i hb hg;exact WL.SH N hb hg (WL.all h J)
  exact st h
def QF[hT:a8 P T]{i d b off ty:Nat}{v c fr}(h0:uY T ops n 0 rest l=some (d,⟨b,off,none⟩,rest',l'))(hi:hs[i]?=some (pt b c ty fr))(hv:c[off]?=some v)
  (J:WL P w0 ops Q rest' n ((d,v)::l') K hs):WL P w0 ops Q rest n l K hs:=aX _ i h0 hi hv J
def P3[hT:a8 P T]{i d t b ty:Nat}{c fr}(h0:uX T ops n 0 rest l=some (d,t,⟨b,0,none⟩,rest',l'))(hi:hs[i]?=some (pt b c ty fr))(hm:i7 P t c.size=true)
  (J:WL P w0 ops Q rest' n ((d,.agg c)::l') K hs):WL P w0 ops Q rest n l K hs:=fI _ i h0 hi hm J
def Qw[hT:a8 P T]{i b off ty v u c}(h0:zz T ops n 0 rest l=some (⟨b,off,none⟩,v,rest',l'))(hi:hs[i]?=some (pt b c ty))(N:c[off]?=some u)(hv:v.oneCell'=true)
  (J:WL P w0 ops Q rest' n l' K (hs.set i (pt b (c.setIfInBounds off v) ty))):WL P w0 ops Q rest n l K hs:=Ji _ i h0 hi N hv J
def PO[hT:a8 P T]{i t b ty}{c cs:Ah}(h0:uM T ops n 0 rest l=some (t,⟨b,0,none⟩,cs,rest',l'))(hi:hs[i]?=some (pt b c ty))(J:(P.info? t).map (·.size)=some cs.size)
  (O:cs.size=c.size) (N:cs.toList.all (·.oneCell')=true) (U:WL P w0 ops Q rest' n l' K (hs.set i (pt b cs ty))):WL P w0 ops Q rest n l K hs:=bA _ i h0 hi J O N U
variable {plan plan':Af}{z:Nat}{listed listed':Al}
theorem WA.all[hT:a8 P T](J:Region.noSelect ops=true):∀{plan:Af} {listed:Al} {l:Sl},rU T ops n z plan listed l=some (plan',listed',l')->WA P w0 ops Q K0 A z plan' listed' n l' K hs->WA P w0 ops Q K0 A z plan listed n l K hs
 |[],L,l,h,N=>by
  unfold rU at h;simp only[aae,aah]at h;obtain⟨rfl,rfl,rfl⟩:=h;exact N
 |p::r,L,l,h,N=>by
  have st:some (p::r,L,l)=some (plan',listed',l')->WA P w0 ops Q K0 A z (p::r) L n l K hs:=fun e=>by
   simp only[aae,aah]at e;obtain⟨rfl,rfl,rfl⟩:=e;exact N
  unfold rU at h
  split at h
  ·rename_i o hp V ho;have O:p=2*(p/2):=by have:=aaF hp;omega
   split at h
   ·rename_i d U
    split at h
    ·rename_i hb hg;cases hs':uo o.op with
     |false=>rw[hs']at h;exact st h
     |true=>
      rw[hs']at h;simp only[cond_true]at h
      split at h
      ·rename_i v hv;rw[O];exact WA.pure ho J V U hb (.inl ⟨hg,hv⟩) (WA.all J h N)
      exact st h
    ·rename_i hb hg;rw[O];exact WA.pure ho J V U hb (.inr ⟨hg,I⟩) (WA.all J h N)
    exact st h
   exact st h
  exact st h
def PA[hT:a8 P T](J:Region.noSelect ops=true)(N:WQ w0 Q .normal n l K hs):WA P w0 ops Q K0 A z [] listed n l K hs:=aI J 0 rfl N
def P8[hT:a8 P T](J:Region.noSelect ops=true){i p d b off ty:Nat}{v c fr}(h0:nY T ops n z 0 plan listed l=some (p,d,⟨b,off,none⟩,plan',listed',l'))(N:cond (Nat.blt z ops.size) (Region.waitsFor .any ops z (p/2)) true=true)
  (hi:A[i]?=some (pt b c ty fr)) (hv:c[off]?=some v) (O:WA P w0 ops Q K0 A z plan' listed' n ((d,v)::l') K hs):WA P w0 ops Q K0 A z plan listed n l K hs:=bR J _ i h0 N hi hv O
def Py[hT:a8 P T](J:Region.noSelect ops=true){i p d t b ty:Nat}{c fr}(h0:mu T ops n z 0 plan listed l=some (p,d,t,⟨b,0,none⟩,plan',listed',l'))(N:cond (Nat.blt z ops.size) (Region.waitsFor .any ops z (p/2)) true=true)
  (hi:A[i]?=some (pt b c ty fr)) (hm:i7 P t c.size=true) (O:WA P w0 ops Q K0 A z plan' listed' n ((d,.agg c)::l') K hs):WA P w0 ops Q K0 A z plan listed n l K hs:=ln J _ i h0 N hi hm O
def PD[hT:a8 P T](J:(Region.noSelect ops&&oA ops plan listed)=true){o}(h0:zr T ops n z 0 plan listed l=some (o,plan',listed',l'))
  (N:WL P w0 ops (fun e a w=>gj .any ops plan' listed'=true->fS .any ops listed'->lw P w0 ops Q K0 A z plan' listed' e a w) [o] n l' K hs):WA P w0 ops Q K0 A z plan listed n l K hs:=aB J _ h0 N
inductive oX (hs:Ac):Af->Ac->Prop
 |nil:oX hs [] []
 |cons {i:Nat} {h:PH} {ix:Af} {A:Ac} (e:hs[i]?=some h) (p:oX hs ix A):oX hs (i::ix) (h::A)
def oX.sub{ix}(p:oX hs ix A):∀h∈A,h∈hs:=by
 induction p with
 |nil=>simp
 |cons e p J=>exact List.forall_mem_cons.2 ⟨aam e,J⟩
def bC{id}{o:Aj}(ix z pl)(h:WA P w0 o.toArray Q K A z pl (Array.replicate o.toArray.size false) n l K hs)(J:oX hs ix A:=by first|exact .nil|exact .cons rfl .nil|exact .cons rfl (.cons rfl .nil)|exact .cons rfl (.cons rfl (.cons rfl .nil))|exact .cons rfl (.cons rfl (.cons rfl (.cons rfl .nil)))|exact .cons rfl (.cons rfl (.cons rfl (.cons rfl (.cons rfl .nil))))|exact .cons rfl (.cons rfl (.cons rfl (.cons rfl (.cons rfl (.cons rfl .nil)))))|exact .cons rfl (.cons rfl (.cons rfl (.cons rfl (.cons rfl (.cons rfl (.cons rfl .nil)))))))(hm:P.follows .mixedOrders=true:=by kernel_rfl)
  (N:(gj .any o.toArray pl (Array.replicate o.toArray.size false)&&Nat.beq (eq pl) o.toArray.size)=true:=by kernel_rfl):WC P w0 (.region id o.toArray true) Q n l K hs:=bO A z pl J.sub hm N h
def oJ{r ds id}{o:Aj}(ix z pl)(h:WA P w0 o.toArray (SD ds Q) K A z pl (Array.replicate o.toArray.size false) n l K hs)(J:oX hs ix A:=by first|exact .nil|exact .cons rfl .nil|exact .cons rfl (.cons rfl .nil)|exact .cons rfl (.cons rfl (.cons rfl .nil))|exact .cons rfl (.cons rfl (.cons rfl (.cons rfl .nil)))|exact .cons rfl (.cons rfl (.cons rfl (.cons rfl (.cons rfl .nil))))|exact .cons rfl (.cons rfl (.cons rfl (.cons rfl (.cons rfl (.cons rfl .nil)))))|exact .cons rfl (.cons rfl (.cons rfl (.cons rfl (.cons rfl (.cons rfl (.cons rfl .nil)))))))(hm:P.follows .mixedOrders=true:=by kernel_rfl)
  (N:(gj .any o.toArray pl (Array.replicate o.toArray.size false)&&Nat.beq (eq pl) o.toArray.size)=true:=by kernel_rfl):WX P w0 r ds (.region id o.toArray true) Q n l K hs:=se A z pl J.sub hm N h
inductive qf:Nat->PH->Ac->Ac->Prop
 |here {x y:PH} {l:Ac} (e:y=x):qf 0 x (y::l) (x::l)
 |there {i:Nat} {x a:PH} {l l':Ac} (s:qf i x l l'):qf (i+1) x (a::l) (a::l')
def qf.eq{i x l l'}(s:qf i x l l'):l=l':=by
 induction s with
 |here e=>rw[e]
 |there s J=>rw[J]
def WL.h{hs'}(i x)(J:WL P w0 ops Q rest n l K hs')(s:qf i x hs hs':=by first|exact .here rfl|exact .there (.here rfl)|exact .there (.there (.here rfl))|exact .there (.there (.there (.here rfl)))|exact .there (.there (.there (.there (.here rfl))))|exact .there (.there (.there (.there (.there (.here rfl)))))|exact .there (.there (.there (.there (.there (.there (.here rfl))))))|exact .there (.there (.there (.there (.there (.there (.there (.here rfl)))))))|exact .there (.there (.there (.there (.there (.there (.there (.there (.here rfl))))))))|exact .there (.there (.there (.there (.there (.there (.there (.there (.there (.here rfl)))))))))|exact .there (.there (.there (.there (.there (.there (.there (.there (.there (.there (.here rfl))))))))))|exact .there (.there (.there (.there (.there (.there (.there (.there (.there (.there (.there (.here rfl)))))))))))|exact .there (.there (.there (.there (.there (.there (.there (.there (.there (.there (.there (.there (.here rfl))))))))))))):WL P w0 ops Q rest n l K hs:=by
 rw[s.eq];exact J
abbrev Ez:=@WL.h
def ent{f fn c args R}(N:P.funcs[f]?=some fn)(h:WC P w0 c (bodyPost P fn (fU w0 R)) n (params 0 args) K hs)(J:jD P f=true:=by kernel_rfl)(hb:fn.body=some c:=by exact rfl)(hn:fn.ntmps=n:=by exact rfl)(hl:Nat.ble (eq args) n=true:=by exact rfl):
  Ct P w0 f args K hs R:=enter N J hb hn hl h
def GI{f fn c args R}(N:P.funcs[f]?=some fn)(h:WX P w0 none [] c (bodyPostM (fz none) 0 P fn (fU w0 R)) n (params 0 args) K hs)(J:jD P f=true:=by kernel_rfl)(hb:fn.body=some c:=by exact rfl)(hn:fn.ntmps=n:=by exact rfl)(hl:Nat.ble (eq args) n=true:=by exact rfl):
  Ct P w0 f args K hs R:=nX N J hb hn hl h
def QL(h:WL P w0 ops Q rest n l K hs):WL P w0 ops Q rest n l K hs:=h
def QN(h:WA P w0 ops Q K0 A z plan listed n l K hs):WA P w0 ops Q K0 A z plan listed n l K hs:=h
def QM{c}(h:WC P w0 c Q n l K hs):WC P w0 c Q n l K hs:=h
def QK{e}(h:WQ w0 Q e n l K hs):WQ w0 Q e n l K hs:=h
def QJ{r ds c}(h:WX P w0 r ds c Q n l K hs):WX P w0 r ds c Q n l K hs:=h
def QI{ds e}(h:dw ds w0 Q e n l K hs):dw ds w0 Q e n l K hs:=h
def au{G J:Prop}(x:J)(h:J->G:=by(intro x;(repeat (first|((with_reducible refine QL ?_);first|with_reducible refine bQ (.inl qk) ?_|with_reducible refine aP Q8 rfl ?_|(refine WL.all rfl ?_;first|with_reducible refine nl ?_|refine QF rfl (by exact pj) (by exact rfl) ?_|refine Qw rfl (by exact pj) (by exact rfl) (by exact rfl) ?_|refine P3 rfl (by exact pj) qk ?_|refine PO rfl (by exact pj) qk (by exact rfl) (by exact rfl) ?_))|((with_reducible refine QK ?_);with_reducible first|refine th ?_|refine dx ?_|refine bl ?_|refine rT ?_|refine rB ?_|refine xt ?_|refine xb ?_|refine xn rfl ?_)|((with_reducible refine QM ?_);first|with_reducible refine sq ?_|with_reducible refine rg ?_|with_reducible refine sk ?_|with_reducible refine bk ?_|with_reducible refine rt ?_|with_reducible refine ex ?_|refine dk rfl ?_|refine bP rfl ?_)|((with_reducible refine QN ?_);refine WA.all qk I ?_;first|with_reducible refine PA qk ?_|refine P8 qk rfl qk (by exact pj) (by exact rfl) ?_|refine PD qk rfl ?_|refine Py qk rfl qk (by exact pj) qk ?_|refine dldt0 qk rfl qk (by exact pj) (by exact rfl) ?_)|((with_reducible refine QI ?_);with_reducible first|refine du ?_|refine l6 ?_|refine qw ?_|refine qx ?_|refine o8 ?_|refine vg ?_|refine xnX rfl ?_)|((with_reducible refine QJ ?_);first|with_reducible refine df ?_|with_reducible refine eW ?_|with_reducible refine mH ?_|with_reducible refine kO ?_|with_reducible refine lu ?_|with_reducible refine vp ?_|refine sr rfl ?_|refine su rfl ?_)));exact x)):G:=h x
def cP{N:Prop}{f fn c args R}(O:P.funcs[f]?=some fn)(x:N)(J:jD P f=true:=by kernel_rfl)(hb:fn.body=some c:=by exact rfl)(hn:fn.ntmps=n:=by exact rfl)(hl:Nat.ble (eq args) n=true:=by exact rfl)(h:N->WC P w0 c (bodyPost P fn (fU w0 R)) n (params 0 args) K hs:=by(intro x;exact au x)):
  Ct P w0 f args K hs R:=enter O J hb hn hl (h x)
end
end
section
theorem AY:∀(b:Aa) (i J:Nat),i<=9->(fC i J b).2.2=0->∃(m:Nat) (r:Aa),b=aK m++r/\(fC i J b).1=J+m*128^i/\(fC i J b).2.1=i+eq (aK m)/\(0<i->0<m)
 |[],i,J,hi,h=>by simp[fC]at h
 |c::r,i,J,hi,h=>by
  have Y:=c.toNat_lt;rw[sT]at h⊢
  by_cases N:i=9/\1<c.toNat
  ·rw[aab N]at h;simp at h
  rw[aaa N]at h⊢
  by_cases O:128<=c.toNat
  ·rw[aab O]at h⊢;obtain⟨m,X,hb,hn,V,hp⟩:=AY r (i+1) (J+c.toNat%128*128^i) qo h;have hm:=hp qo;refine⟨c.toNat%128+128*m,X,?_,?_,?_,fun _=>by omega⟩
   ·rw[nQ qo,show(c.toNat%128+128*m)/128=m from qo,show(c.toNat%128+128*m)%128+128=c.toNat from qo,hb]
    simp
   ·grind
   rw[V,nQ (n:=c.toNat%128+128*m) qo,show(c.toNat%128+128*m)/128=m from qo,aas];omega
  rw[aaa O]at h⊢
  by_cases U:c.toNat=0/\0<i
  ·rw[aab U]at h;simp at h
  rw[aaa U]at h⊢;refine⟨c.toNat,r,?_,?_,?_,fun _=>by omega⟩
  all_goals simp_all[pN,aaU]
def pH{m b}(h:(aG m (b,0)).2.2=0):b=aK (aG m (b,0)).1++(aG m (b,0)).2.1/\(aG m (b,0)).1<=m:=by
 unfold aG at h⊢;simp only[if_true]at h⊢
 by_cases J:(fC 0 0 b).2.2=0
 ·rw[aab J]at h⊢
  by_cases N:m<(fC 0 0 b).1
  ·rw[aab N]at h;simp at h
  rw[aaa N];obtain⟨k,r,hb,hn,O,_⟩:=AY b 0 0 qo J
  simp_all
 rw[aaa J]at h;exact absurd h J
theorem AX:∀(k m i J:Nat) (r:Aa),m<128^k->i<=9->(0<i->0<m)->J+m*128^i<2^64->fC i J (aK m++r)=(J+m*128^i,i+eq (aK m),0)
 |0,m,i,J,r,V,hi,hp,hb=>by
  have:m=0:=qo
  subst this;rw[pN qo];have:¬0<i:=fun h=>by omega
  obtain rfl:i=0:=qo
  rfl
 |k+1,m,i,J,r,V,hi,hp,hb=>by
  have X:i=9->m<=1:=fun h=>by grind
  by_cases hm:m<128
  ·rw[pN hm];have e:(UInt8.ofNat m).toNat=m:=abX (acg (m:=256) qo Q9);simp only[List.singleton_append,sT,e,abd]
   grind
  rw[nQ hm];have e:(UInt8.ofNat (m%128+128)).toNat=m%128+128:=abX (acg (m:=256) qo Q9);simp only[aaL,sT,e,aas]
  have U:i<9:=by
   omega
  rw[aaa qo,aab qo,show(m%128+128)%128=m%128 from qo];have O:m=m%128+128*(m/128):=qo
  have N:J+m%128*128^i+m/128*128^(i+1)=J+m*128^i:=by
   grind
  rw[AX k (m/128) (i+1) (J+m%128*128^i) r qo qo (fun _=>by omega) (by rw[N];exact hb),N]
  grind
theorem jQ{m n}(r)(hn:n<2^64)(hm:n<=m):aG m (aK n++r,0)=(n,(r,0)):=by
 have h:=AX 10 n 0 0 r qo qo (fun h=>by omega) qo
 simp_all[aG]
def sU{most x}(r)(J:eq x<2^64)(hm:(eq x:Int)<=most):bW most (cJ x++r,0)=(x,(r,0)):=by
 have h:=jQ (m:=most.toNat) (n:=eq x) (x++r) J qo
 simp_all[bW,cJ]
def eF:Aa->Nat
 |[]=>0
 |c::r=>c.toNat+256*eF r
def JX(m b e):eq (bW m (b,e)).1<=eq b/\eq (bW m (b,e)).2.1<=eq b:=by
 have h:=(pI m.toNat b e).2
 grind[bW]
theorem ui:∀(l:Aa) (k:Nat),eq l<=k->eF l<256^k
 |[],k,_=>by simp[Nat.pow_pos,eF]
 |c::l,0,h=>by simp at h
 |c::l,k+1,h=>by
  have:=ui l k (by simpa using h);have J:=c.toNat_lt;rw[eF,ach];omega
end
end Go.En
