/-
  Part 1 of what the proof needs (texts En Ed Cs Zc Zd Cp Ms Tab Cw Cr Cm Ck Du Ew Dx Co Cn Cg Na).
-/
import Derived.WalkKit
import Derived.ProofKit
import Derived.Deep.LoopGhost
import Derived.OrdersHeld
import Derived.StillTail
import Derived.Laws.BytesArg
import Derived.Lib.ConvBytes
import Derived.Laws.StructEq
import Derived.Test.YtneeeblghijmgaaGreatRows
import Derived.OpenShut
import Derived.JoinedCond
import Derived.Carry
import Derived.Deep.Slices
import Derived.Deep.Strs
import Derived.KernelRfl
set_option linter.unusedSectionVars false
set_option linter.unusedSimpArgs false
set_option linter.unusedVariables false
namespace Go.En
open Go.Proofs Go.Proofs.YtneeeblghijmgaaGreat
theorem I {α : Sort _} {a : α} : a = a := rfl
theorem qk {p : Prop} (h : p := by kernel_rfl) : p := h
theorem qo {p : Prop} (h : p := by omega) : p := h
section
abbrev Sl:=List (Nat×Value)
def look:Sl->Nat->Option Value
 | [],_=>none
 | (k,v)::r,t=>cond (Nat.beq k t) (some v) (look r t)
structure Ag (n:Nat) (l:Sl) (a:Act):Prop where
 size:a.tmps.size=n
 defers:a.defers=[]
 slot:∀ t v,look l t=some v->a.tmps[t]?=some v
theorem Ag.put{n:Nat}{l:Sl}{a:Act}{d:Nat}{v:Value}(h:Ag n l a)(hd:Nat.blt d n=true):
  Ag n ((d,v)::l) (a.put (some d) v):=by
 have hd':d<n:=Nat.le_of_ble_eq_true hd;refine ⟨by simp[Act.put,h.size],h.defers,fun t u hu=>?_⟩;simp only[look] at hu;cases e:Nat.beq d t with
 | true=>
  have:d=t:=Nat.eq_of_beq_eq_true e;subst this;rw[e] at hu;simp only[cond_true,Option.some.injEq] at hu;subst hu;simp[Act.put,h.size,hd']
 | false=>
  rw[e] at hu;simp only[cond_false] at hu;have hne:d≠t:=Nat.ne_of_beq_eq_false e;rw[<-h.slot t u hu];simp[Act.put,hne]
def ev(l:Sl):Operand->Option Value
 | .tmp t=>look l t
 | .const v=>some v
 | .global g=>some (.pointer (some ⟨g,0,none⟩))
 | .func f=>some (.func (.func f) #[] #[])
theorem Ag.ev{n:Nat}{l:Sl}{a:Act}(h:Ag n l a){x:Operand}{v:Value}(hx:ev l x=some v):a.eval x=v:=by
 cases x with
 | tmp t=>simp[Act.eval,h.slot t v hx]
 | const u=>simpa[En.ev,Act.eval] using hx
 | global g=>simpa[En.ev,Act.eval] using hx
 | func f=>simpa[En.ev,Act.eval] using hx
def Sub(l:Sl):Sl->Prop
 | []=>True
 | (k,v)::r=>look l k=some v/\Sub l r
theorem Sub.look{l:Sl}:∀ {l2:Sl},Sub l l2->∀ t v,look l2 t=some v->look l t=some v
 | [],_,t,v,h=>by simp[En.look] at h
 | (k,u)::r,hs,t,v,h=>by
  simp only[En.look] at h;cases e:Nat.beq k t with
  | true=>
   have:k=t:=Nat.eq_of_beq_eq_true e;subst this;rw[e] at h;simp only[cond_true,Option.some.injEq] at h;subst h;exact hs.1
  | false=>
   rw[e] at h;exact Sub.look hs.2 t v h
theorem Ag.sub{n:Nat}{l l2:Sl}{a:Act}(h:Ag n l a)(hs:Sub l l2):Ag n l2 a:=
 ⟨h.size,h.defers,fun t v ht=>h.slot t v (hs.look t v ht)⟩
abbrev PH:=Nat->Option Obj
structure Sat (w0 w:World) (K:PH) (hs:List PH):Prop where
 os:w.os=w0.os
 tape:w.tape=w0.tape
 output:w.output=w0.output
 size:w0.heap.size<=w.heap.size
 imm:∀ b o,K b=some o->w.heap[b]?=some o
 own:∀ (i:Nat) h,hs[i]?=some h->∀ b o,h b=some o->w.heap[b]?=some o
 apart:∀ (i:Nat) h,hs[i]?=some h->∀ b o,h b=some o->K b=none
 sep:∀ (i j:Nat) h h',hs[i]?=some h->hs[j]?=some h'->i≠j->∀ b o,h b=some o->h' b=none
theorem Sat.drew{w0 w:World}{K:PH}{hs:List PH}(h:Sat w0 w K hs):Sat w0 w.drew K hs:=
 ⟨h.os,h.tape,h.output,h.size,h.imm,h.own,h.apart,h.sep⟩
theorem Sat.dropHead{w0 w:World}{K:PH}{h:PH}{hs:List PH}(s:Sat w0 w K (h::hs)):Sat w0 w K hs:=
 ⟨s.os,s.tape,s.output,s.size,s.imm,fun i x hx=>s.own (i+1) x (by simpa using hx),fun i x hx=>s.apart (i+1) x (by simpa using hx),
  fun i j x y hx hy hij=>s.sep (i+1) (j+1) x y (by simpa using hx) (by simpa using hy) qo⟩
def WL(P:Program)(w0:World)(ops:Array Oper)(Q:Exit->Act->World->Prop)(rest:List Oper)(n:Nat)(l:Sl)(K:PH)(hs:List PH):Prop:=
 ∀ a w,Ag n l a->Sat w0 w K hs->wpList P ops Q rest a w
def WC(P:Program)(w0:World)(c:Code)(Q:Exit->Act->World->Prop)(n:Nat)(l:Sl)(K:PH)(hs:List PH):Prop:=
 ∀ a w,Ag n l a->Sat w0 w K hs->c.wp P Q a w
def WQ(w0:World)(Q:Exit->Act->World->Prop)(e:Exit)(n:Nat)(l:Sl)(K:PH)(hs:List PH):Prop:=
 ∀ a w,Ag n l a->Sat w0 w K hs->Q e a w
section code
variable {P:Program} {w0:World} {Q:Exit->Act->World->Prop} {n:Nat} {l:Sl} {K:PH} {hs:List PH}
theorem sq{x y:Code}(h:WC P w0 x (Exit.then (y.wp P Q) Q) n l K hs):WC P w0 (.seq x y) Q n l K hs:=
 fun a w ha hw=>wp_seq (h a w ha hw)
theorem rg{id:Nat}{o:List Oper}(h:WL P w0 o.toArray Q o n l K hs):WC P w0 (.region id o.toArray false) Q n l K hs:=
 fun a w ha hw=>wp_region_lit (h a w ha hw)
theorem bk{id:Nat}{c:Code}(h:WC P w0 c (Exit.inBlock id Q) n l K hs):WC P w0 (.block id c) Q n l K hs:=
 fun a w ha hw=>wp_block (h a w ha hw)
theorem ex{id:Nat}(h:WQ w0 Q (.exit id) n l K hs):WC P w0 (.exit id) Q n l K hs:=
 fun a w ha hw=>wp_exit (h a w ha hw)
theorem rt(h:WQ w0 Q .ret n l K hs):WC P w0 .ret Q n l K hs:=
 fun a w ha hw=>wp_ret (h a w ha hw)
theorem sk(h:WQ w0 Q .normal n l K hs):WC P w0 .skip Q n l K hs:=
 fun a w ha hw=>wp_skip (h a w ha hw)
theorem ifT{c:Operand}{x y:Code}(hc:ev l c=some (.bool true))(h:WC P w0 x Q n l K hs):WC P w0 (.cond c x y) Q n l K hs:=
 fun a w ha hw=>wp_cond_true (ha.ev hc) (h a w ha hw)
theorem ifF{c:Operand}{x y:Code}(hc:ev l c=some (.bool false))(h:WC P w0 y Q n l K hs):WC P w0 (.cond c x y) Q n l K hs:=
 fun a w ha hw=>wp_cond_false (ha.ev hc) (h a w ha hw)
theorem ifB{c:Operand}{x y:Code}{b:Bool}(hc:ev l c=some (.bool b))(h:b=true->WC P w0 x Q n l K hs)(h':b=false->WC P w0 y Q n l K hs):
  WC P w0 (.cond c x y) Q n l K hs:=
 fun a w ha hw=>wp_cond_split (ha.ev hc) (fun e=>h e a w ha hw) (fun e=>h' e a w ha hw)
theorem nl{ops:Array Oper}(h:WQ w0 Q .normal n l K hs):WL P w0 ops Q [] n l K hs:=fun a w ha hw=>wpList_nil (h a w ha hw)
theorem th{y:Code}{Q':Exit->Act->World->Prop}(h:WC P w0 y Q n l K hs):WQ w0 (Exit.then (y.wp P Q) Q') .normal n l K hs:=h
theorem bl{id:Nat}(h:WQ w0 Q .normal n l K hs):WQ w0 (Exit.inBlock id Q) .normal n l K hs:=h
theorem xt{id:Nat}{N:Act->World->Prop}(h:WQ w0 Q (.exit id) n l K hs):WQ w0 (Exit.then N Q) (.exit id) n l K hs:=h
theorem xb{id:Nat}(h:WQ w0 Q .normal n l K hs):WQ w0 (Exit.inBlock id Q) (.exit id) n l K hs:=fun a w ha hw=>by
 simpa[Exit.inBlock] using h a w ha hw
theorem xn{id id':Nat}(hne:Nat.beq id' id=false)(h:WQ w0 Q (.exit id') n l K hs):WQ w0 (Exit.inBlock id Q) (.exit id') n l K hs:=fun a w ha hw=>by
 have:id'≠id:=Nat.ne_of_beq_eq_false hne;simpa[Exit.inBlock,this] using h a w ha hw
theorem rT{N:Act->World->Prop}(h:WQ w0 Q .ret n l K hs):WQ w0 (Exit.then N Q) .ret n l K hs:=h
theorem rB{id:Nat}(h:WQ w0 Q .ret n l K hs):WQ w0 (Exit.inBlock id Q) .ret n l K hs:=h
theorem loop{σ:Type}{body:Code}(F:σ->Sl)(HK:σ->PH)(H:σ->List PH)(J:σ->Prop)(μ:σ->Nat)(x0:σ)(h0:J x0)(hF:Sub l (F x0))(hK:K=HK x0)(hH:hs=H x0)
  (round:∀ x,J x->WC P w0 body (Exit.then (fun a w=>∃ x',J x'/\μ x'<μ x/\Ag n (F x') a/\Sat w0 w (HK x') (H x')) Q) n (F x) (HK x) (H x)):
  WC P w0 (.loop body) Q n l K hs:=fun a w ha hw=>by
 subst hK;subst hH;refine wp_loop_ghost (fun m a w=>∃ x,J x/\μ x=m/\Ag n (F x) a/\Sat w0 w (HK x) (H x)) (μ x0) ⟨x0,h0,I,ha.sub hF,hw⟩ ?_;rintro m a w ⟨x,hJ,rfl,hA,hS⟩;refine wp_mono (round x hJ a w hA hS) ?_;intro e a' w' hq;cases e with
 | normal=>
  obtain ⟨x',h1,h2,h3,h4⟩:=hq;exact ⟨μ x',h2,x',h1,I,h3,h4⟩
 | exit id=>exact hq
 | goto l=>exact hq
 | ret=>exact hq
 | panic ch=>exact hq
 | outgrown=>exact hq
theorem again{σ:Type}{F:σ->Sl}{HK:σ->PH}{H:σ->List PH}{J:σ->Prop}{μ:σ->Nat}{x:σ}{Q':Exit->Act->World->Prop}(x':σ)(hF:Sub l (F x'))(hK:K=HK x')(hH:hs=H x')
  (h1:J x') (h2:μ x'<μ x):WQ w0 (Exit.then (fun a w=>∃ x',J x'/\μ x'<μ x/\Ag n (F x') a/\Sat w0 w (HK x') (H x')) Q') .normal n l K hs:=fun a w ha hw=>by
 subst hK;subst hH;exact ⟨x',h1,h2,ha.sub hF,hw⟩
end code
def callable(P:Program)(f:FuncId):Bool:=match P.funcs[f]? with
 | some fn => fn.body.isSome && !(fn.name == "runtime.NumGoroutine")
 | none=>false
def endR(w0:World)(R:Value->PH->List PH->Prop):Ending->World->Prop:=fun e w'=>∃ v K' hs',e=.returned v/\R v K' hs'/\Sat w0 w' K' hs'
def Ct(P:Program)(w0:World)(f:FuncId)(args:List Value)(K:PH)(hs:List PH)(R:Value->PH->List PH->Prop):Prop:=
 callable P f=true/\∀ w,Sat w0 w K hs->Calls P f args.toArray w (endR w0 R)
theorem Ct.mono{P:Program}{w0:World}{f:FuncId}{args:List Value}{K:PH}{hs:List PH}{R R':Value->PH->List PH->Prop}(h:Ct P w0 f args K hs R)(hr:∀ v K' hs',R v K' hs'->R' v K' hs'):
  Ct P w0 f args K hs R':=
 ⟨h.1,fun w hw=>(h.2 w hw).mono fun _ _ ⟨v,K',hs',h1,h2,h3⟩=>⟨v,K',hs',h1,hr _ _ _ h2,h3⟩⟩
def params:Nat->List Value->Sl
 | _,[]=>[]
 | i,v::r=>(i,v)::params (i+1) r
theorem look_params:∀ (args:List Value) (i t:Nat) (v:Value),look (params i args) t=some v->i<=t/\args[t-i]?=some v
 | [],i,t,v,h=>by simp[params,look] at h
 | u::r,i,t,v,h=>by
  simp only[params,look] at h;cases e:Nat.beq i t with
  | true=>
   have:i=t:=Nat.eq_of_beq_eq_true e;subst this;rw[e] at h;simp only[cond_true,Option.some.injEq] at h;simp[h]
  | false=>
   rw[e] at h;obtain ⟨h1,h2⟩:=look_params r (i+1) t v h;refine ⟨by omega,?_⟩;rw[show t-i=(t-(i+1))+1 from by omega];simpa using h2
theorem enter{P:Program}{w0:World}{f:FuncId}{fn:Func}{c:Code}{n:Nat}{args:List Value}{K:PH}{hs:List PH}{R:Value->PH->List PH->Prop}
  (hf:P.funcs[f]?=some fn) (hcal:callable P f=true) (hb:fn.body=some c) (hn:fn.ntmps=n) (hl:Nat.ble args.length n=true)
  (h:WC P w0 c (bodyPost P fn (endR w0 R)) n (params 0 args) K hs):Ct P w0 f args K hs R:=by
 refine ⟨hcal,fun w hw=>calls_of_wp hf hb (h _ w ⟨?_,I,?_⟩ hw)⟩
 ·have:=Nat.le_of_ble_eq_true hl;simp[hn];omega
 ·intro t v ht;obtain ⟨h1,h2⟩:=look_params args 0 t v ht;have h3:args[t]?=some v:=by simpa using h2
  have h4:t<args.length:=(List.getElem?_eq_some_iff.1 h3).1;have h5:args[t]=v:=by rw[List.getElem?_eq_getElem h4] at h3;exact Option.some.inj h3
  simp[Array.getElem?_append,h4,h5]
section ret
variable {P:Program} {w0:World} {fn:Func} {R:Value->PH->List PH->Prop} {n:Nat} {l:Sl} {K:PH} {hs:List PH}
theorem ret0(hr:fn.results=#[])(h:R (.tuple #[]) K hs):WQ w0 (bodyPost P fn (endR w0 R)) .ret n l K hs:=
 fun _ _ ha hw=>bodyPost_ret (results_none hr _ _ _) ha.defers ⟨_,_,_,rfl,h,hw⟩
theorem end0(hr:fn.results=#[])(h:R (.tuple #[]) K hs):WQ w0 (bodyPost P fn (endR w0 R)) .normal n l K hs:=
 fun _ _ ha hw=>bodyPost_end (results_none hr _ _ _) ha.defers ⟨_,_,_,rfl,h,hw⟩
theorem ret1{t:Nat}{v:Value}(hr:fn.results=#[.tmp t])(hv:look l t=some v)(h:R v K hs):WQ w0 (bodyPost P fn (endR w0 R)) .ret n l K hs:=
 fun _ _ ha hw=>bodyPost_ret (results_tmp hr _ _ _) ha.defers ⟨_,_,_,rfl,by simpa[ha.slot t v hv] using h,hw⟩
theorem ret2{t u:Nat}{v x:Value}(hr:fn.results=#[.tmp t,.tmp u])(hv:look l t=some v)(hx:look l u=some x)(h:R (.tuple #[v,x]) K hs):WQ w0 (bodyPost P fn (endR w0 R)) .ret n l K hs:=
 fun _ _ ha hw=>bodyPost_ret (results_tmp2 hr _ _ _) ha.defers ⟨_,_,_,rfl,by simpa[ha.slot t v hv,ha.slot u x hx] using h,hw⟩
theorem ret3{t u s:Nat}{v x y:Value}(hr:fn.results=#[.tmp t,.tmp u,.tmp s])(hv:look l t=some v)(hx:look l u=some x)(hy:look l s=some y)(h:R (.tuple #[v,x,y]) K hs):
  WQ w0 (bodyPost P fn (endR w0 R)) .ret n l K hs:=
 fun _ _ ha hw=>bodyPost_ret (v:=.tuple #[v,x,y]) (by simp[results,hr,ha.slot t v hv,ha.slot u x hx,ha.slot s y hy,go_sem]) ha.defers ⟨_,_,_,rfl,h,hw⟩
end ret
def gOK(ops:Array Oper)(l:Sl):Option (Nat×Bool)->Option Bool
 | none=>some true
 | some (j,want)=>match ops[j]? with
  | some o=>match o.dst with
   | some d=>match look l d with
    | some (.bool b)=>some (b == want)
    | some (.tuple _)=>some false
    | _=>none
   | none=>none
  | none=>none
theorem gOK_wanted{ops:Array Oper}{n:Nat}{l:Sl}{a:Act}{o:Oper}{b:Bool}(ha:Ag n l a)(h:gOK ops l o.guard=some b):Region.wanted o (yielded ops a.tmps)=b:=by
 unfold gOK at h;unfold Region.wanted
 split at h
 ·rename_i e;simp[e] at *;exact h
 ·rename_i j want e;rw[e];simp only;cases hj:ops[j]? with
  | none=>simp[hj] at h
  | some oj=>
   simp only[hj] at h;cases hd:oj.dst with
   | none=>simp[hd] at h
   | some d=>
    simp only[hd] at h;cases hl:look l d with
    | none=>simp[hl] at h
    | some v=>
     simp only[hl] at h;have h4:=ha.slot d _ hl;cases v <;> simp at h
     ·simp[yielded,hj,hd,h4,<-h]
     ·simp[yielded,hj,hd,h4,<-h]
inductive UK where
 | int (k:IntKind)|bool|str|slice|ptr|map|fn|other
def UK.fits:UK->TypeDesc->Bool
 | .int k,.int k'=>k == k'
 | .bool,.bool=>true
 | .str,.string=>true
 | .slice,.slice _=>true
 | .ptr,.pointer _=>true
 | .map,.map _ _=>true
 | .fn,.func _ _ _=>true
 | .other,_=>true
 | _,_=>false
def asc{α:Type}:List (Nat×α)->Nat->Option α
 | [],_=>none
 | (k,v)::r,t=>cond (Nat.beq k t) (some v) (asc r t)
theorem asc_mem{α:Type}:∀ (l:List (Nat×α)) (t:Nat) (v:α),asc l t=some v->(t,v)∈l
 | [],_,_,h=>by simp[asc] at h
 | (k,u)::r,t,v,h=>by
  simp only[asc] at h;cases e:Nat.beq k t with
  | true=>
   have:k=t:=Nat.eq_of_beq_eq_true e;subst this;rw[e] at h;simp only[cond_true,Option.some.injEq] at h;simp[h]
  | false=>
   rw[e] at h;exact List.mem_cons_of_mem _ (asc_mem r t v h)
structure SlI where
 elem:Nat
 size:Nat
 bytes:Nat
 zero:Value
structure Tab where
 kinds:List (Nat×UK)
 flds:List (Nat×Nat)
 sls:List (Nat×SlI)
def UK.one:UK->Bool
 | .other=>false
 | _=>true
def Tab.kindOK(P:Program)(x:Nat×UK):Bool:=match P.underlying x.1 with
 | some d=>x.2.fits d && (!x.2.one || (match P.info? x.1 with|some i=>i.size == 1|none=>false))
 | none=>false
def slInfo(P:Program)(t:Nat):Option SlI:=match P.underlying t with
 | some (.slice e)=>match P.info? e with
  | some i=>match i.zero with
   | some z=>some ⟨e,i.size,i.bytes,z⟩
   | none=>none
  | none=>none
 | _=>none
def Tab.fldOK(P:Program)(x:Nat×Nat):Bool:=match P.underlying (x.1 / 64) with
 | some (.struct fs)=>match fs[x.1 % 64]? with
  | some fd=>fd.offset == x.2 && (match P.info? fd.type with|some i=>i.size != 0|none=>false)
  | none=>false
 | _=>false
structure TabOK (P:Program) (T:Tab):Prop where
 kinds:T.kinds.all (Tab.kindOK P)=true
 flds:T.flds.all (Tab.fldOK P)=true
 sls:T.sls.map (fun x=>slInfo P x.1)=T.sls.map (fun x=>some x.2)
theorem TabOK.sl{P:Program}{T:Tab}(h:TabOK P T){t:Nat}{s:SlI}(hs:asc T.sls t=some s):
  P.underlying t=some (.slice s.elem)/\∃ i,P.info? s.elem=some i/\i.zero=some s.zero/\i.size=s.size/\i.bytes=s.bytes:=by
 have h1:slInfo P t=some s:=by
  have:=asc_mem _ _ _ hs;obtain ⟨k,hk⟩:=List.getElem?_of_mem this;have h2:=congrArg (fun l=>l[k]?) h.sls;simpa[hk] using h2
 unfold slInfo at h1
 split at h1
 ·rename_i e he
  split at h1
  ·rename_i i hi
   split at h1
   ·rename_i z hz;simp only[Option.some.injEq] at h1;subst h1;exact ⟨he,i,hi,hz,I,I⟩
   ·simp at h1
  ·simp at h1
 ·simp at h1
theorem TabOK.one{P:Program}{T:Tab}(h:TabOK P T){t:Nat}{k:UK}(hk:asc T.kinds t=some k)(h1:k.one=true):∃ d i,P.underlying t=some d/\P.info? t=some i/\i.size=1/\k.fits d=true:=by
 have:=List.all_eq_true.1 h.kinds _ (asc_mem _ _ _ hk);unfold Tab.kindOK at this;cases e:P.underlying t with
 | none=>simp[e] at this
 | some d=>
  simp only[e,h1,Bool.not_true,Bool.false_or,Bool.and_eq_true] at this;obtain ⟨h2,h3⟩:=this;cases e2:P.info? t with
  | none=>simp[e2] at h3
  | some i=>exact ⟨d,i,rfl,rfl,by simpa[e2] using h3,h2⟩
theorem TabOK.kind{P:Program}{T:Tab}(h:TabOK P T){t:Nat}{k:UK}(hk:asc T.kinds t=some k):∃ d,P.underlying t=some d/\k.fits d=true:=by
 have:=List.all_eq_true.1 h.kinds _ (asc_mem _ _ _ hk);unfold Tab.kindOK at this;cases e:P.underlying t with
 | none=>simp[e] at this
 | some d=>
  simp only[e,Bool.and_eq_true] at this;exact ⟨d,I,this.1⟩
theorem TabOK.int{P:Program}{T:Tab}(h:TabOK P T){t:Nat}{k:IntKind}(hk:asc T.kinds t=some (.int k)):P.underlying t=some (.int k):=by
 obtain ⟨d,h1,h2⟩:=h.kind hk;cases d <;> simp[UK.fits] at h2;subst h2;exact h1
theorem TabOK.fld{P:Program}{T:Tab}(h:TabOK P T){s f off:Nat}(hf:Nat.blt f 64=true)(hk:asc T.flds (s*64+f)=some off)(a:Addr)(w:World):
  (Instr.fieldAt s (.pointer (some a)) f).run P w=.ok (.pointer (some (a.add off))) w:=by
 have:=List.all_eq_true.1 h.flds _ (asc_mem _ _ _ hk);have hf':f<64:=Nat.le_of_ble_eq_true hf;unfold Tab.fldOK at this;rw[show (s*64+f,off).1 / 64=s from by simp;omega,show (s*64+f,off).1 % 64=f from by simp;omega] at this;cases e:P.underlying s with
 | none=>simp[e] at this
 | some d=>
  cases d <;> simp[e] at this;rename_i fs;cases e2:fs[f]? with
  | none=>simp[e2] at this
  | some fd=>
   simp only[e2,Bool.and_eq_true,beq_iff_eq] at this;obtain ⟨h1,h2⟩:=this;cases e3:P.info? fd.type with
   | none=>simp[e3] at h2
   | some i=>
    have h3:¬i.size=0:=by simpa[e3] using h2
    simp[Instr.fieldAt,run_underlying e,e2,Instr.sureAddr,fieldPlace,sizeOf,typeInfo,e3,h3,h1,go_sem]
def pureBin(op:BinOp)(u v:Value):Option Value:=
 match u,v with
 | .int k a,.int k' b=>match op with
  | .shl=>cond (decide (0<=b)) (some (.int k (k.wrap (a*2 ^ (min b.toNat k.bits))))) none
  | .shr=>cond (decide (0<=b)) (some (.int k (a.fdiv (2 ^ (min b.toNat k.bits))))) none
  | op=>cond (decide (k=k')) (match op with
   | .add=>some (.int k (k.wrap (a+b)))
   | .sub=>some (.int k (k.wrap (a-b)))
   | .mul=>some (.int k (k.wrap (a*b)))
   | .quo=>cond (decide (b=0)) none (some (.int k (k.wrap (a.tdiv b))))
   | .rem=>cond (decide (b=0)) none (some (.int k (a.tmod b)))
   | .and=>some (.int k (k.wrap (BitVec.ofInt k.bits a &&& BitVec.ofInt k.bits b).toNat))
   | .or=>some (.int k (k.wrap (BitVec.ofInt k.bits a ||| BitVec.ofInt k.bits b).toNat))
   | .xor=>some (.int k (k.wrap (BitVec.ofInt k.bits a ^^^ BitVec.ofInt k.bits b).toNat))
   | .andNot=>some (.int k (k.wrap (BitVec.ofInt k.bits a &&& ~~~BitVec.ofInt k.bits b).toNat))
   | .eql=>some (.bool (a == b))
   | .neq=>some (.bool (a != b))
   | .lss=>some (.bool (decide (a<b)))
   | .leq=>some (.bool (decide (a<=b)))
   | .gtr=>some (.bool (decide (a>b)))
   | .geq=>some (.bool (decide (a>=b)))
   | _=>none) none
 | .string a,.string b=>match op with
  | .eql=>some (.bool (a.toList == b.toList))
  | .neq=>some (.bool !(a.toList == b.toList))
  | _=>none
 | _,_=>none
def eqNil(T:Tab)(t:Nat)(op:BinOp)(u v:Value):Option Value:=
 match op,asc T.kinds t,u,v with
 | .eql,some .ptr,.pointer a,.pointer none=>some (.bool a.isNone)
 | .neq,some .ptr,.pointer a,.pointer none=>some (.bool !a.isNone)
 | .eql,some .slice,.slice a _ _,.slice none _ _=>some (.bool a.isNone)
 | .neq,some .slice,.slice a _ _,.slice none _ _=>some (.bool !a.isNone)
 | .eql,some .map,.map a,.map none=>some (.bool a.isNone)
 | .neq,some .map,.map a,.map none=>some (.bool !a.isNone)
 | .eql,some .bool,.bool a,.bool b=>some (.bool (a == b))
 | .neq,some .bool,.bool a,.bool b=>some (.bool !(a == b))
 | _,_,_,_=>none
def pureUn(op:UnOp)(u:Value):Option Value:=
 match op,u with
 | .not,.bool b=>some (.bool !b)
 | .neg,.int k n=>some (.int k (k.wrap (0-n)))
 | .xor,.int k n=>some (.int k (k.wrap (BitVec.ofInt k.bits (if k.signed then -1 else k.max) ^^^ BitVec.ofInt k.bits n).toNat))
 | _,_=>none
def pureLen(T:Tab)(t:Nat)(u:Value):Option Value:=
 match u with
 | .slice _ n _=>match asc T.kinds t with|some .slice=>some (.int .i64 n)|_=>none
 | .string s=>match asc T.kinds t with|some .str=>some (.int .i64 s.size)|_=>none
 | _=>none
def pureOp(T:Tab)(l:Sl):Op->Option Value
 | .move x|.assign x=>ev l x
 | .pick c a b=>match ev l c with
  | some (.bool c')=>cond c' (ev l a) (ev l b)
  | _=>none
 | .nilCheck x=>match ev l x with
  | some (.pointer (some a))=>some (.pointer (some a))
  | some (.func (.func f) first captured)=>some (.func (.func f) first captured)
  | _=>none
 | .binOp op t x y _=>match ev l x,ev l y with
  | some u,some v=>match pureBin op u v with
   | some r=>some r
   | none=>eqNil T t op u v
  | _,_=>none
 | .unOp op _ x=>match ev l x with
  | some u=>pureUn op u
  | none=>none
 | .extract t i=>match ev l t with
  | some (.tuple vs)=>vs[i]?
  | _=>none
 | .convert s d x=>match asc T.kinds s,ev l x,asc T.kinds d with
  | some _,some (.int _ n),some (.int k)=>some (.int k (k.wrap n))
  | _,_,_=>none
 | .fieldAddr s x f=>match ev l x with
  | some (.pointer (some a))=>match Nat.blt f 64,asc T.flds (s*64+f) with
   | true,some off=>some (.pointer (some (a.add off)))
   | _,_=>none
  | _=>none
 | .call { callee:=.builtin .len,args,argTypes }=>match args.toList,argTypes.toList with
  | [x],[t]=>match ev l x with
   | some u=>pureLen T t u
   | none=>none
  | _,_=>none
 | .call { callee:=.builtin .max,args,.. }=>match args.toList with
  | [x,y]=>match ev l x,ev l y with
   | some (.int k a),some (.int _ b)=>some (.int k (if b>a then b else a))
   | _,_=>none
  | _=>none
 | .call { callee:=.builtin .min,args,.. }=>match args.toList with
  | [x,y]=>match ev l x,ev l y with
   | some (.int k a),some (.int _ b)=>some (.int k (if b<a then b else a))
   | _,_=>none
  | [x,y,z]=>match ev l x,ev l y,ev l z with
   | some (.int k a),some (.int _ b),some (.int _ c)=>some (.int k (if c<(if b<a then b else a) then c else (if b<a then b else a)))
   | _,_,_=>none
  | [x,y,z,u]=>match ev l x,ev l y,ev l z,ev l u with
   | some (.int k a),some (.int _ b),some (.int _ c),some (.int _ d)=>some (.int k (if d<(if c<(if b<a then b else a) then c else (if b<a then b else a)) then d else (if c<(if b<a then b else a) then c else (if b<a then b else a))))
   | _,_,_,_=>none
  | _=>none
 | .makeFunc fn first captured=>match first.toList,captured.toList.mapM (ev l) with
  | [],some vs=>some (.func fn #[] vs.toArray)
  | _,_=>none
 | _=>none
theorem pureBin_run{P:Program}{op:BinOp}{u v r:Value}(h:pureBin op u v=some r)(t:TypeId)(w:World):(binOp op t u v).run P w=.ok r w:=by
 unfold pureBin at h
 split at h
 ·rename_i k a k' b
  split at h
  ·cases e:decide (0<=b) with
   | false=>simp[e] at h
   | true=>
    rw[e] at h;simp only[cond_true,Option.some.injEq] at h;subst h;have hb:¬b<0:=by have:=of_decide_eq_true e;omega
    simp[binOp,Op.shift,hb,go_sem]
  ·cases e:decide (0<=b) with
   | false=>simp[e] at h
   | true=>
    rw[e] at h;simp only[cond_true,Option.some.injEq] at h;subst h;have hb:¬b<0:=by have:=of_decide_eq_true e;omega
    simp[binOp,Op.shift,hb,go_sem]
  ·by_cases hk:k=k'
   ·subst hk;simp only[decide_true,cond_true] at h
    split at h <;> first
     | (simp only[Option.some.injEq] at h;subst h;simp[binOp,Op.intArith,Op.intBits,Op.intCmp,go_sem];done)
     | (
       by_cases hb:b=0
       ·simp[hb] at h
       ·simp only[hb,decide_false,cond_false,Option.some.injEq] at h;subst h;simp[binOp,Op.intDiv,hb,go_sem])
     | (simp at h;done)
   ·simp[hk] at h
 ·split at h <;> first
   | (simp only[Option.some.injEq] at h;subst h;simp[binOp,Op.stringOp,go_sem];done)
   | (simp at h;done)
 ·simp at h
theorem pureUn_run{P:Program}{op:UnOp}{u r:Value}(h:pureUn op u=some r)(w:World):(Op.unary op u).run P w=.ok r w:=by
 unfold pureUn at h
 split at h <;> first
  | (simp only[Option.some.injEq] at h;subst h;simp[Op.unary,Op.intArith,Op.intBits,go_sem];done)
  | (simp at h;done)
theorem pureLen_run{P:Program}{T:Tab}(hT:TabOK P T){t:Nat}{u r:Value}(h:pureLen T t u=some r)(ty:TypeId)(w:World):(Builtin.len_ #[t] ty #[u]).run P w=.ok r w:=by
 unfold pureLen at h
 split at h
 ·split at h
  ·rename_i e;obtain ⟨d,h1,h2⟩:=hT.kind e;cases d <;> simp[UK.fits] at h2;simp only[Option.some.injEq] at h;subst h;simp[Builtin.len_,run_underlying h1,goInt,go_sem]
  ·simp at h
 ·split at h
  ·rename_i e;obtain ⟨d,h1,h2⟩:=hT.kind e;cases d <;> simp[UK.fits] at h2;simp only[Option.some.injEq] at h;subst h;simp[Builtin.len_,run_underlying h1,goInt,go_sem]
  ·simp at h
 ·simp at h
theorem eqGuard_plain{P:Program}{op:BinOp}{u v r:Value}(h:pureBin op u v=some r)(t:TypeId)(x y:Operand)(w:World):(eqGuard op t x y u v).run P w=.ok () w:=by
 unfold pureBin at h;unfold eqGuard
 split at h
 ·split <;> simp[go_sem]
 ·split <;> simp[go_sem]
 ·simp at h
theorem run_equal{P:Program}{t:Nat}{u v:Value}{b:Bool}{w:World}(h:∀ d,(Op.equalIn (d+1) t u v).run P w=.ok b w):(Op.equal t u v).run P w=.ok b w:=h 9999
theorem run_equalIn_nil{P:Program}{T:Tab}(hT:TabOK P T){t:Nat}{op:BinOp}{u v r:Value}(h:eqNil T t op u v=some r)(x y:Operand)(w:World):
  (eqGuard op t x y u v).run P w=.ok () w/\(binOp op t u v).run P w=.ok r w:=by
 unfold eqNil at h
 split at h
 ·rename_i e;obtain ⟨d,h1,h2⟩:=hT.kind e;cases d <;> simp[UK.fits] at h2;simp only[Option.some.injEq] at h;subst h;rename_i a _;cases a <;> exact ⟨by simp[eqGuard],by simp only[binOp];rw[Sem.run_bind,run_equal (fun d=>by simp[Op.equalIn,run_underlying h1];try rfl)];rfl⟩
 ·rename_i e;obtain ⟨d,h1,h2⟩:=hT.kind e;cases d <;> simp[UK.fits] at h2;simp only[Option.some.injEq] at h;subst h;rename_i a _;cases a <;> exact ⟨by simp[eqGuard],by simp only[binOp];rw[Sem.run_bind,run_equal (fun d=>by simp[Op.equalIn,run_underlying h1];try rfl)];rfl⟩
 ·rename_i a _ _ _ _ e;obtain ⟨d,h1,h2⟩:=hT.kind e;cases d <;> simp[UK.fits] at h2;simp only[Option.some.injEq] at h;subst h;cases a <;> exact ⟨by simp[eqGuard],by simp only[binOp];rw[Sem.run_bind,run_equal (fun d=>by simp[Op.equalIn,run_underlying h1];try rfl)];rfl⟩
 ·rename_i a _ _ _ _ e;obtain ⟨d,h1,h2⟩:=hT.kind e;cases d <;> simp[UK.fits] at h2;simp only[Option.some.injEq] at h;subst h;cases a <;> exact ⟨by simp[eqGuard],by simp only[binOp];rw[Sem.run_bind,run_equal (fun d=>by simp[Op.equalIn,run_underlying h1];try rfl)];rfl⟩
 ·rename_i e;obtain ⟨d,h1,h2⟩:=hT.kind e;cases d <;> simp[UK.fits] at h2;simp only[Option.some.injEq] at h;subst h;rename_i a _ _;cases a <;> exact ⟨by simp[eqGuard],by simp only[binOp];rw[Sem.run_bind,run_equal (fun d=>by simp[Op.equalIn,run_underlying h1];try rfl)];rfl⟩
 ·rename_i e;obtain ⟨d,h1,h2⟩:=hT.kind e;cases d <;> simp[UK.fits] at h2;simp only[Option.some.injEq] at h;subst h;rename_i a _ _;cases a <;> exact ⟨by simp[eqGuard],by simp only[binOp];rw[Sem.run_bind,run_equal (fun d=>by simp[Op.equalIn,run_underlying h1];try rfl)];rfl⟩
 ·rename_i e;obtain ⟨d,h1,h2⟩:=hT.kind e;cases d <;> simp[UK.fits] at h2;simp only[Option.some.injEq] at h;subst h;exact ⟨by simp[eqGuard],by simp only[binOp];rw[Sem.run_bind,run_equal (fun d=>by simp[Op.equalIn,run_underlying h1];try rfl)];rfl⟩
 ·rename_i e;obtain ⟨d,h1,h2⟩:=hT.kind e;cases d <;> simp[UK.fits] at h2;simp only[Option.some.injEq] at h;subst h;exact ⟨by simp[eqGuard],by simp only[binOp];rw[Sem.run_bind,run_equal (fun d=>by simp[Op.equalIn,run_underlying h1];try rfl)];rfl⟩
 ·simp at h
theorem evl_map{l:Sl}{ρ:Operand->Value}(hρ:∀ x v,ev l x=some v->ρ x=v):∀ (ps:List Operand) (vs:List Value),ps.mapM (ev l)=some vs->ps.map ρ=vs
 | [],vs,h=>by simp at h;subst h;rfl
 | p::ps,vs,h=>by
  simp only[List.mapM_cons] at h;cases h1:ev l p with
  | none=>simp[h1] at h
  | some v=>
   cases h2:ps.mapM (ev l) with
   | none=>simp[h1,h2] at h
   | some r=>
    simp[h1,h2] at h;subst h;simp[hρ _ _ h1,evl_map hρ ps r h2]
theorem pureOp_run{P:Program}{T:Tab}(hT:TabOK P T){n:Nat}{l:Sl}{a:Act}{o:Oper}{v:Value}(h:pureOp T l o.op=some v)(ha:Ag n l a)(w:World):
  (execOp a.eval o).run P w=.ok (.value v) w:=by
 obtain ⟨dst,op,type,pos,after,guard⟩:=o;simp only at h;have hρ:∀ x v,ev l x=some v->a.eval x=v:=fun _ _ hx=>ha.ev hx;clear ha;generalize a.eval=ρ at *;unfold pureOp at h;unfold execOp
 split at h
 ·simp[hρ _ _ h,go_sem]
 ·simp[hρ _ _ h,go_sem]
 ·rename_i c x y;cases hc:ev l c with
  | none=>simp[hc] at h
  | some vc=>
   rw[hc] at h;cases vc <;> simp only[reduceCtorEq] at h;rename_i b;cases b with
   | true=>simp only[cond_true] at h;simp[hρ _ _ hc,hρ _ _ h,asBool,go_sem]
   | false=>simp only[cond_false] at h;simp[hρ _ _ hc,hρ _ _ h,asBool,go_sem]
 ·rename_i x
  split at h
  ·rename_i e;simp only[Option.some.injEq] at h;subst h;simp[hρ _ _ e,go_sem]
  ·rename_i e;simp only[Option.some.injEq] at h;subst h;simp[hρ _ _ e,go_sem]
  ·simp at h
 ·rename_i op ty x y ty'
  split at h
  ·rename_i u1 u2 e1 e2
   split at h
   ·rename_i r hr;simp only[Option.some.injEq] at h;subst h;have h1:=pureBin_run (P:=P) hr ty w;have h2:=eqGuard_plain (P:=P) hr ty x y w;simp only[hρ _ _ e1,hρ _ _ e2];simp[h1,h2,go_sem]
   ·obtain ⟨h2,h1⟩:=run_equalIn_nil hT h x y w;simp only[hρ _ _ e1,hρ _ _ e2];simp[h1,h2]
  ·simp at h
 ·split at h
  ·rename_i e;have h1:=pureUn_run (P:=P) h w;simp[hρ _ _ e,h1,go_sem]
  ·simp at h
 ·split at h
  ·rename_i e;simp[hρ _ _ e,Instr.extract,h,go_sem]
  ·simp at h
 ·rename_i s d x
  split at h
  ·rename_i k1 kk n k e1 e2 e3;simp only[Option.some.injEq] at h;subst h;obtain ⟨d1,g1,_⟩:=hT.kind e1;simp[hρ _ _ e2,convert,run_underlying g1,run_underlying (hT.int e3),Conv.intToInt,go_sem]
  ·simp at h
 ·rename_i s x f
  split at h
  ·rename_i e
   split at h
   ·rename_i e1 e2;simp only[Option.some.injEq] at h;subst h;have h3:=hT.fld e1 e2 (by assumption) w;simp[hρ _ _ e,h3]
   ·simp at h
  ·simp at h
 ·rename_i args argTypes
  split at h
  ·rename_i x t e1 e2
   split at h
   ·rename_i u e3;have a1:args=#[x]:=by cases args;simp_all
    have a2:argTypes=#[t]:=by cases argTypes;simp_all
    subst a1;subst a2;simp[resolve,invoke,builtin,hρ _ _ e3,pureLen_run hT h,go_sem]
   ·simp at h
  ·simp at h
 ·rename_i args argTypes
  split at h
  ·rename_i x y e1
   split at h
   ·rename_i e3 e4;have a1:args=#[x,y]:=by cases args;simp_all
    subst a1;simp only[Option.some.injEq] at h;subst h;simp[resolve,invoke,builtin,hρ _ _ e3,hρ _ _ e4,Builtin.max_,Builtin.max2,go_sem]
   ·simp at h
  ·simp at h
 ·rename_i args argTypes
  split at h
  ·rename_i x y e1
   split at h
   ·rename_i e3 e4;have a1:args=#[x,y]:=by cases args;simp_all
    subst a1;simp only[Option.some.injEq] at h;subst h;simp[resolve,invoke,builtin,hρ _ _ e3,hρ _ _ e4,Builtin.min_,Builtin.min2,go_sem]
   ·simp at h
  ·rename_i x y z e1
   split at h
   ·rename_i e3 e4 e5;have a1:args=#[x,y,z]:=by cases args;simp_all
    subst a1;simp only[Option.some.injEq] at h;subst h;simp[resolve,invoke,builtin,hρ _ _ e3,hρ _ _ e4,hρ _ _ e5,Builtin.min_,Builtin.min2,go_sem]
   ·simp at h
  ·rename_i x y z u e1
   split at h
   ·rename_i e3 e4 e5 e6;have a1:args=#[x,y,z,u]:=by cases args;simp_all
    subst a1;simp only[Option.some.injEq] at h;subst h;simp[resolve,invoke,builtin,hρ _ _ e3,hρ _ _ e4,hρ _ _ e5,hρ _ _ e6,Builtin.min_,Builtin.min2,go_sem]
   ·simp at h
  ·simp at h
 ·rename_i fn first captured
  split at h
  ·rename_i vs e1 e2;have a1:first=#[]:=by cases first;simp_all
   subst a1;have h6:=evl_map hρ _ _ e2
   have h7:captured.map ρ=vs.toArray:=by
    apply Array.ext'
    simpa using h6
   simp only[Option.some.injEq] at h;subst h;simp[Instr.makeFunc,go_sem,h7]
  ·simp at h
 ·simp at h
abbrev sg(b:Nat)(o:Obj):PH:=fun x=>if x=b then some o else none
abbrev pt(b:Nat)(c:Array Value)(ty:Nat)(fr:Nat×Nat:=(0,0)):PH:=sg b (.cells c ty fr)
def em:PH:=fun _=>none
def Cell(h:PH)(a:Addr)(v:Value):Prop:=a.spot=none/\∃ c ty fr,h a.block=some (.cells c ty fr)/\c[a.off]?=some v
def In(K:PH)(hs:List PH)(h:PH):Prop:=h=K\/∃ i:Nat,hs[i]?=some h
section mem
variable {w0 w w':World} {K:PH} {hs:List PH}
theorem Sat.block(s:Sat w0 w K hs){h:PH}(hi:In K hs h){b:Nat}{o:Obj}(hb:h b=some o):w.heap[b]?=some o:=by
 rcases hi with rfl|⟨i,hi⟩
 ·exact s.imm b o hb
 ·exact s.own i h hi b o hb
theorem Sat.cell(s:Sat w0 w K hs){h:PH}(hi:In K hs h){a:Addr}{v:Value}(hc:Cell h a v):w.cell? a=some v:=by
 obtain ⟨hsp,c,ty,fr,hb,hv⟩:=hc;have:=s.block hi hb;simp[World.cell?,this,hsp,hv]
theorem lt_of_some{w:World}{b:Nat}{o:Obj}(h:w.heap[b]?=some o):b<w.heap.size:=(Array.getElem?_eq_some_iff.1 h).1
theorem Sat.alloc(s:Sat w0 w K hs)(o:Obj):Sat w0 (w.alloc o) K (sg w.heap.size o::hs):=by
 have old:∀ b,b<w.heap.size->(w.alloc o).heap[b]?=w.heap[b]?:=fun b hb=>RowKit.Below.heap_alloc w o b hb;refine ⟨s.os,s.tape,s.output,?_,?_,?_,?_,?_⟩
 ·have:=s.size;simp;omega
 ·intro b o' h;have:=s.imm b o' h;rw[old b (lt_of_some this)];exact this
 ·intro i h hi b o' hb;cases i with
  | zero=>
   simp only[List.getElem?_cons_zero,Option.some.injEq] at hi;subst hi;simp only[sg] at hb
   split at hb
   ·rename_i e;subst e;cases hb;exact heap_alloc_new w o
   ·cases hb
  | succ i=>
   have:=s.own i h (by simpa using hi) b o' hb;rw[old b (lt_of_some this)];exact this
 ·intro i h hi b o' hb;cases i with
  | zero=>
   simp only[List.getElem?_cons_zero,Option.some.injEq] at hi;subst hi;simp only[sg] at hb
   split at hb
   ·rename_i e;subst e;cases hk:K w.heap.size with
    | none=>rfl
    | some x=>have:=lt_of_some (s.imm _ _ hk);omega
   ·cases hb
  | succ i=>exact s.apart i h (by simpa using hi) b o' hb
 ·intro i j h h' hi hj hij b o' hb;cases i with
  | zero=>
   simp only[List.getElem?_cons_zero,Option.some.injEq] at hi;subst hi;simp only[sg] at hb
   split at hb
   ·rename_i e;subst e;cases j with
    | zero=>omega
    | succ j=>
     cases hk:h' w.heap.size with
     | none=>rfl
     | some x=>have:=lt_of_some (s.own j h' (by simpa using hj) _ _ hk);omega
   ·cases hb
  | succ i=>
   cases j with
   | zero=>
    simp only[List.getElem?_cons_zero,Option.some.injEq] at hj;subst hj;have:=lt_of_some (s.own i h (by simpa using hi) b o' hb);simp only[sg];rw[if_neg qo]
   | succ j=>exact s.sep i j h h' (by simpa using hi) (by simpa using hj) qo b o' hb
theorem Sat.upd(s:Sat w0 w K hs){i:Nat}{h h':PH}(hi:hs[i]?=some h)(hos:w'.os=w.os)(htp:w'.tape=w.tape)(hout:w'.output=w.output)(hsz:w.heap.size<=w'.heap.size)
  (hin:∀ b o,h' b=some o->w'.heap[b]?=some o) (hout':∀ b,b<w.heap.size->h b=none->w'.heap[b]?=w.heap[b]?) (hdom:∀ b o,h' b=some o->h b=none->w.heap.size<=b):
  Sat w0 w' K (hs.set i h'):=by
 have hil:i<hs.length:=(List.getElem?_eq_some_iff.1 hi).1;refine ⟨hos.trans s.os,htp.trans s.tape,hout.trans s.output,Nat.le_trans s.size hsz,?_,?_,?_,?_⟩
 ·intro b o hb;have h1:=s.imm b o hb;rw[hout' b (lt_of_some h1) ?_]
  ·exact h1
  ·cases hh:h b with
   | none=>rfl
   | some x=>have:=s.apart i h hi b x hh;rw[this] at hb;cases hb
 ·intro j g hj b o hb
  by_cases hij:i=j
  ·subst hij;rw[List.getElem?_set_self hil] at hj;cases hj;exact hin b o hb
  ·rw[List.getElem?_set_ne hij] at hj;have h1:=s.own j g hj b o hb;rw[hout' b (lt_of_some h1) (s.sep j i g h hj hi (Ne.symm hij) b o hb)];exact h1
 ·intro j g hj b o hb
  by_cases hij:i=j
  ·subst hij;rw[List.getElem?_set_self hil] at hj;cases hj;cases hh:h b with
   | some x=>exact s.apart i h hi b x hh
   | none=>
    have:=hdom b o hb hh;cases hk:K b with
    | none=>rfl
    | some x=>have:=lt_of_some (s.imm b x hk);omega
  ·rw[List.getElem?_set_ne hij] at hj;exact s.apart j g hj b o hb
 ·intro j k g g' hj hk hjk b o hb
  by_cases hij:i=j
  ·subst hij;rw[List.getElem?_set_self hil] at hj;cases hj;rw[List.getElem?_set_ne hjk] at hk;cases hh:h b with
   | some x=>exact s.sep i k h g' hi hk hjk b x hh
   | none=>
    have:=hdom b o hb hh;cases hg:g' b with
    | none=>rfl
    | some x=>have:=lt_of_some (s.own k g' hk b x hg);omega
  ·rw[List.getElem?_set_ne hij] at hj
   by_cases hik:i=k
   ·subst hik;rw[List.getElem?_set_self hil] at hk;cases hk;cases hg:h' b with
    | none=>rfl
    | some x=>
     have h1:=lt_of_some (s.own j g hj b o hb);have h2:=s.sep j i g h hj hi (Ne.symm hij) b o hb;have:=hdom b x hg h2;omega
   ·rw[List.getElem?_set_ne hik] at hk;exact s.sep j k g g' hj hk hjk b o hb
theorem Sat.setRow(s:Sat w0 w K hs){i b:Nat}{c:Array Value}{ty:Nat}{fr:Nat×Nat}(hi:hs[i]?=some (pt b c ty fr))(c':Array Value):
  Sat w0 (w.setRow b c') K (hs.set i (pt b c' ty fr)):=by
 have hb:w.heap[b]?=some (.cells c ty fr):=s.own i _ hi b _ (by simp);refine s.upd hi I I I (by simp[World.setRow]) ?_ ?_ ?_
 ·intro x o hx;simp only[pt,sg] at hx
  split at hx
  ·rename_i e;subst e;cases hx;exact setRow_heap w _ c c' ty fr hb
  ·cases hx
 ·intro x hx hn;simp only[pt,sg] at hn
  split at hn
  ·cases hn
  ·rename_i e;exact setRow_other w b x c' e
 ·intro x o hx hn;simp only[pt,sg] at hx hn
  split at hx
  ·rename_i e;rw[if_pos e] at hn;cases hn
  ·cases hx
theorem Sat.setCell(s:Sat w0 w K hs){i b off:Nat}{c:Array Value}{ty:Nat}{fr:Nat×Nat}(hi:hs[i]?=some (pt b c ty fr))(v:Value):
  Sat w0 (w.setCell ⟨b,off,none⟩ v) K (hs.set i (pt b (c.setIfInBounds off v) ty fr)):=by
 have hb:w.heap[b]?=some (.cells c ty fr):=s.own i _ hi b _ (by simp);rw[setCell_eq_setRow w b off c ty fr v hb];exact s.setRow hi _
theorem Sat.addEm(s:Sat w0 w K hs):Sat w0 w K (em::hs):=by
 refine ⟨s.os,s.tape,s.output,s.size,s.imm,?_,?_,?_⟩
 ·intro i h hi b o hb;cases i with
  | zero=>simp only[List.getElem?_cons_zero,Option.some.injEq] at hi;subst hi;simp[em] at hb
  | succ i=>exact s.own i h (by simpa using hi) b o hb
 ·intro i h hi b o hb;cases i with
  | zero=>simp only[List.getElem?_cons_zero,Option.some.injEq] at hi;subst hi;simp[em] at hb
  | succ i=>exact s.apart i h (by simpa using hi) b o hb
 ·intro i j h h' hi hj hij b o hb;cases i with
  | zero=>simp only[List.getElem?_cons_zero,Option.some.injEq] at hi;subst hi;simp[em] at hb
  | succ i=>
   cases j with
   | zero=>simp only[List.getElem?_cons_zero,Option.some.injEq] at hj;subst hj;rfl
   | succ j=>exact s.sep i j h h' (by simpa using hi) (by simpa using hj) qo b o hb
theorem Cell.pt{b off:Nat}{c:Array Value}{ty:Nat}{fr:Nat×Nat}{v:Value}(h:c[off]?=some v):Cell (pt b c ty fr) ⟨b,off,none⟩ v:=
 ⟨rfl,c,ty,fr,by simp,h⟩
end mem
def pureN(T:Tab)(ops:Array Oper)(n:Nat):Nat->List Oper->Sl->Option (List Oper×Sl)
 | 0,r,l=>some (r,l)
 | _+1,[],_=>none
 | k+1,o::r,l=>match o.dst with
  | none=>none
  | some d=>match Nat.blt d n,gOK ops l o.guard with
   | true,some true=>match pureOp T l o.op with
    | some v=>pureN T ops n k r ((d,v)::l)
    | none=>none
   | true,some false=>pureN T ops n k r ((d,undef)::l)
   | _,_=>none
section rules
variable {P:Program} {T:Tab} {w0:World} {ops:Array Oper} {Q:Exit->Act->World->Prop} {rest rest':List Oper} {n:Nat} {l l':Sl} {K:PH} {hs:List PH}
theorem WL.val{o:Oper}{d:Nat}{R:Value->PH->List PH->Prop}(hd:o.dst=some d)(hb:Nat.blt d n=true)(hg:gOK ops l o.guard=some true)
  (h:∀ a w,Ag n l a->Sat w0 w K hs->∃ v w' K' hs',(execOp a.eval o).run P w=.ok (.value v) w'/\Sat w0 w' K' hs'/\R v K' hs')
  (hk:∀ v K' hs',R v K' hs'->WL P w0 ops Q rest n ((d,v)::l) K' hs'):WL P w0 ops Q (o::rest) n l K hs:=by
 intro a w ha hw;obtain ⟨v,w',K',hs',hrun,hw',hR⟩:=h a w ha hw;have h1:=gOK_wanted ha hg;unfold wpList;rw[if_pos h1];refine .inl ?_;unfold Oper.wp;rw[hrun];simp only[Oper.upon,hd];exact hk v K' hs' hR _ _ (ha.put hb) hw'
theorem WL.skp{o:Oper}{K':PH}{hs':List PH}(hd:o.dst=none)(hg:gOK ops l o.guard=some true)
  (h:∀ a w,Ag n l a->Sat w0 w K hs->∃ w',(execOp a.eval o).run P w=.ok .skip w'/\Sat w0 w' K' hs')
  (hk:WL P w0 ops Q rest n l K' hs'):WL P w0 ops Q (o::rest) n l K hs:=by
 intro a w ha hw;obtain ⟨w',hrun,hw'⟩:=h a w ha hw;have h1:=gOK_wanted ha hg;unfold wpList;rw[if_pos h1];refine .inl ?_;unfold Oper.wp;rw[hrun];simp only[Oper.upon,hd,Act.put];exact hk _ _ ha hw'
theorem WL.unwanted{o:Oper}{d:Nat}(hd:o.dst=some d)(hb:Nat.blt d n=true)(hg:gOK ops l o.guard=some false)
  (hk:WL P w0 ops Q rest n ((d,undef)::l) K hs):WL P w0 ops Q (o::rest) n l K hs:=by
 intro a w ha hw;have h1:=gOK_wanted ha hg;unfold wpList;rw[if_neg (by simp[h1]),hd];exact hk _ _ (ha.put hb) hw
theorem WL.pure1(hT:TabOK P T){o:Oper}{d:Nat}{v:Value}(hd:o.dst=some d)(hb:Nat.blt d n=true)(hg:gOK ops l o.guard=some true)(hv:pureOp T l o.op=some v)
  (hk:WL P w0 ops Q rest n ((d,v)::l) K hs):WL P w0 ops Q (o::rest) n l K hs:=
 WL.val (R:=fun u K' hs'=>u=v/\K'=K/\hs'=hs) hd hb hg (fun a w ha hw=>⟨v,w,K,hs,pureOp_run hT hv ha w,hw,rfl,rfl,rfl⟩)
  (fun u K' hs' ⟨h1,h2,h3⟩=>by subst h1;subst h2;subst h3;exact hk)
theorem WL.pures(hT:TabOK P T):∀ (k:Nat) {rest:List Oper} {l:Sl},pureN T ops n k rest l=some (rest',l')->WL P w0 ops Q rest' n l' K hs->WL P w0 ops Q rest n l K hs
 | 0,rest,l,h,hk=>by simp only[pureN,Option.some.injEq,Prod.mk.injEq] at h;obtain ⟨rfl,rfl⟩:=h;exact hk
 | k+1,[],l,h,hk=>by simp[pureN] at h
 | k+1,o::r,l,h,hk=>by
  simp only[pureN] at h;cases hd:o.dst with
  | none=>simp[hd] at h
  | some d=>
   simp only[hd] at h;cases hb:Nat.blt d n with
   | false=>simp[hb] at h
   | true=>
    cases hg:gOK ops l o.guard with
    | none=>simp[hb,hg] at h
    | some g=>
     cases g with
     | true=>
      simp only[hb,hg] at h;cases hv:pureOp T l o.op with
      | none=>simp[hv] at h
      | some v=>
       simp only[hv] at h;exact WL.pure1 hT hd hb hg hv (WL.pures hT k h hk)
     | false=>
      simp only[hb,hg] at h;exact WL.unwanted hd hb hg (WL.pures hT k h hk)
def opAt(T:Tab)(ops:Array Oper)(n k:Nat)(rest:List Oper)(l:Sl):Option (Oper×List Oper×Sl):=
 match pureN T ops n k rest l with
 | some (o::r,l')=>match gOK ops l' o.guard with
  | some true=>some (o,r,l')
  | _=>none
 | _=>none
theorem WL.at'(hT:TabOK P T){k:Nat}{o:Oper}(h:opAt T ops n k rest l=some (o,rest',l'))(hk:gOK ops l' o.guard=some true->WL P w0 ops Q (o::rest') n l' K hs):WL P w0 ops Q rest n l K hs:=by
 unfold opAt at h
 split at h
 ·rename_i o' r' l2 hp
  split at h
  ·rename_i hg;simp only[Option.some.injEq,Prod.mk.injEq] at h;obtain ⟨rfl,rfl,rfl⟩:=h;exact WL.pures hT k hp (hk hg)
  ·simp at h
 ·simp at h
def valAt(T:Tab)(ops:Array Oper)(n k:Nat)(rest:List Oper)(l:Sl):Option (Nat×Value×List Oper×Sl):=
 match opAt T ops n k rest l with
 | some (o,r,l')=>match o.dst with
  | some d=>match Nat.blt d n,pureOp T l' o.op with
   | true,some v=>some (d,v,r,l')
   | _,_=>none
  | none=>none
 | none=>none
theorem valAt_spec{k d:Nat}{v:Value}(h:valAt T ops n k rest l=some (d,v,rest',l')):∃ o,opAt T ops n k rest l=some (o,rest',l')/\o.dst=some d/\Nat.blt d n=true/\pureOp T l' o.op=some v:=by
 unfold valAt at h
 split at h
 ·rename_i o r l2 ho
  split at h
  ·rename_i d' hd
   split at h
   ·rename_i hb hv;simp only[Option.some.injEq,Prod.mk.injEq] at h;obtain ⟨rfl,rfl,rfl,rfl⟩:=h;exact ⟨o,ho,hd,hb,hv⟩
   ·simp at h
  ·simp at h
 ·simp at h
theorem ar(hT:TabOK P T)(k:Nat){d:Nat}{v v':Value}(h:valAt T ops n k rest l=some (d,v,rest',l'))(he:v=v')(hk:WL P w0 ops Q rest' n ((d,v')::l') K hs):
  WL P w0 ops Q rest n l K hs:=by
 obtain ⟨o,ho,hd,hb,hv⟩:=valAt_spec h;subst he;exact WL.at' hT ho fun hg=>WL.pure1 hT hd hb hg hv hk
def cmpP:BinOp->Int->Int->Option Prop
 | .lss,a,b=>some (a<b)
 | .leq,a,b=>some (a<=b)
 | .gtr,a,b=>some (b<a)
 | .geq,a,b=>some (b<=a)
 | .eql,a,b=>some (a=b)
 | .neq,a,b=>some (¬a=b)
 | _,_,_=>none
def cmpAt(T:Tab)(ops:Array Oper)(n k:Nat)(rest:List Oper)(l:Sl):Option (Nat×Prop×List Oper×Sl):=
 match opAt T ops n k rest l with
 | some (o,r,l')=>match o.dst,o.op with
  | some d,.binOp op _ x y _=>match Nat.blt d n,ev l' x,ev l' y with
   | true,some (.int k a),some (.int k' b)=>match decide (k=k'),cmpP op a b with
    | true,some p=>some (d,p,r,l')
    | _,_=>none
   | _,_,_=>none
  | _,_=>none
 | none=>none
theorem cmp(hT:TabOK P T)(k:Nat){d:Nat}{p:Prop}(h:cmpAt T ops n k rest l=some (d,p,rest',l'))
  (hy:p->WL P w0 ops Q rest' n ((d,.bool true)::l') K hs) (hn:¬p->WL P w0 ops Q rest' n ((d,.bool false)::l') K hs):WL P w0 ops Q rest n l K hs:=by
 unfold cmpAt at h
 split at h
 ·rename_i o r l2 ho
  split at h
  ·rename_i d' op ty x y ty' hd hop
   split at h
   ·rename_i k1 a k2 b hb hx hy'
    split at h
    ·rename_i p' hk hp;simp only[Option.some.injEq,Prod.mk.injEq] at h;obtain ⟨rfl,rfl,rfl,rfl⟩:=h;have hk':k1=k2:=of_decide_eq_true hk;subst hk'
     have key:∀ b',pureBin op (.int k1 a) (.int k1 b)=some (.bool b')->(p'↔b'=true)->WL P w0 ops Q rest n l K hs:=fun b' hb' hiff=>by
      refine WL.at' hT ho fun hg=>WL.pure1 hT hd hb hg (v:=.bool b') (by rw[hop];simp only[pureOp,hx,hy',hb']) ?_;cases b' with
      | true=>exact hy (hiff.2 rfl)
      | false=>exact hn (fun hp'=>by have:=hiff.1 hp';cases this)
     cases op <;> simp only[cmpP,Option.some.injEq,reduceCtorEq] at hp <;> subst hp
     ·exact key (a == b) (by simp[pureBin]) (by simp)
     ·exact key (a != b) (by simp[pureBin]) (by simp)
     ·exact key (decide (a<b)) (by simp[pureBin]) (by simp)
     ·exact key (decide (a<=b)) (by simp[pureBin]) (by simp)
     ·exact key (decide (a>b)) (by simp[pureBin]) (by simp)
     ·exact key (decide (a>=b)) (by simp[pureBin]) (by simp)
    ·simp at h
   ·simp at h
  ·simp at h
 ·simp at h
theorem cb(hT:TabOK P T)(k:Nat){d:Nat}{b:Bool}(h:valAt T ops n k rest l=some (d,.bool b,rest',l'))
  (hy:b=true->WL P w0 ops Q rest' n ((d,.bool true)::l') K hs) (hn:b=false->WL P w0 ops Q rest' n ((d,.bool false)::l') K hs):WL P w0 ops Q rest n l K hs:=by
 cases b with
 | true=>exact ar hT k h rfl (hy rfl)
 | false=>exact ar hT k h rfl (hn rfl)
theorem fin(hT:TabOK P T)(k:Nat)(h:pureN T ops n k rest l=some ([],l'))(hk:WQ w0 Q .normal n l' K hs):WL P w0 ops Q rest n l K hs:=
 WL.pures hT k h (nl hk)
end rules
def IsS(h:PH)(ao:Option Addr)(n cap size:Nat)(xs:List Value):Prop:=
 xs.length=n*size/\n<=cap/\∀ (j:Nat) u,xs[j]?=some u->∃ a,ao=some a/\Cell h (a.add j) u
def Own(h:PH)(ao:Option Addr)(n cap e size:Nat)(xs:List Value):Prop:=
 xs.length=n*size/\n<=cap/\cap<=maxLen/\((ao=none/\cap=0/\h=em) \/
  ∃ g off cur,ao=some ⟨g,off,none⟩/\h=pt g cur e/\cur.size=off+cap*size/\(cur.toList.drop off).take (n*size)=xs)
theorem add_mk(g off k:Nat):(⟨g,off,none⟩:Addr).add k=⟨g,off+k,none⟩:=by unfold Addr.add;split <;> simp_all
theorem Own.isS{h:PH}{ao:Option Addr}{n cap e size:Nat}{xs:List Value}(o:Own h ao n cap e size xs):IsS h ao n cap size xs:=by
 obtain ⟨h1,h2,_,h3⟩:=o;refine ⟨h1,h2,?_⟩;rcases h3 with ⟨rfl,rfl,rfl⟩|⟨g,off,cur,rfl,rfl,hs,ht⟩
 ·intro j u hu;have:n=0:=by omega
  subst this;have:xs=[]:=List.eq_nil_of_length_eq_zero (by simpa using h1);subst this;simp at hu
 ·intro j u hu;refine ⟨_,I,?_⟩;rw[add_mk];refine Cell.pt ?_;rw[<-ht] at hu
  have hj:j<n*size:=by
   have:=(List.getElem?_eq_some_iff.1 hu).1;simp at this;omega
  rw[List.getElem?_take_of_lt hj,List.getElem?_drop] at hu;simpa using hu
theorem Own.nil(e size:Nat):Own em none 0 0 e size []:=⟨by simp,Nat.le_refl _,Nat.zero_le _,.inl ⟨rfl,rfl,rfl⟩⟩
theorem IsS.nil(h:PH)(ao:Option Addr)(cap size:Nat):IsS h ao 0 cap size []:=⟨by simp,Nat.zero_le _,by simp⟩
theorem Own.ofPt{b:Nat}{c:Array Value}{e n size:Nat}(h1:c.size=n*size)(h2:n<=maxLen):Own (pt b c e) (some ⟨b,0,none⟩) n n e size c.toList:=
 ⟨by simpa using h1,Nat.le_refl _,h2,.inr ⟨b,0,c,rfl,rfl,by omega,by rw[List.drop_zero,<-h1,<-Array.length_toList];exact List.take_length⟩⟩
theorem IsS.addr{h:PH}{ao:Option Addr}{n cap size:Nat}{xs:List Value}(x:IsS h ao n cap size xs){j:Nat}(hj:j<n)(hs:0<size):∃ a,ao=some a:=by
 obtain ⟨h1,_,h3⟩:=x;have:0<xs.length:=by rw[h1];exact Nat.mul_pos qo hs
 obtain ⟨a,ha,_⟩:=h3 0 xs[0] (by simp);exact ⟨a,ha⟩
section rules
variable {P:Program} {T:Tab} {w0:World} {ops:Array Oper} {Q:Exit->Act->World->Prop} {rest rest':List Oper} {n:Nat} {l l':Sl} {K:PH} {hs:List PH}
theorem run_load1{w:World}(hT:TabOK P T){t:Nat}{k:UK}(hk:asc T.kinds t=some k)(h1:k.one=true){a:Addr}{v:Value}(hc:w.cell? a=some v):
  (Instr.loadAt t (.pointer (some a))).run P w=.ok v w:=by
 obtain ⟨d,i,hd,hi,hs,hf⟩:=hT.one hk h1
 have hagg:(isAgg t).run P w=.ok false w:=by
  cases d <;> cases k <;> simp[UK.fits,UK.one] at hf h1 <;> simp[isAgg,run_underlying hd]
 simp[Instr.loadAt,Instr.sureAddr,loadVar,hagg,hc]
theorem run_store1{w:World}(hT:TabOK P T){t:Nat}{k:UK}(hk:asc T.kinds t=some k)(h1:k.one=true){a:Addr}{v u:Value}(hc:w.cell? a=some u)(hf:w.frozen? a=false)(hv:v.oneCell'=true):
  (Instr.storeAt t (.pointer (some a)) v).run P w=.ok () (w.setCell a v):=by
 obtain ⟨d,i,hd,hi,hs,_⟩:=hT.one hk h1;have hcells:v.cells=#[v]:=by cases v <;> simp[Value.oneCell',Value.cells] at hv ⊢
 have hadd:a.add 0=a:=by simp[Addr.add]
 simp[Instr.storeAt,Instr.sureAddr,storeVar,hcells,sizeOf,typeInfo,hi,hs,storeCells,hadd,run_store P w a v _ hv,hc,hf]
def ldAt(T:Tab)(ops:Array Oper)(n k:Nat)(rest:List Oper)(l:Sl):Option (Nat×Addr×List Oper×Sl):=
 match opAt T ops n k rest l with
 | some (o,r,l')=>match o.dst,o.op with
  | some d,.load t x=>match Nat.blt d n,asc T.kinds t,ev l' x with
   | true,some kd,some (.pointer (some a))=>cond kd.one (some (d,a,r,l')) none
   | _,_,_=>none
  | _,_=>none
 | none=>none
theorem ld(hT:TabOK P T)(k:Nat){d:Nat}{a:Addr}{v:Value}{h:PH}(h0:ldAt T ops n k rest l=some (d,a,rest',l'))(hm:In K hs h)(hc:Cell h a v)
  (hk:WL P w0 ops Q rest' n ((d,v)::l') K hs):WL P w0 ops Q rest n l K hs:=by
 unfold ldAt at h0
 split at h0
 ·rename_i o r l2 ho
  split at h0
  ·rename_i d' t x hd hop
   split at h0
   ·rename_i kd a' hb hkd hx;cases h1:kd.one with
    | false=>simp[h1] at h0
    | true=>
     simp only[h1,cond_true,Option.some.injEq,Prod.mk.injEq] at h0;obtain ⟨rfl,rfl,rfl,rfl⟩:=h0;refine WL.at' hT ho fun hg=>WL.val (R:=fun u K' hs'=>u=v/\K'=K/\hs'=hs) hd hb hg (fun A w ha hw=>⟨v,w,K,hs,?_,hw,I,I,I⟩) ?_
     ·have h2:=run_load1 (P:=P) hT hkd h1 (hw.cell hm hc);simp only[execOp,hop,ha.ev hx];simp[h2]
     ·rintro u K' hs' ⟨rfl,rfl,rfl⟩;exact hk
   ·simp at h0
  ·simp at h0
 ·simp at h0
theorem ldp(hT:TabOK P T)(k i:Nat){d b off ty:Nat}{v:Value}{c:Array Value}{fr:Nat×Nat}(h0:ldAt T ops n k rest l=some (d,⟨b,off,none⟩,rest',l'))(hi:hs[i]?=some (pt b c ty fr))(hv:c[off]?=some v)
  (hk:WL P w0 ops Q rest' n ((d,v)::l') K hs):WL P w0 ops Q rest n l K hs:=
 ld hT k h0 (.inr ⟨i,hi⟩) (Cell.pt hv) hk
def stAt(T:Tab)(ops:Array Oper)(n k:Nat)(rest:List Oper)(l:Sl):Option (Addr×Value×List Oper×Sl):=
 match opAt T ops n k rest l with
 | some (o,r,l')=>match o.dst,o.op with
  | none,.store t x y=>match asc T.kinds t,ev l' x,ev l' y with
   | some kd,some (.pointer (some a)),some v=>cond kd.one (some (a,v,r,l')) none
   | _,_,_=>none
  | _,_=>none
 | none=>none
theorem stp(hT:TabOK P T)(k i:Nat){b off ty:Nat}{v u:Value}{c:Array Value}(h0:stAt T ops n k rest l=some (⟨b,off,none⟩,v,rest',l'))(hi:hs[i]?=some (pt b c ty))(hu:c[off]?=some u)(hv:v.oneCell'=true)
  (hk:WL P w0 ops Q rest' n l' K (hs.set i (pt b (c.setIfInBounds off v) ty))):WL P w0 ops Q rest n l K hs:=by
 unfold stAt at h0
 split at h0
 ·rename_i o r l2 ho
  split at h0
  ·rename_i t x y hd hop
   split at h0
   ·rename_i kd a' v' hkd hx hy;cases h1:kd.one with
    | false=>simp[h1] at h0
    | true=>
     simp only[h1,cond_true,Option.some.injEq,Prod.mk.injEq] at h0;obtain ⟨rfl,rfl,rfl,rfl⟩:=h0;refine WL.at' hT ho fun hg=>WL.skp hd hg (fun A w ha hw=>⟨_,?_,hw.setCell hi (off:=off) v'⟩) hk;have hb:w.heap[b]?=some (.cells c ty (0,0)):=hw.own i _ hi b _ (by simp);have hc:w.cell? ⟨b,off,none⟩=some u:=hw.cell (.inr ⟨i,hi⟩) (Cell.pt hu);have hf:w.frozen? ⟨b,off,none⟩=false:=by simp[World.frozen?,hb]
     have h2:=run_store1 (P:=P) hT hkd h1 hc hf hv;simp only[execOp,hop,ha.ev hx,ha.ev hy];simp[h2]
   ·simp at h0
  ·simp at h0
 ·simp at h0
def bxAt(T:Tab)(ops:Array Oper)(n k:Nat)(rest:List Oper)(l:Sl):Option (Nat×Nat×Value×List Oper×Sl):=
 match opAt T ops n k rest l with
 | some (o,r,l')=>match o.dst,o.op with
  | some d,.box e x=>match Nat.blt d n,ev l' x with
   | true,some v=>some (d,e,v,r,l')
   | _,_=>none
  | _,_=>none
 | none=>none
theorem bx(hT:TabOK P T)(k:Nat){d e:Nat}{v:Value}(h0:bxAt T ops n k rest l=some (d,e,v,rest',l'))
  (hk:∀ b,WL P w0 ops Q rest' n ((d,.pointer (some ⟨b,0,none⟩))::l') K (pt b v.cells e::hs)):WL P w0 ops Q rest n l K hs:=by
 unfold bxAt at h0
 split at h0
 ·rename_i o r l2 ho
  split at h0
  ·rename_i d' e' x hd hop
   split at h0
   ·rename_i v' hb hx;simp only[Option.some.injEq,Prod.mk.injEq] at h0;obtain ⟨rfl,rfl,rfl,rfl,rfl⟩:=h0
    refine WL.at' hT ho fun hg=>WL.val (R:=fun u K' hs'=>∃ b,u=.pointer (some ⟨b,0,none⟩)/\K'=K/\hs'=pt b v'.cells e'::hs) hd hb hg
     (fun A w ha hw=>⟨.pointer (some ⟨w.heap.size,0,none⟩),_,K,_,?_,hw.alloc _,w.heap.size,rfl,rfl,rfl⟩) ?_
    ·simp only[execOp,hop,ha.ev hx];simp[Instr.box,newVar,newRow]
    ·rintro u K' hs' ⟨b,rfl,rfl,rfl⟩;exact hk b
   ·simp at h0
  ·simp at h0
 ·simp at h0
def alAt(T:Tab)(ops:Array Oper)(n k:Nat)(rest:List Oper)(l:Sl):Option (Nat×Nat×List Oper×Sl):=
 match opAt T ops n k rest l with
 | some (o,r,l')=>match o.dst,o.op with
  | some d,.alloc e=>match Nat.blt d n with
   | true=>some (d,e,r,l')
   | _=>none
  | _,_=>none
 | none=>none
theorem al(hT:TabOK P T)(k:Nat){d e:Nat}(z:Value)(h0:alAt T ops n k rest l=some (d,e,rest',l'))(hz:(P.info? e).bind (·.zero)=some z)
  (hk:∀ b,WL P w0 ops Q rest' n ((d,.pointer (some ⟨b,0,none⟩))::l') K (pt b z.cells e::hs)):WL P w0 ops Q rest n l K hs:=by
 unfold alAt at h0
 split at h0
 ·rename_i o r l2 ho
  split at h0
  ·rename_i d' e' hd hop
   split at h0
   ·rename_i hb;simp only[Option.some.injEq,Prod.mk.injEq] at h0;obtain ⟨rfl,rfl,rfl,rfl⟩:=h0
    refine WL.at' hT ho fun hg=>WL.val (R:=fun u K' hs'=>∃ b,u=.pointer (some ⟨b,0,none⟩)/\K'=K/\hs'=pt b z.cells e'::hs) hd hb hg
     (fun A w ha hw=>⟨.pointer (some ⟨w.heap.size,0,none⟩),_,K,_,?_,hw.alloc _,w.heap.size,rfl,rfl,rfl⟩) ?_
    ·obtain ⟨i,hi,hz'⟩:=Option.bind_eq_some_iff.1 hz;simp only[execOp,hop];simp[Instr.alloc,newVar,newRow,zeroValue,typeInfo,hi,hz']
    ·rintro u K' hs' ⟨b,rfl,rfl,rfl⟩;exact hk b
   ·simp at h0
  ·simp at h0
 ·simp at h0
def bsAt(T:Tab)(ops:Array Oper)(n k:Nat)(rest:List Oper)(l:Sl):Option (Nat×SlI×Nat×List (Nat×Value)×List Oper×Sl):=
 match opAt T ops n k rest l with
 | some (o,r,l')=>match o.dst,o.op with
  | some d,.buildSlice t len parts=>match Nat.blt d n,asc T.sls t,parts.toList.mapM (fun x=>(ev l' x.2).map (fun v=>(x.1,v))) with
   | true,some si,some vs=>some (d,si,len,vs,r,l')
   | _,_,_=>none
  | _,_=>none
 | none=>none
theorem evs_map{a:Act}{nn:Nat}{l:Sl}(ha:Ag nn l a):∀ (ps:List (Nat×Operand)) (vs:List (Nat×Value)),ps.mapM (fun x=>(ev l x.2).map (fun v=>(x.1,v)))=some vs->ps.map (fun x=>(x.1,a.eval x.2))=vs
 | [],vs,h=>by simp at h;subst h;rfl
 | p::ps,vs,h=>by
  simp only[List.mapM_cons] at h;cases h1:ev l p.2 with
  | none=>simp[h1] at h
  | some v=>
   cases h2:ps.mapM (fun x=>(ev l x.2).map (fun v=>(x.1,v))) with
   | none=>simp[h1,h2] at h
   | some r=>
    simp[h1,h2] at h;subst h;simp[ha.ev h1,evs_map ha ps r h2]
theorem lit(hT:TabOK P T)(k:Nat){d len:Nat}{si:SlI}{vs:List (Nat×Value)}(cells:Array Value)(h0:bsAt T ops n k rest l=some (d,si,len,vs,rest',l'))(hlen:len*si.size<=16777216)
  (hf:Instr.fill (fun i=>some (i*si.size,si.size)) ((Array.range (len*si.size)).map (fun i=>(if len*si.size=0 then (#[]:Array Value) else si.zero.cells)[i % (if len*si.size=0 then (#[]:Array Value) else si.zero.cells).size]!)) vs=some cells)
  (hk:∀ b,WL P w0 ops Q rest' n ((d,.slice (some ⟨b,0,none⟩) len len)::l') K (pt b cells si.elem::hs)):WL P w0 ops Q rest n l K hs:=by
 unfold bsAt at h0
 split at h0
 ·rename_i o r l2 ho
  split at h0
  ·rename_i d' t len' parts hd hop
   split at h0
   ·rename_i si' vs' hb hsi hvs;simp only[Option.some.injEq,Prod.mk.injEq] at h0;obtain ⟨rfl,rfl,rfl,rfl,rfl,rfl⟩:=h0
    refine WL.at' hT ho fun hg=>WL.val (R:=fun u K' hs'=>∃ b,u=.slice (some ⟨b,0,none⟩) len' len'/\K'=K/\hs'=pt b cells si'.elem::hs) hd hb hg
     (fun A w ha hw=>⟨.slice (some ⟨w.heap.size,0,none⟩) len' len',_,K,_,?_,hw.alloc _,w.heap.size,rfl,rfl,rfl⟩) ?_
    ·obtain ⟨h1,i,h2,h3,h4,h5⟩:=hT.sl hsi;have h6:=evs_map ha _ _ hvs;have h7:(parts.map fun (i,x)=>(i,A.eval x)).toList=vs':=by simpa using h6
     simp only[execOp,hop];have h8:¬(16777216<len'*si'.size):=by omega
     by_cases hz:len'*si'.size=0
     ·rw[if_pos hz] at hf;simp[Instr.buildSlice,run_underlying h1,sizeOf,typeInfo,h2,h4,hz,newRow,zeroValue,h3];rw[h6];simp[hz] at hf;simp[hf]
     ·simp only[if_neg hz] at hf;simp[Instr.buildSlice,run_underlying h1,sizeOf,typeInfo,h2,h4,h8,hz,newRow,zeroValue,h3];rw[h6];simp[hf]
    ·rintro u K' hs' ⟨b,rfl,rfl,rfl⟩;exact hk b
   ·simp at h0
  ·simp at h0
 ·simp at h0
end rules
theorem run_firstCells_isS{P:Program}{w0 w:World}{K:PH}{hs:List PH}(s:Sat w0 w K hs){h:PH}(hm:In K hs h){ao:Option Addr}{n cap size:Nat}{xs:List Value}(x:IsS h ao n cap size xs):
  (Builtin.firstCells size n (.slice ao n cap)).run P w=.ok xs.toArray w:=by
 obtain ⟨h1,h2,h3⟩:=x;cases ao with
 | none=>
  have:xs=[]:=by
   cases xs with
   | nil=>rfl
   | cons u r=>obtain ⟨a,ha,_⟩:=h3 0 u (by simp);cases ha
  subst this;simp[run_firstCells_none]
 | some a=>
  refine run_firstCells_some (P:=P) w size n a n cap xs h1 fun j u hu=>?_;obtain ⟨a',ha,hc⟩:=h3 j u hu;cases ha;exact s.cell hm hc
theorem take_drop_splice{α:Type}(cur xs news:List α)(off k:Nat)(h:(cur.drop off).take k=xs)(hk:off+k+news.length<=cur.length):
  ((cur.take (off+k)++news++cur.drop (off+k+news.length)).drop off).take (k+news.length)=xs++news:=by
 have e1:cur.take (off+k)=cur.take off++xs:=by rw[<-h,List.take_add]
 have hl:(cur.take off).length=off:=by simp;omega
 have hx:xs.length=k:=by rw[<-h];simp;omega
 rw[e1,List.append_assoc,List.append_assoc,List.drop_append_of_le_length qo,List.drop_of_length_le qo,List.nil_append,<-List.append_assoc,
  show k+news.length=(xs++news).length from by simp;omega]
 exact List.take_left
theorem run_append_Own{P:Program}{w0 w:World}{K:PH}{hs:List PH}(t ty e:TypeId)(i:TypeInfo)(z:Value)(ht:P.underlying t=some (.slice e))(hi:P.info? e=some i)(hz:i.zero=some z)
  (hzs:z.cells.size=i.size) (s:Sat w0 w K hs) {j:Nat} {h h2:PH} (hj:hs[j]?=some h) {ao ao2:Option Addr} {n cap m c2:Nat} {xs news:List Value} (o:Own h ao n cap e i.size xs)
  (hm:In K hs h2) (x:IsS h2 ao2 m c2 i.size news) (hsz:0<i.size) (h1:∀ u∈news,u.oneCell'=true) (hb:(n+m)*i.bytes<=140737488355328) (h63:n+m<=maxLen):
  ∃ ao' cap' h' w',(Builtin.append_ #[t,t] ty #[.slice ao n cap,.slice ao2 m c2]).run P w=.ok (.slice ao' (n+m) cap') w'/\Own h' ao' (n+m) cap' e i.size (xs++news)/\Sat w0 w' K (hs.set j h'):=by
 have hf:=run_firstCells_isS (P:=P) s hm x;have hlen:(xs++news).length=(n+m)*i.size:=by rw[List.length_append,o.1,x.1,Nat.add_mul]
 have hos:=o.isS;obtain ⟨o1,o2,o3,o4⟩:=o
 by_cases hroom:n+m<=cap
 ·rcases o4 with ⟨rfl,rfl,rfl⟩|⟨g,off,cur,rfl,rfl,hcs,htk⟩
  ·obtain rfl:n=0:=by omega
   obtain rfl:m=0:=by omega
   obtain rfl:xs=[]:=List.eq_nil_of_length_eq_zero (by simpa using o1);obtain rfl:news=[]:=List.eq_nil_of_length_eq_zero (by simpa using x.1);refine ⟨none,0,em,w,?_,Own.nil e i.size,?_⟩
   ·simp[Builtin.append_,run_underlying ht,sizeOf,typeInfo,hi,Builtin.lenOf,hf]
   ·have:hs.set j em=hs:=by
     have hjl:j<hs.length:=(List.getElem?_eq_some_iff.1 hj).1;have e2:hs[j]=em:=by rw[List.getElem?_eq_getElem hjl] at hj;exact Option.some.inj hj
     rw[<-e2];exact List.set_getElem_self hjl
    rw[this];exact s
  ·have hg:w.heap[g]?=some (.cells cur e (0,0)):=s.own j _ hj g _ (by simp)
   have hfit:off+n*i.size+news.length<=cur.size:=by
    rw[x.1,hcs,Nat.add_assoc,<-Nat.add_mul];exact Nat.add_le_add_left (Nat.mul_le_mul_right _ hroom) _
   have hst:=run_storeCells_at P g (off+n*i.size) e news 0 cur w hg (by simpa using hfit) h1;simp only[Nat.add_zero] at hst;refine ⟨some ⟨g,off,none⟩,cap,_,_,?_,⟨hlen,hroom,o3,.inr ⟨g,off,(cur.toList.take (off+n*i.size)++news++cur.toList.drop (off+n*i.size+news.length)).toArray,I,I,?_,?_⟩⟩,s.setRow hj _⟩
   ·simp[Builtin.append_,run_underlying ht,sizeOf,typeInfo,hi,Builtin.lenOf,hroom,hf,add_mk,hst]
   ·have:cur.toList.length=cur.size:=Array.length_toList;simp only[List.size_toArray,List.length_append,List.length_take,List.length_drop,this];omega
   ·have h5:=take_drop_splice cur.toList xs news off (n*i.size) htk (by simpa using hfit);rw[x.1] at h5;simpa[Nat.add_mul,x.1] using h5
 ·have hm0:0<m:=by omega
  obtain ⟨a2,rfl⟩:=x.addr hm0 hsz
  have hnews:∀ (j:Nat) v,news[j]?=some v->w.cell? (a2.add j)=some v:=fun j v hv=>by
   obtain ⟨a',ha,hc⟩:=x.2.2 j v hv;cases ha;exact s.cell hm hc
  have grown:∀ old,old<n+m->Own (pt w.heap.size (xs.toArray++news.toArray++Builtin.zeroCells z.cells (grownCap w (n+m) old e-(n+m))) e) (some ⟨w.heap.size,0,none⟩) (n+m) (grownCap w (n+m) old e) e i.size (xs++news) /\
    Sat w0 (w.drew.alloc (.cells (xs.toArray++news.toArray++Builtin.zeroCells z.cells (grownCap w (n+m) old e-(n+m))) e)) K (hs.set j (pt w.heap.size (xs.toArray++news.toArray++Builtin.zeroCells z.cells (grownCap w (n+m) old e-(n+m))) e)):=by
   intro old ho;have hge:=grownCap_ge w (n+m) old e;have hcm:grownCap w (n+m) old e<=maxLen:=grownCap_le_maxLen w (n+m) old e h63;refine ⟨⟨hlen,hge,hcm,.inr ⟨_,0,_,I,I,?_,?_⟩⟩,?_⟩
   ·simp only[Array.size_append,List.size_toArray,size_zeroCells,hzs,o1,x.1,<-Nat.add_mul,Nat.zero_add]
    congr 1
    omega
   ·simp only[Array.toList_append,List.append_assoc,List.drop_zero];rw[<-List.append_assoc,<-hlen];exact List.take_left
   ·refine s.upd hj I I I (by simp) ?_ ?_ ?_
    ·intro b ob hb';simp only[pt,sg] at hb'
     split at hb'
     ·rename_i e1;subst e1;cases hb';exact heap_alloc_new w.drew _
     ·cases hb'
    ·intro b hb' _;exact RowKit.Below.heap_alloc w.drew _ b hb'
    ·intro b ob hb' _;simp only[pt,sg] at hb'
     split at hb'
     ·rename_i e1;omega
     ·cases hb'
  rcases o4 with ⟨rfl,rfl,rfl⟩|⟨g,off,cur,rfl,rfl,hcs,htk⟩
  ·obtain rfl:n=0:=by omega
   obtain rfl:xs=[]:=List.eq_nil_of_length_eq_zero (by simpa using o1);have hr:=run_append_nil (P:=P) w t ty e i z ht hi hz a2 m c2 news x.1 hnews hm0 (by simp only[maxLen] at h63;omega) (by simp only[Nat.zero_add] at hb;omega);have hgr:=grown 0 qo;simp only[Nat.zero_add,List.nil_append,Array.empty_append] at hgr ⊢;exact ⟨_,_,_,_,hr,hgr.1,hgr.2⟩
  ·have holds:∀ (k:Nat) u,xs[k]?=some u->w.cell? ((⟨g,off,none⟩:Addr).add k)=some u:=fun k u hu=>by
    obtain ⟨a',ha,hc⟩:=hos.2.2 k u hu;cases ha;exact s.cell (.inr ⟨j,hj⟩) hc
   have hr:=run_append_grow (P:=P) w t ty e i z ht hi hz ⟨g,off,none⟩ n cap xs o1 holds a2 m c2 news x.1 hnews qo (by simp only[maxLen] at h63;omega) (growslice_fits qo hb);have hgr:=grown cap qo;exact ⟨_,_,_,_,hr,hgr.1,hgr.2⟩
section rules
variable {P:Program} {T:Tab} {w0:World} {ops:Array Oper} {Q:Exit->Act->World->Prop} {rest rest':List Oper} {n:Nat} {l l':Sl} {K:PH} {hs:List PH}
def apAt(T:Tab)(ops:Array Oper)(n k:Nat)(rest:List Oper)(l:Sl):Option (Nat×SlI×(Option Addr×Nat×Nat)×(Option Addr×Nat×Nat)×List Oper×Sl):=
 match opAt T ops n k rest l with
 | some (o,r,l')=>match o.dst,o.op with
  | some d,.call { callee:=.builtin .append,args,argTypes }=>match args.toList,argTypes.toList with
   | [x,y],[t,t']=>match Nat.blt d n,Nat.beq t t',asc T.sls t,ev l' x,ev l' y with
    | true,true,some si,some (.slice a1 n1 c1),some (.slice a2 n2 c2)=>some (d,si,(a1,n1,c1),(a2,n2,c2),r,l')
    | _,_,_,_,_=>none
   | _,_=>none
  | _,_=>none
 | none=>none
theorem app(hT:TabOK P T)(k i:Nat){d:Nat}{si:SlI}{ao ao2:Option Addr}{n1 c1 n2 c2:Nat}{h h2:PH}{xs news:List Value}(h0:apAt T ops n k rest l=some (d,si,(ao,n1,c1),(ao2,n2,c2),rest',l'))
  (hi:hs[i]?=some h) (o:Own h ao n1 c1 si.elem si.size xs) (hm:In K hs h2) (x:IsS h2 ao2 n2 c2 si.size news) (hz:si.zero.cells.size=si.size) (hsz:0<si.size) (h1:∀ u∈news,u.oneCell'=true)
  (hb:(n1+n2)*si.bytes<=140737488355328) (h63:n1+n2<=maxLen)
  (hk:∀ ao' cap' h',Own h' ao' (n1+n2) cap' si.elem si.size (xs++news)->WL P w0 ops Q rest' n ((d,.slice ao' (n1+n2) cap')::l') K (hs.set i h')):WL P w0 ops Q rest n l K hs:=by
 unfold apAt at h0
 split at h0
 ·rename_i oo r l2 ho
  split at h0
  ·rename_i d' args argTypes hd hop
   split at h0
   ·rename_i x' y' t t' e1 e2
    split at h0
    ·rename_i si' a1 m1 k1 a2 m2 k2 hb' htt hsi hx hy;simp only[Option.some.injEq,Prod.mk.injEq] at h0;obtain ⟨rfl,rfl,⟨rfl,rfl,rfl⟩,⟨rfl,rfl,rfl⟩,rfl,rfl⟩:=h0;have htt':t=t':=Nat.eq_of_beq_eq_true htt;subst htt';have a1':args=#[x',y']:=by cases args;simp_all
     have a2':argTypes=#[t,t]:=by cases argTypes;simp_all
     subst a1';subst a2';obtain ⟨g1,ii,g2,g3,g4,g5⟩:=hT.sl hsi
     refine WL.at' hT ho fun hg=>WL.val (R:=fun u K' hs'=>∃ ao' cap' h',u=.slice ao' (m1+m2) cap'/\Own h' ao' (m1+m2) cap' si'.elem si'.size (xs++news)/\K'=K/\hs'=hs.set i h') hd hb' hg
      (fun A w ha hw=>?_) ?_
     ·rw[<-g4] at o x hz hsz;rw[<-g5] at hb;obtain ⟨ao',cap',h',w',hr,ho',hs'⟩:=run_append_Own (P:=P) t oo.type si'.elem ii si'.zero g1 g2 g3 hz hw hi o hm x hsz h1 hb h63;refine ⟨_,w',K,_,?_,hs',ao',cap',h',I,by rw[<-g4];exact ho',I,I⟩;simp only[execOp,hop];simp[resolve,invoke,builtin,ha.ev hx,ha.ev hy,hr]
     ·rintro u K' hs' ⟨ao',cap',h',rfl,ho',rfl,rfl⟩;exact hk ao' cap' h' ho'
    ·simp at h0
   ·simp at h0
  ·simp at h0
 ·simp at h0
def ixAt(T:Tab)(ops:Array Oper)(n k:Nat)(rest:List Oper)(l:Sl):Option (Nat×SlI×(Option Addr×Nat×Nat)×Int×List Oper×Sl):=
 match opAt T ops n k rest l with
 | some (o,r,l')=>match o.dst,o.op with
  | some d,.indexAddr t x i=>match Nat.blt d n,asc T.sls t,ev l' x,ev l' i with
   | true,some si,some (.slice a1 n1 c1),some (.int _ j)=>some (d,si,(a1,n1,c1),j,r,l')
   | _,_,_,_=>none
  | _,_=>none
 | _=>none
theorem ixs(hT:TabOK P T)(k:Nat){d:Nat}{si:SlI}{ao:Option Addr}{n1 c1:Nat}{i:Int}{h:PH}{xs:List Value}(j:Nat)
  (h0:ixAt T ops n k rest l=some (d,si,(ao,n1,c1),i,rest',l')) (hj:i=(j:Int)) (x:IsS h ao n1 c1 si.size xs) (hjn:j<n1) (hsz:0<si.size)
  (hk:∀ a,ao=some a->WL P w0 ops Q rest' n ((d,.pointer (some (a.add (j*si.size))))::l') K hs):WL P w0 ops Q rest n l K hs:=by
 unfold ixAt at h0
 split at h0
 ·rename_i o r l2 ho
  split at h0
  ·rename_i d' t x' i' hd hop
   split at h0
   ·rename_i si' a1 m1 k1 kk jj hb hsi hx hi;simp only[Option.some.injEq,Prod.mk.injEq] at h0;obtain ⟨rfl,rfl,⟨rfl,rfl,rfl⟩,rfl,rfl,rfl⟩:=h0;subst hj;obtain ⟨g1,ii,g2,g3,g4,g5⟩:=hT.sl hsi;obtain ⟨a,rfl⟩:=x.addr hjn hsz;refine WL.at' hT ho fun hg=>WL.val (R:=fun u K' hs'=>u=.pointer (some (a.add (j*si'.size)))/\K'=K/\hs'=hs) hd hb hg (fun A w ha hw=>⟨_,w,K,hs,?_,hw,I,I,I⟩) ?_
    ·have h1:(j:Int)<(m1:Int):=by omega
     simp only[execOp,hop,ha.ev hx,ha.ev hi];simp[Instr.indexAt,asIntOf,run_underlying g1,sizeOf,typeInfo,g2,g4,hjn]
    ·rintro u K' hs' ⟨rfl,rfl,rfl⟩;exact hk a I
   ·simp at h0
  ·simp at h0
 ·simp at h0
theorem ix1(hT:TabOK P T)(k:Nat){d:Nat}{si:SlI}{ao:Option Addr}{n1 c1:Nat}{i:Int}{h:PH}{xs:List Value}{u:Value}(j:Nat)
  (h0:ixAt T ops n k rest l=some (d,si,(ao,n1,c1),i,rest',l')) (hj:i=(j:Int)) (hsz:si.size=1) (x:IsS h ao n1 c1 1 xs) (hu:xs[j]?=some u)
  (hk:∀ a,Cell h a u->WL P w0 ops Q rest' n ((d,.pointer (some a))::l') K hs):WL P w0 ops Q rest n l K hs:=by
 have hjn:j<n1:=by
  have h1:=(List.getElem?_eq_some_iff.1 hu).1;have h2:=x.1;omega
 refine ixs hT k j h0 hj (h:=h) (xs:=xs) (by rw[hsz];exact x) hjn qo fun a ha=>?_;obtain ⟨a',ha',hc⟩:=x.2.2 j u hu;rw[ha] at ha';cases ha';rw[hsz,Nat.mul_one];exact hk _ hc
def slAt(T:Tab)(ops:Array Oper)(n k:Nat)(rest:List Oper)(l:Sl):Option (Nat×SlI×(Option Addr×Nat×Nat)×Option Int×Option Int×List Oper×Sl):=
 match opAt T ops n k rest l with
 | some (o,r,l')=>match o.dst,o.op with
  | some d,.slice t x none none none=>match Nat.blt d n,asc T.sls t,ev l' x with
   | true,some si,some (.slice a1 n1 c1)=>some (d,si,(a1,n1,c1),none,none,r,l')
   | _,_,_=>none
  | some d,.slice t x (some lo) none none=>match Nat.blt d n,asc T.sls t,ev l' x,ev l' lo with
   | true,some si,some (.slice a1 n1 c1),some (.int _ i)=>some (d,si,(a1,n1,c1),some i,none,r,l')
   | _,_,_,_=>none
  | some d,.slice t x none (some hi) none=>match Nat.blt d n,asc T.sls t,ev l' x,ev l' hi with
   | true,some si,some (.slice a1 n1 c1),some (.int _ i)=>some (d,si,(a1,n1,c1),none,some i,r,l')
   | _,_,_,_=>none
  | some d,.slice t x (some lo) (some hi) none=>match Nat.blt d n,asc T.sls t,ev l' x,ev l' lo,ev l' hi with
   | true,some si,some (.slice a1 n1 c1),some (.int _ i),some (.int _ j)=>some (d,si,(a1,n1,c1),some i,some j,r,l')
   | _,_,_,_,_=>none
  | _,_=>none
 | _=>none
def cutA(ao:Option Addr)(cap lo size:Nat):Option Addr:=if cap=lo then ao else ao.map (·.add (lo*size))
theorem slAt_run{k d:Nat}{si:SlI}{ao:Option Addr}{n1 c1:Nat}{lo hi:Option Int}(hT:TabOK P T)(L H:Nat)
  (h0:slAt T ops n k rest l=some (d,si,(ao,n1,c1),lo,hi,rest',l')) (hL:lo.getD 0=(L:Int)) (hH:hi.getD n1=(H:Int)) (h1:L<=H) (h2:H<=c1):
  ∃ o,opAt T ops n k rest l=some (o,rest',l')/\o.dst=some d/\Nat.blt d n=true /\
   ∀ a w,Ag n l' a->(execOp a.eval o).run P w=.ok (.value (.slice (cutA ao c1 L si.size) (H-L) (c1-L))) w:=by
 unfold slAt at h0
 split at h0
 ·rename_i o r l2 ho;have hLH:(L:Int)<=(H:Int):=by omega
  have hHc:(H:Int)<=(c1:Int):=by omega
  split at h0
  ·rename_i d' t x hd hop
   split at h0
   ·rename_i si' a1 m1 k1 hb hsi hx;simp only[Option.some.injEq,Prod.mk.injEq] at h0;obtain ⟨rfl,rfl,⟨rfl,rfl,rfl⟩,rfl,rfl,rfl,rfl⟩:=h0;refine ⟨o,ho,hd,hb,fun a w ha=>?_⟩;obtain ⟨g1,ii,g2,g3,g4,g5⟩:=hT.sl hsi;simp only[Option.getD_none] at hL hH;obtain rfl:L=0:=by omega
    obtain rfl:m1=H:=by omega
    simp only[execOp,hop,ha.ev hx];simp[Instr.sliceAt,Instr.slice,run_underlying g1,Instr.sliceBounds,sizeOf,typeInfo,g2,cutA]
   ·simp at h0
  ·rename_i d' t x lo' hd hop
   split at h0
   ·rename_i si' a1 m1 k1 kk i hb hsi hx hi;simp only[Option.some.injEq,Prod.mk.injEq] at h0;obtain ⟨rfl,rfl,⟨rfl,rfl,rfl⟩,rfl,rfl,rfl,rfl⟩:=h0;refine ⟨o,ho,hd,hb,fun a w ha=>?_⟩;obtain ⟨g1,ii,g2,g3,g4,g5⟩:=hT.sl hsi;simp only[Option.getD_none,Option.getD_some] at hL hH;subst hL;obtain rfl:m1=H:=by omega
    simp only[execOp,hop,ha.ev hx,Option.map_some,ha.ev hi];simp[Instr.sliceAt,Instr.slice,run_underlying g1,Instr.sliceBounds,Instr.sliceBound,asIntOf,sizeOf,typeInfo,g2,g4,cutA,h1]
   ·simp at h0
  ·rename_i d' t x hi' hd hop
   split at h0
   ·rename_i si' a1 m1 k1 kk i hb hsi hx hi;simp only[Option.some.injEq,Prod.mk.injEq] at h0;obtain ⟨rfl,rfl,⟨rfl,rfl,rfl⟩,rfl,rfl,rfl,rfl⟩:=h0;refine ⟨o,ho,hd,hb,fun a w ha=>?_⟩;obtain ⟨g1,ii,g2,g3,g4,g5⟩:=hT.sl hsi;simp only[Option.getD_none,Option.getD_some] at hL hH;obtain rfl:L=0:=by omega
    subst hH;simp only[execOp,hop,ha.ev hx,Option.map_some,ha.ev hi];simp[Instr.sliceAt,Instr.slice,run_underlying g1,Instr.sliceBounds,Instr.sliceBound,asIntOf,sizeOf,typeInfo,g2,cutA,h2]
   ·simp at h0
  ·rename_i d' t x lo' hi' hd hop
   split at h0
   ·rename_i si' a1 m1 k1 kk i kk2 j hb hsi hx hi hj;simp only[Option.some.injEq,Prod.mk.injEq] at h0;obtain ⟨rfl,rfl,⟨rfl,rfl,rfl⟩,rfl,rfl,rfl,rfl⟩:=h0;refine ⟨o,ho,hd,hb,fun a w ha=>?_⟩;obtain ⟨g1,ii,g2,g3,g4,g5⟩:=hT.sl hsi;simp only[Option.getD_some] at hL hH;subst hL;subst hH;simp only[execOp,hop,ha.ev hx,Option.map_some,ha.ev hi,ha.ev hj];simp[Instr.sliceAt,Instr.slice,run_underlying g1,Instr.sliceBounds,Instr.sliceBound,asIntOf,sizeOf,typeInfo,g2,g4,cutA,h1,h2]
   ·simp at h0
  ·simp at h0
 ·simp at h0
theorem IsS.cut{h:PH}{ao:Option Addr}{n1 c1 size:Nat}{xs ys:List Value}(x:IsS h ao n1 c1 size xs)(L N:Nat)(hN:L+N<=n1)(hy:(xs.drop (L*size)).take (N*size)=ys):
  IsS h (cutA ao c1 L size) N (c1-L) size ys:=by
 obtain ⟨h1,h2,h3⟩:=x;have hle:L*size+N*size<=xs.length:=by rw[h1,<-Nat.add_mul];exact Nat.mul_le_mul_right _ hN
 refine ⟨by rw[<-hy];simp;omega,by omega,fun j u hu=>?_⟩;rw[<-hy] at hu
 have hj:j<N*size:=by
  have:=(List.getElem?_eq_some_iff.1 hu).1;simp at this;omega
 rw[List.getElem?_take_of_lt hj,List.getElem?_drop] at hu;obtain ⟨a,ha,hc⟩:=h3 _ u hu;have hN0:N≠0:=fun e=>by rw[e] at hj;omega
 refine ⟨a.add (L*size),by rw[cutA,if_neg qo,ha];rfl,?_⟩
 have:(a.add (L*size)).add j=a.add (L*size+j):=by
  obtain ⟨b,o,sp⟩:=a;obtain ⟨hsp,_⟩:=hc;unfold Addr.add
  by_cases h0:L*size=0
  ·simp[h0]
  ·by_cases h4:j=0
   ·subst h4;simp[h0]
   ·simp[h0,h4,Nat.add_assoc]
 rw[this];exact hc
theorem sl(hT:TabOK P T)(k:Nat){d:Nat}{si:SlI}{ao:Option Addr}{n1 c1:Nat}{lo hi:Option Int}{h:PH}{xs ys:List Value}(L N:Nat)
  (h0:slAt T ops n k rest l=some (d,si,(ao,n1,c1),lo,hi,rest',l')) (x:IsS h ao n1 c1 si.size xs) (hL:lo.getD 0=(L:Int)) (hH:hi.getD n1=((L+N:Nat):Int)) (hN:L+N<=n1)
  (hy:(xs.drop (L*si.size)).take (N*si.size)=ys)
  (hk:∀ ao' cap',IsS h ao' N cap' si.size ys->WL P w0 ops Q rest' n ((d,.slice ao' N cap')::l') K hs):WL P w0 ops Q rest n l K hs:=by
 obtain ⟨o,ho,hd,hb,hrun⟩:=slAt_run (P:=P) hT L (L+N) h0 hL hH qo (by have:=x.2.1;omega);refine WL.at' hT ho fun hg=>WL.val (R:=fun u K' hs'=>u=.slice (cutA ao c1 L si.size) N (c1-L)/\K'=K/\hs'=hs) hd hb hg (fun A w ha hw=>⟨_,w,K,hs,hrun A w ha,hw,?_,I,I⟩) ?_
 ·rw[Nat.add_sub_cancel_left]
 ·rintro u K' hs' ⟨rfl,rfl,rfl⟩;exact hk _ _ (x.cut L N hN hy)
theorem WL.enter{o:Oper}{d g:Nat}{vs:List Value}{R:Value->PH->List PH->Prop}(hd:o.dst=some d)(hb:Nat.blt d n=true)(hg:gOK ops l o.guard=some true)
  (h:∀ a w,Ag n l a->(execOp a.eval o).run P w=.ok (.enter g vs.toArray) w) (hc:Ct P w0 g vs K hs R)
  (hk:∀ v K' hs',R v K' hs'->WL P w0 ops Q rest n ((d,v)::l) K' hs'):WL P w0 ops Q (o::rest) n l K hs:=by
 intro a w ha hw;have h1:=gOK_wanted ha hg;unfold wpList;rw[if_pos h1];refine .inl ?_;unfold Oper.wp;rw[h a w ha];simp only[Oper.upon];refine (hc.2 w hw).mono ?_;rintro e w' ⟨v,K',hs',rfl,hR,hw'⟩;simp only[hd];exact hk v K' hs' hR _ _ (ha.put hb) hw'
def clAt(T:Tab)(ops:Array Oper)(n k:Nat)(rest:List Oper)(l:Sl):Option (Nat×Nat×List Value×List Oper×Sl):=
 match opAt T ops n k rest l with
 | some (o,r,l')=>match o.dst,o.op with
  | some d,.call { callee:=.value f,args,.. }=>match Nat.blt d n,ev l' f,args.toList.mapM (ev l') with
   | true,some (.func (.func g) first captured),some vs=>some (d,g,first.toList++(vs++captured.toList),r,l')
   | _,_,_=>none
  | _,_=>none
 | _=>none
theorem ev_map{a:Act}{nn:Nat}{l:Sl}(ha:Ag nn l a):∀ (ps:List Operand) (vs:List Value),ps.mapM (ev l)=some vs->ps.map a.eval=vs
 | [],vs,h=>by simp at h;subst h;rfl
 | p::ps,vs,h=>by
  simp only[List.mapM_cons] at h;cases h1:ev l p with
  | none=>simp[h1] at h
  | some v=>
   cases h2:ps.mapM (ev l) with
   | none=>simp[h1,h2] at h
   | some r=>
    simp[h1,h2] at h;subst h;simp[ha.ev h1,ev_map ha ps r h2]
theorem cl(hT:TabOK P T)(k:Nat){d g:Nat}{vs:List Value}{R:Value->PH->List PH->Prop}(h0:clAt T ops n k rest l=some (d,g,vs,rest',l'))(hc:Ct P w0 g vs K hs R)
  (hk:∀ v K' hs',R v K' hs'->WL P w0 ops Q rest' n ((d,v)::l') K' hs'):WL P w0 ops Q rest n l K hs:=by
 unfold clAt at h0
 split at h0
 ·rename_i o r l2 ho
  split at h0
  ·rename_i d' f args ats hd hop
   split at h0
   ·rename_i g' first captured vs' hb hf hvs
    simp only[Option.some.injEq,Prod.mk.injEq] at h0;obtain ⟨rfl,rfl,rfl,rfl,rfl⟩:=h0;refine WL.at' hT ho fun hg=>WL.enter hd hb hg (fun A w ha=>?_) hc hk;have h6:=ev_map ha _ _ hvs
    have h7:args.map A.eval=vs'.toArray:=by
     apply Array.ext'
     simpa using h6
    have hcal:=hc.1;unfold callable at hcal;simp only[execOp,hop];cases hfn:P.funcs[g']? with
    | none=>simp[hfn] at hcal
    | some fn=>
     simp only[hfn,Bool.and_eq_true,Bool.not_eq_true'] at hcal;have hbn:¬fn.body=none:=fun e=>by simp[e] at hcal
     have hnm : ¬ fn.name = "runtime.NumGoroutine" := by simpa using hcal.2
     simp[resolve,h7,ha.ev hf,Deferred.ofValue,invoke,callFunc,hfn,hbn,hnm]
   ·simp at h0
  ·simp at h0
 ·simp at h0
end rules
theorem Sat.iff{w0 w:World}{K:PH}{hs:List PH}:Sat w0 w K hs↔(w.os=w0.os/\w.tape=w0.tape/\w.output=w0.output/\w0.heap.size<=w.heap.size/\(∀ b o,K b=some o->w.heap[b]?=some o) /\
  (∀ h∈hs,∀ b o,h b=some o->w.heap[b]?=some o/\K b=none))/\hs.Pairwise (fun h h'=>∀ b,h b=none\/h' b=none):=by
 constructor
 ·intro s;refine ⟨⟨s.os,s.tape,s.output,s.size,s.imm,fun h hm b o hb=>?_⟩,?_⟩
  ·obtain ⟨i,hi⟩:=List.getElem?_of_mem hm;exact ⟨s.own i h hi b o hb,s.apart i h hi b o hb⟩
  ·rw[List.pairwise_iff_getElem];intro i j hi hj hij b;cases hb:hs[i] b with
   | none=>exact .inl rfl
   | some o=>exact .inr (s.sep i j _ _ (List.getElem?_eq_getElem hi) (List.getElem?_eq_getElem hj) qo b o hb)
 ·rintro ⟨⟨h1,h2,h3,h4,h5,h6⟩,h7⟩;rw[List.pairwise_iff_getElem] at h7;refine ⟨h1,h2,h3,h4,h5,fun i h hi b o hb=>(h6 h (List.mem_of_getElem? hi) b o hb).1,fun i h hi b o hb=>(h6 h (List.mem_of_getElem? hi) b o hb).2,fun i j h h' hi hj hij b o hb=>?_⟩;obtain ⟨hi1,rfl⟩:=List.getElem?_eq_some_iff.1 hi;obtain ⟨hj1,rfl⟩:=List.getElem?_eq_some_iff.1 hj;rcases Nat.lt_or_gt_of_ne hij with hlt|hlt
  ·rcases h7 i j hi1 hj1 hlt b with h|h
   ·rw[h] at hb;cases hb
   ·exact h
  ·rcases h7 j i hj1 hi1 hlt b with h|h
   ·exact h
   ·rw[h] at hb;cases hb
theorem Sat.perm{w0 w:World}{K:PH}{hs hs':List PH}(p:hs.Perm hs')(s:Sat w0 w K hs):Sat w0 w K hs':=by
 rw[Sat.iff] at s ⊢;obtain ⟨⟨h1,h2,h3,h4,h5,h6⟩,h7⟩:=s;exact ⟨⟨h1,h2,h3,h4,h5,fun h hm=>h6 h (p.mem_iff.2 hm)⟩,(p.pairwise_iff (fun {x y} hxy b=>(hxy b).symm)).1 h7⟩
theorem perm_front{α:Type}:∀ (l:List α) (i:Nat) (x:α),l[i]?=some x->l.Perm (x::l.eraseIdx i)
 | [],i,x,h=>by simp at h
 | a::l,0,x,h=>by simp at h;subst h;simp
 | a::l,i+1,x,h=>by
  have:=perm_front l i x (by simpa using h);simp only[List.eraseIdx_cons_succ];exact (this.cons a).trans (List.Perm.swap x a _)
theorem perm_set{α:Type}:∀ (l:List α) (i:Nat) (x y:α),l[i]?=some x->(y::l.eraseIdx i).Perm (l.set i y)
 | [],i,x,y,h=>by simp at h
 | a::l,0,x,y,h=>by simp
 | a::l,i+1,x,y,h=>by
  have:=perm_set l i x y (by simpa using h);simp only[List.eraseIdx_cons_succ,List.set_cons_succ];exact (List.Perm.swap a y _).trans (this.cons a)
theorem Ct.at{P:Program}{w0:World}{f:FuncId}{args:List Value}{K:PH}{hs:List PH}{h:PH}{S:Value->PH->PH->Prop}(i:Nat)(hi:hs[i]?=some h)
  (c:Ct P w0 f args K (h::hs.eraseIdx i) (fun v K' hs'=>∃ h',hs'=h'::hs.eraseIdx i/\S v K' h')):Ct P w0 f args K hs (fun v K' hs'=>∃ h',hs'=hs.set i h'/\S v K' h'):=by
 refine ⟨c.1,fun w hw=>(c.2 w (hw.perm (perm_front hs i h hi))).mono ?_⟩;rintro e w' ⟨v,K',hs',rfl,⟨h',rfl,hS⟩,hw'⟩;exact ⟨v,K',_,I,⟨h',I,hS⟩,hw'.perm (perm_set hs i h h' hi)⟩
theorem Ct.atN{P:Program}{w0:World}{f:FuncId}{args:List Value}{K:PH}{hs:List PH}{h:PH}{S:Value->PH->PH->List PH->Prop}(i:Nat)(hi:hs[i]?=some h)
  (c:Ct P w0 f args K (h::hs.eraseIdx i) (fun v K' hs'=>∃ h' new,hs'=new++h'::hs.eraseIdx i/\S v K' h' new)):Ct P w0 f args K hs (fun v K' hs'=>∃ h' new,hs'=new++hs.set i h'/\S v K' h' new):=by
 refine ⟨c.1,fun w hw=>(c.2 w (hw.perm (perm_front hs i h hi))).mono ?_⟩;rintro e w' ⟨v,K',hs',rfl,⟨h',new,rfl,hS⟩,hw'⟩;exact ⟨v,K',_,I,⟨h',new,I,hS⟩,hw'.perm ((perm_set hs i h h' hi).append_left new)⟩
section drop
variable {P:Program} {w0:World} {ops:Array Oper} {Q:Exit->Act->World->Prop} {rest:List Oper} {n:Nat} {l:Sl} {K h:PH} {hs:List PH} {c:Code} {e:Exit}
theorem WL.drop(hk:WL P w0 ops Q rest n l K hs):WL P w0 ops Q rest n l K (h::hs):=fun a w ha hw=>hk a w ha hw.dropHead
theorem WC.drop(hk:WC P w0 c Q n l K hs):WC P w0 c Q n l K (h::hs):=fun a w ha hw=>hk a w ha hw.dropHead
theorem WQ.drop(hk:WQ w0 Q e n l K hs):WQ w0 Q e n l K (h::hs):=fun a w ha hw=>hk a w ha hw.dropHead
theorem WL.em(hk:WL P w0 ops Q rest n l K (En.em::hs)):WL P w0 ops Q rest n l K hs:=fun a w ha hw=>hk a w ha hw.addEm
theorem WC.em(hk:WC P w0 c Q n l K (En.em::hs)):WC P w0 c Q n l K hs:=fun a w ha hw=>hk a w ha hw.addEm
theorem WQ.em(hk:WQ w0 Q e n l K (En.em::hs)):WQ w0 Q e n l K hs:=fun a w ha hw=>hk a w ha hw.addEm
theorem WL.perm{hs':List PH}(p:hs.Perm hs')(hk:WL P w0 ops Q rest n l K hs'):WL P w0 ops Q rest n l K hs:=fun a w ha hw=>hk a w ha (hw.perm p)
theorem WC.perm{hs':List PH}(p:hs.Perm hs')(hk:WC P w0 c Q n l K hs'):WC P w0 c Q n l K hs:=fun a w ha hw=>hk a w ha (hw.perm p)
theorem WQ.perm{hs':List PH}(p:hs.Perm hs')(hk:WQ w0 Q e n l K hs'):WQ w0 Q e n l K hs:=fun a w ha hw=>hk a w ha (hw.perm p)
end drop
theorem In.cons{K h x:PH}{hs:List PH}(hm:In K hs h):In K (x::hs) h:=by
 rcases hm with h1|⟨i,h1⟩
 ·exact .inl h1
 ·exact .inr ⟨i+1,by simpa using h1⟩
theorem i64w{x:Int}(h : -9223372036854775808<=x/\x<=9223372036854775807):Value.int .i64 (IntKind.i64.wrap x)=.int .i64 x:=by rw[IntWalk.i64_in _ h]
theorem u64w{x:Int}(h:0<=x/\x<=18446744073709551615):Value.int .u64 (IntKind.u64.wrap x)=.int .u64 x:=by rw[IntWalk.u64_in _ h]
theorem u32w{x:Int}(h:0<=x/\x<=4294967295):Value.int .u32 (IntKind.u32.wrap x)=.int .u32 x:=by rw[IntWalk.u32_in _ h]
theorem u8w{x:Int}(h:0<=x/\x<=255):Value.int .u8 (IntKind.u8.wrap x)=.int .u8 x:=by rw[IntWalk.u8_in _ h]
theorem u8m(n:Nat):Value.int .u8 (IntKind.u8.wrap (n:Int))=.int .u8 (n % 256:Nat):=by
 simp[IntKind.wrap,IntKind.bits,IntKind.signed]
theorem u64m(n:Nat):Value.int .u64 (IntKind.u64.wrap (n:Int))=.int .u64 (n % 18446744073709551616:Nat):=by
 simp[IntKind.wrap,IntKind.bits,IntKind.signed]
end
section
section tree
variable {P:Program} {ops:Array Oper} {md:Region.Mode} {S:Array Bool->World->Prop}
def nrm(q:Act->World->Prop):Exit->Act->World->Prop
 | .normal,a,w=>q a w
 | _,_,_=>False
theorem upon_q{o:Oper}{a:Act}{K:Act->World->Prop}{Q Q':Exit->Act->World->Prop}(hp:∀ c a w,Q (.panic c) a w->Q' (.panic c) a w)(hg:∀ a w,Q .outgrown a w->Q' .outgrown a w){r:Result Next}(h:o.upon P a K Q r):o.upon P a K Q' r:=by
 cases r with
 | ok n w'=>
  cases n <;> simp only[Oper.upon] at h ⊢ <;> first
   | exact h
   | (
     refine Calls.mono h fun e w'' he=>?_
     cases e with
     | returned v=>exact he
     | panicked c=>exact hp _ _ _ he
     | outgrown=>obtain ⟨a,w,hh⟩:=he;exact ⟨a,w,hg _ _ hh⟩)
 | halt x w'=>
  cases x <;> simp only[Oper.upon] at h ⊢ <;> first
   | exact hp _ _ _ h
   | exact h
theorem wpOp_q{i:Nat}{K:Act->World->Prop}{Q Q':Exit->Act->World->Prop}(hq:∀ e a w,Q e a w->Q' e a w){a:Act}{w:World}(h:wpOp P ops Q i K a w):wpOp P ops Q' i K a w:=by
 unfold wpOp at *
 split
 ·exact by simpa[*] using h
 ·rename_i o ho;simp only[ho] at h
  split
  ·rename_i hw;simp only[hw,if_true] at h;exact h.imp (upon_q (fun c=>hq (.panic c)) (hq .outgrown)) (fun ⟨h1,a,w,h2⟩=>⟨h1,a,w,hq _ _ _ h2⟩)
  ·rename_i hw;simp only[hw] at h;exact h
def tr(P:Program)(md:Region.Mode)(ops:Array Oper)(q:Act->World->Prop)(S:Array Bool->World->Prop):Nat->Array Bool->Act->World->Prop
 | 0,listed,a,w=>Region.ready md ops listed=[]/\q a w
 | f+1,listed,a,w=>(Region.ready md ops listed=[]->q a w) /\
  ∀ i∈Region.ready md ops listed,wpOp P ops (nrm q) i (fun a' w'=>S (listed.setIfInBounds i true) w'/\tr P md ops q S f (listed.setIfInBounds i true) a' w') a w
theorem tr_any{q:Act->World->Prop}{Q:Exit->Act->World->Prop}(hq:∀ e a w,nrm q e a w->Q e a w):∀ (f:Nat) (listed:Array Bool) (a:Act) (w:World),tr P md ops q S f listed a w->wpAny P md ops Q f listed a w
 | 0,_,_,_,h=>⟨h.1,hq .normal _ _ h.2⟩
 | f+1,_,_,_,h=>⟨fun h0=>hq .normal _ _ (h.1 h0),fun i hi=>wpOp_mono (fun a' w' h'=>tr_any hq f _ a' w' h'.2) (wpOp_q hq (h.2 i hi))⟩
def Closed(md:Region.Mode)(ops:Array Oper)(L:Array Bool):Prop:=L.size=ops.size/\∀ j oj,ops[j]?=some oj->L.getD j false=true->∀ e∈oj.after,Region.binds md e=true->L.getD e.on false=true
theorem Closed.set{L:Array Bool}{i:Nat}(c:Closed md ops L)(hr:i∈Region.ready md ops L):Closed md ops (L.setIfInBounds i true):=by
 obtain ⟨_,oi,hoi,hall⟩:=mem_ready.1 hr;refine ⟨by simpa using c.1,?_⟩;intro j oj hj hl e he hb
 by_cases hij:i=j
 ·subst hij;obtain rfl:oj=oi:=Option.some.inj (hj.symm.trans hoi);exact getD_set_true (hall e he hb)
 ·rw[getD_set_ne false hij] at hl;exact getD_set_true (c.2 j oj hj hl e he hb)
theorem tr_first{q:Act->World->Prop}{i:Nat}{oi:Oper}{v:Value}(hi:ops[i]?=some oi)(hsel:∀ (j:Nat) (o:Oper) cs b,ops[j]?=some o->o.op≠.select cs b):
  ∀ (f:Nat) (listed:Array Bool) (a:Act) (w:World),Closed md ops listed ->
   (∀ j oj,ops[j]?=some oj->j≠i->listed.getD j true=false->(∀ e∈oj.after,Region.binds md e=true->e.on≠i)->oi.apart ops oj=true) ->
   i∈Region.ready md ops listed->YieldsIf P ops (fun w=>∃ L:Array Bool,Closed md ops L/\L.getD i true=false/\S L w) oi v a->S listed w ->
   (∀ (L:Array Bool) w',S L w'->S (L.setIfInBounds i true) w')->(∀ (L:Array Bool) w',S (L.setIfInBounds i true) w'->S L w') ->
   tr P md ops q S f (listed.setIfInBounds i true) (a.put oi.dst v) w->tr P md ops q S (f+1) listed a w:=by
 intro f
 induction f with
 | zero=>
  intro listed a w hc _ hr hy hS hup hdown H;refine ⟨fun h=>(by rw[h] at hr;cases hr),fun j hj=>?_⟩
  by_cases hji:j=i
  ·subst hji;exact hy.wpOp hi ⟨listed,hc,(mem_ready.1 hr).1,hS⟩ ⟨hup _ _ hS,H⟩
  ·have:=ready_mono hj hji;rw[H.1] at this;cases this
 | succ f ih=>
  intro listed a w hc hfree hr hy hS hup hdown H;refine ⟨fun h=>(by rw[h] at hr;cases hr),fun j hj=>?_⟩
  by_cases hji:j=i
  ·subst hji;exact hy.wpOp hi ⟨listed,hc,(mem_ready.1 hr).1,hS⟩ ⟨hup _ _ hS,H⟩
  ·have h1:=H.2 j (ready_mono hj hji);obtain ⟨hjun,oj,hoj,hall⟩:=mem_ready.1 hj
   have hnot:∀ e∈oj.after,Region.binds md e=true->e.on≠i:=fun e he hb heq=>by
    have h1:=hall e he hb;have h0:=(mem_ready.1 hr).1;rw[heq] at h1;rcases Nat.lt_or_ge i listed.size with h'|h'
    ·simp[h'] at h0 h1;rw[h0] at h1;cases h1
    ·simp[Array.getElem?_eq_none h'] at h1
   have h2:=wpOp_putIf hoj (hfree j oj hoj hji hjun hnot) (fun cs b=>hsel i oi cs b hi) (fun cs b=>hsel j oj cs b hoj) (fun c a w h=>h) hy h1
   have hfree':∀ k ok,ops[k]?=some ok->k≠i->(listed.setIfInBounds j true).getD k true=false ->
     (∀ e∈ok.after,Region.binds md e=true->e.on≠i)->oi.apart ops ok=true:=fun k ok hk hki hun hno=>by
    refine hfree k ok hk hki ?_ hno
    by_cases hjk:j=k
    ·subst hjk;exact hjun
    ·rw[getD_set_ne true hjk] at hun;exact hun
   refine wpOp_mono (fun a' w' h3=>?_) h2;obtain ⟨g1,g2,g3⟩:=h3;have e1:(listed.setIfInBounds i true).setIfInBounds j true=(listed.setIfInBounds j true).setIfInBounds i true:=Array.setIfInBounds_comm _ _ (Ne.symm hji);rw[e1] at g2 g3;have g4:=hdown _ _ g2;exact ⟨g4,ih (listed.setIfInBounds j true) a' w' (hc.set hj) hfree' (ready_mono hr (Ne.symm hji)) g1 g4 hup hdown g3⟩
end tree
def planOK(md:Region.Mode)(ops:Array Oper):List Nat->Array Bool->Bool
 | [],listed=>(Region.ready md ops listed).isEmpty
 | p::r,listed=>(cond (Nat.beq (p % 2) 0) ((Region.ready md ops listed).contains (p / 2) && Region.free md ops listed (p / 2)) ((Region.ready md ops listed).contains (p / 2))) && planOK md ops r (listed.setIfInBounds (p / 2) true)
def HasL(K:PH)(A:List PH)(w:World):Prop:=(∀ b o,K b=some o->w.heap[b]?=some o)/\∀ h∈A,∀ b o,h b=some o->w.heap[b]?=some o
def still(z:Nat)(H:World->Prop)(L:Array Bool)(w:World):Prop:=L.getD z false=false->H w
def WA(P:Program)(w0:World)(ops:Array Oper)(Q:Exit->Act->World->Prop)(K0:PH)(A:List PH)(z:Nat)(plan:List Nat)(listed:Array Bool)(n:Nat)(l:Sl)(K:PH)(hs:List PH):Prop:=
 planOK .any ops plan listed=true->Closed .any ops listed->∀ a w,Ag n l a->Sat w0 w K hs->still z (HasL K0 A) listed w->tr P .any ops (Q .normal) (still z (HasL K0 A)) plan.length listed a w
theorem HasL.of{w0 w:World}{K:PH}{hs A:List PH}(s:Sat w0 w K hs)(hA:hs.take A.length=A):HasL K A w:=by
 refine ⟨s.imm,fun h hm b o hb=>?_⟩;rw[<-hA] at hm;exact s.block (.inr (List.getElem?_of_mem (List.mem_of_mem_take hm))) hb
theorem HasL.cell{w:World}{K:PH}{A:List PH}(s:HasL K A w){h:PH}(hi:In K A h){a:Addr}{v:Value}(hc:Cell h a v):w.cell? a=some v:=by
 obtain ⟨hsp,c,ty,fr,hb,hv⟩:=hc
 have:w.heap[a.block]?=some (.cells c ty fr):=by
  rcases hi with rfl|⟨i,hi⟩
  ·exact s.1 _ _ hb
  ·exact s.2 h (List.mem_of_getElem? hi) _ _ hb
 simp[World.cell?,this,hsp,hv]
section rules
variable {P:Program} {T:Tab} {w0:World} {ops:Array Oper} {Q:Exit->Act->World->Prop} {plan plan':List Nat} {z:Nat} {listed listed':Array Bool} {n:Nat} {l l':Sl} {K K0:PH} {hs A:List PH}
theorem still_up{H:World->Prop}(i:Nat)(L:Array Bool)(w:World)(h:still z H L w):still z H (L.setIfInBounds i true) w:=by
 intro hr;refine h ?_;cases e:L.getD z false with
 | false=>rfl
 | true=>rw[getD_set_true e] at hr;cases hr
theorem still_down{H:World->Prop}{i:Nat}(hi:i≠z)(L:Array Bool)(w:World)(h:still z H (L.setIfInBounds i true) w):still z H L w:=by
 intro hr;exact h (by rw[getD_set_ne false hi];exact hr)
theorem WA.look{i:Nat}{o:Oper}{d:Nat}{v:Value}(hi:ops[i]?=some o)(hsel:Region.noSelect ops=true)(hz:Nat.beq i z=false)(hd:o.dst=some d)(hb:Nat.blt d n=true)
  (hy:∀ a,Ag n l a->YieldsIf P ops (fun w=>∃ L:Array Bool,Closed .any ops L/\L.getD i true=false/\still z (HasL K0 A) L w) o v a)
  (hk:WA P w0 ops Q K0 A z plan (listed.setIfInBounds i true) n ((d,v)::l) K hs):WA P w0 ops Q K0 A z (2*i::plan) listed n l K hs:=by
 intro hp hc a w ha hw hl;simp only[planOK,Bool.and_eq_true] at hp;obtain ⟨h1,h2⟩:=hp;rw[show 2*i % 2=0 from by omega,show 2*i / 2=i from by omega] at h1;rw[show 2*i / 2=i from by omega] at h2;have h3:((Region.ready .any ops listed).contains i && Region.free .any ops listed i)=true:=h1;simp only[Bool.and_eq_true] at h3;have hready:i∈Region.ready .any ops listed:=by simpa using h3.1
 have hkk:=hk h2 (hc.set hready) _ w (ha.put (v:=v) hb) hw (still_up i listed w hl);have hzi:i≠z:=Nat.ne_of_beq_eq_false hz;refine tr_first hi (Region.noSelect_spec hsel) _ listed a w hc (Region.free_spec hi h3.2) hready (hy a ha) hl (fun L w' h=>still_up i L w' h) (fun L w' h=>still_down hzi L w' h) ?_;rw[hd];exact hkk
theorem WA.pure(hT:TabOK P T){i:Nat}{o:Oper}{d:Nat}{v:Value}(hi:ops[i]?=some o)(hsel:Region.noSelect ops=true)(hz:Nat.beq i z=false)(hd:o.dst=some d)(hb:Nat.blt d n=true)
  (hv:gOK ops l o.guard=some true/\pureOp T l o.op=some v\/gOK ops l o.guard=some false/\v=undef)
  (hk:WA P w0 ops Q K0 A z plan (listed.setIfInBounds i true) n ((d,v)::l) K hs):WA P w0 ops Q K0 A z (2*i::plan) listed n l K hs:=by
 refine WA.look hi hsel hz hd hb (fun a ha=>?_) hk;rcases hv with ⟨hg,hv⟩|⟨hg,rfl⟩
 ·exact .inl ⟨gOK_wanted ha hg,fun w _=>pureOp_run hT hv ha w⟩
 ·exact .inr ⟨gOK_wanted ha hg,I⟩
def planN(T:Tab)(ops:Array Oper)(n z:Nat):Nat->List Nat->Array Bool->Sl->Option (List Nat×Array Bool×Sl)
 | 0,p,L,l=>some (p,L,l)
 | _+1,[],_,_=>none
 | k+1,p::r,L,l=>match Nat.beq (p % 2) 0,Nat.beq (p / 2) z,ops[p / 2]? with
  | true,false,some o=>match o.dst with
   | some d=>match Nat.blt d n,gOK ops l o.guard with
    | true,some true=>match pureOp T l o.op with
     | some v=>planN T ops n z k r (L.setIfInBounds (p / 2) true) ((d,v)::l)
     | none=>none
    | true,some false=>planN T ops n z k r (L.setIfInBounds (p / 2) true) ((d,undef)::l)
    | _,_=>none
   | none=>none
  | _,_,_=>none
theorem WA.pures(hT:TabOK P T)(hsel:Region.noSelect ops=true):∀ (k:Nat) {plan:List Nat} {listed:Array Bool} {l:Sl},planN T ops n z k plan listed l=some (plan',listed',l') ->
  WA P w0 ops Q K0 A z plan' listed' n l' K hs->WA P w0 ops Q K0 A z plan listed n l K hs
 | 0,plan,listed,l,h,hk=>by simp only[planN,Option.some.injEq,Prod.mk.injEq] at h;obtain ⟨rfl,rfl,rfl⟩:=h;exact hk
 | k+1,[],listed,l,h,hk=>by simp[planN] at h
 | k+1,p::r,listed,l,h,hk=>by
  simp only[planN] at h;cases h1:Nat.beq (p % 2) 0 with
  | false=>simp[h1] at h
  | true=>
   cases h2:Nat.beq (p / 2) z with
   | true=>simp[h1,h2] at h
   | false=>
    cases h3:ops[p / 2]? with
    | none=>simp[h1,h2,h3] at h
    | some o=>
     simp only[h1,h2,h3] at h;have hp2:p=2*(p / 2):=by have:=Nat.eq_of_beq_eq_true h1;omega
     cases hd:o.dst with
     | none=>simp[hd] at h
     | some d=>
      simp only[hd] at h;cases hb:Nat.blt d n with
      | false=>simp[hb] at h
      | true=>
       cases hg:gOK ops l o.guard with
       | none=>simp[hb,hg] at h
       | some g=>
        cases g with
        | true=>
         simp only[hb,hg] at h;cases hv:pureOp T l o.op with
         | none=>simp[hv] at h
         | some v=>
          simp only[hv] at h;rw[hp2];exact WA.pure hT h3 hsel h2 hd hb (.inl ⟨hg,hv⟩) (WA.pures hT hsel k h hk)
        | false=>
         simp only[hb,hg] at h;rw[hp2];exact WA.pure hT h3 hsel h2 hd hb (.inr ⟨hg,I⟩) (WA.pures hT hsel k h hk)
def headAt(T:Tab)(ops:Array Oper)(n z k:Nat)(plan:List Nat)(L:Array Bool)(l:Sl):Option (Nat×Oper×List Nat×Array Bool×Sl):=
 match planN T ops n z k plan L l with
 | some (p::r,L',l')=>match ops[p / 2]? with
  | some o=>some (p,o,r,L',l')
  | none=>none
 | _=>none
theorem headAt_spec{k p:Nat}{o:Oper}(h:headAt T ops n z k plan listed l=some (p,o,plan',listed',l')):planN T ops n z k plan listed l=some (p::plan',listed',l')/\ops[p / 2]?=some o:=by
 unfold headAt at h
 split at h
 ·rename_i p' r L' l2 hp
  split at h
  ·rename_i o' ho;simp only[Option.some.injEq,Prod.mk.injEq] at h;obtain ⟨rfl,rfl,rfl,rfl,rfl⟩:=h;exact ⟨hp,ho⟩
  ·simp at h
 ·simp at h
def dldAt(T:Tab)(ops:Array Oper)(n z k:Nat)(plan:List Nat)(L:Array Bool)(l:Sl):Option (Nat×Addr×List Nat×Array Bool×Sl):=
 match headAt T ops n z k plan L l with
 | some (p,o,r,L',l')=>match Nat.beq (p % 2) 0,Nat.beq (p / 2) z,cond (Nat.blt z ops.size) (Region.waitsFor .any ops z (p / 2)) true,gOK ops l' o.guard,o.dst,o.op with
  | true,false,true,some true,some d,.load t x=>match Nat.blt d n,asc T.kinds t,ev l' x with
   | true,some kd,some (.pointer (some a))=>cond kd.one (some (d,a,r,L'.setIfInBounds (p / 2) true,l')) none
   | _,_,_=>none
  | _,_,_,_,_,_=>none
 | none=>none
theorem closed_waits{L:Array Bool}{i:Nat}(c:Closed .any ops L)(hi:L.getD i true=false)(hw:cond (Nat.blt z ops.size) (Region.waitsFor .any ops z i) true=true):L.getD z false=false:=by
 cases hb:Nat.blt z ops.size with
 | false=>
  have:¬z<ops.size:=fun h=>by
   have:Nat.blt z ops.size=true:=Nat.ble_eq_true_of_le h;rw[this] at hb;cases hb
  have h2:L.size<=z:=by rw[c.1];omega
  simp[Array.getElem?_eq_none h2]
 | true=>
  rw[hb] at hw;obtain ⟨oj,hoj,e,he,hbb,hon⟩:=Region.waitsFor_spec hw;cases hz:L.getD z false with
  | false=>rfl
  | true=>
   have:=c.2 z oj hoj hz e he hbb;rw[hon] at this;rcases Nat.lt_or_ge i L.size with h'|h'
   ·simp[h'] at hi this;rw[hi] at this;cases this
   ·simp[Array.getElem?_eq_none h'] at this
theorem dld(hT:TabOK P T)(hsel:Region.noSelect ops=true)(k:Nat){d:Nat}{a:Addr}{v:Value}{h:PH}(h0:dldAt T ops n z k plan listed l=some (d,a,plan',listed',l'))(hm:In K0 A h)(hc:Cell h a v)
  (hk:WA P w0 ops Q K0 A z plan' listed' n ((d,v)::l') K hs):WA P w0 ops Q K0 A z plan listed n l K hs:=by
 unfold dldAt at h0
 split at h0
 ·rename_i p o r L' l2 hh
  split at h0
  ·rename_i dd t x hp hz hwf hg hd hop
   split at h0
   ·rename_i kd a' hb hkd hx;cases h1:kd.one with
    | false=>simp[h1] at h0
    | true=>
     simp only[h1,cond_true,Option.some.injEq,Prod.mk.injEq] at h0;obtain ⟨rfl,rfl,rfl,rfl,rfl⟩:=h0;obtain ⟨g1,g2⟩:=headAt_spec hh;refine WA.pures hT hsel k g1 ?_;have hp2:p=2*(p / 2):=by have:=Nat.eq_of_beq_eq_true hp;omega
     rw[hp2];refine WA.look g2 hsel hz hd hb (fun A' ha=>.inl ⟨gOK_wanted ha hg,fun w hw=>?_⟩) hk;obtain ⟨L,hcl,hun,hst⟩:=hw;have hcell:=(hst (closed_waits hcl hun hwf)).cell hm hc;have h2:=run_load1 (P:=P) hT hkd h1 hcell;simp only[execOp,hop,ha.ev hx];simp[h2]
   ·simp at h0
  ·simp at h0
 ·simp at h0
theorem dldp(hT:TabOK P T)(hsel:Region.noSelect ops=true)(k i:Nat){d b off ty:Nat}{v:Value}{c:Array Value}{fr:Nat×Nat}(h0:dldAt T ops n z k plan listed l=some (d,⟨b,off,none⟩,plan',listed',l'))
  (hi:A[i]?=some (pt b c ty fr)) (hv:c[off]?=some v) (hk:WA P w0 ops Q K0 A z plan' listed' n ((d,v)::l') K hs):WA P w0 ops Q K0 A z plan listed n l K hs:=
 dld hT hsel k h0 (.inr ⟨i,hi⟩) (Cell.pt hv) hk
def dopAt(T:Tab)(ops:Array Oper)(n z k:Nat)(plan:List Nat)(L:Array Bool)(l:Sl):Option (Nat×Oper×List Nat×Array Bool×Sl):=
 match headAt T ops n z k plan L l with
 | some (p,o,r,L',l')=>match Nat.beq (p % 2) 0,Nat.beq (p / 2) z,gOK ops l' o.guard,o.dst with
  | true,false,some true,some d=>match Nat.blt d n with
   | true=>some (d,o,r,L'.setIfInBounds (p / 2) true,l')
   | false=>none
  | _,_,_,_=>none
 | none=>none
theorem dop(hT:TabOK P T)(hsel:Region.noSelect ops=true)(k:Nat){d:Nat}{o:Oper}{v:Value}(h0:dopAt T ops n z k plan listed l=some (d,o,plan',listed',l'))
  (hv:∀ a w,Ag n l' a->(execOp a.eval o).run P w=.ok (.value v) w) (hk:WA P w0 ops Q K0 A z plan' listed' n ((d,v)::l') K hs):WA P w0 ops Q K0 A z plan listed n l K hs:=by
 unfold dopAt at h0
 split at h0
 ·rename_i p o' r L' l2 hh
  split at h0
  ·rename_i dd hp hz hg hd
   split at h0
   ·rename_i hb;simp only[Option.some.injEq,Prod.mk.injEq] at h0;obtain ⟨rfl,rfl,rfl,rfl,rfl⟩:=h0;obtain ⟨g1,g2⟩:=headAt_spec hh;refine WA.pures hT hsel k g1 ?_;have hp2:p=2*(p / 2):=by have:=Nat.eq_of_beq_eq_true hp;omega
    rw[hp2];exact WA.look g2 hsel hz hd hb (fun A' ha=>.inl ⟨gOK_wanted ha hg,fun w _=>hv A' w ha⟩) hk
   ·simp at h0
  ·simp at h0
 ·simp at h0
def dvalAt(T:Tab)(ops:Array Oper)(n z k:Nat)(plan:List Nat)(L:Array Bool)(l:Sl):Option (Nat×Value×List Nat×Array Bool×Sl):=
 match dopAt T ops n z k plan L l with
 | some (d,o,r,L',l')=>match pureOp T l' o.op with
  | some v=>some (d,v,r,L',l')
  | none=>none
 | none=>none
theorem dar(hT:TabOK P T)(hsel:Region.noSelect ops=true)(k:Nat){d:Nat}{v v':Value}(h0:dvalAt T ops n z k plan listed l=some (d,v,plan',listed',l'))(he:v=v')
  (hk:WA P w0 ops Q K0 A z plan' listed' n ((d,v')::l') K hs):WA P w0 ops Q K0 A z plan listed n l K hs:=by
 subst he;unfold dvalAt at h0
 split at h0
 ·rename_i d' o r L' l2 hh
  split at h0
  ·rename_i v' hv;simp only[Option.some.injEq,Prod.mk.injEq] at h0;obtain ⟨rfl,rfl,rfl,rfl,rfl⟩:=h0;exact dop hT hsel k hh (fun a w ha=>pureOp_run hT hv ha w) hk
  ·simp at h0
 ·simp at h0
theorem dcb(hT:TabOK P T)(hsel:Region.noSelect ops=true)(k:Nat){d:Nat}{b:Bool}(h0:dvalAt T ops n z k plan listed l=some (d,.bool b,plan',listed',l'))
  (hy:b=true->WA P w0 ops Q K0 A z plan' listed' n ((d,.bool true)::l') K hs) (hn:b=false->WA P w0 ops Q K0 A z plan' listed' n ((d,.bool false)::l') K hs):WA P w0 ops Q K0 A z plan listed n l K hs:=by
 cases b with
 | true=>exact dar hT hsel k h0 rfl (hy rfl)
 | false=>exact dar hT hsel k h0 rfl (hn rfl)
theorem dcmp(hT:TabOK P T)(hsel:Region.noSelect ops=true)(k:Nat){d:Nat}{b:Bool}(p:Prop)(h0:dvalAt T ops n z k plan listed l=some (d,.bool b,plan',listed',l'))(hp:p↔b=true)
  (hy:p->WA P w0 ops Q K0 A z plan' listed' n ((d,.bool true)::l') K hs) (hn:¬p->WA P w0 ops Q K0 A z plan' listed' n ((d,.bool false)::l') K hs):WA P w0 ops Q K0 A z plan listed n l K hs:=
 dcb hT hsel k h0 (fun h=>hy (hp.2 h)) (fun h=>hn (fun h'=>by rw[hp.1 h'] at h;cases h))
theorem dsl(hT:TabOK P T)(hsel:Region.noSelect ops=true)(k:Nat){d d':Nat}{o:Oper}{si:SlI}{ao:Option Addr}{n1 c1:Nat}{lo hi:Option Int}{h:PH}{xs ys:List Value}(L N:Nat)
  (h0:dopAt T ops n z k plan listed l=some (d,o,plan',listed',l')) (h1:slAt T ops n 0 [o] l'=some (d',si,(ao,n1,c1),lo,hi,[],l')) (x:IsS h ao n1 c1 si.size xs) (hL:lo.getD 0=(L:Int)) (hH:hi.getD n1=((L+N:Nat):Int)) (hN:L+N<=n1)
  (hy:(xs.drop (L*si.size)).take (N*si.size)=ys)
  (hk:∀ ao' cap',IsS h ao' N cap' si.size ys->WA P w0 ops Q K0 A z plan' listed' n ((d,.slice ao' N cap')::l') K hs):WA P w0 ops Q K0 A z plan listed n l K hs:=by
 obtain ⟨o',ho,hd,hb,hrun⟩:=slAt_run (P:=P) hT L (L+N) h1 hL hH qo (by have:=x.2.1;omega)
 have ho':o'=o:=by
  have e:pureN T ops n 0 [o] l'=some ([o],l'):=rfl;unfold opAt at ho;rw[e] at ho;dsimp only at ho
  split at ho
  ·simp only[Option.some.injEq,Prod.mk.injEq] at ho;exact ho.1.symm
  ·simp at ho
 subst ho';refine dop hT hsel k h0 (v:=.slice (cutA ao c1 L si.size) N (c1-L)) (fun a w ha=>?_) (hk _ _ (x.cut L N hN hy));have:=hrun a w ha;rw[Nat.add_sub_cancel_left] at this;exact this
theorem dend(hT:TabOK P T)(hsel:Region.noSelect ops=true)(k:Nat)(h0:planN T ops n z k plan listed l=some ([],listed',l'))(hk:WQ w0 Q .normal n l' K hs):WA P w0 ops Q K0 A z plan listed n l K hs:=
 WA.pures hT hsel k h0 fun hp _ a w ha hw _=>by
  simp only[planOK,List.isEmpty_iff] at hp;exact ⟨hp,hk a w ha hw⟩
def aft(P:Program)(w0:World)(ops:Array Oper)(Q:Exit->Act->World->Prop)(K0:PH)(A:List PH)(z:Nat)(plan:List Nat)(listed:Array Bool):Exit->Act->World->Prop:=
 nrm fun a w=>still z (HasL K0 A) listed w/\tr P .any ops (Q .normal) (still z (HasL K0 A)) plan.length listed a w
def actAt(T:Tab)(ops:Array Oper)(n z k:Nat)(plan:List Nat)(L:Array Bool)(l:Sl):Option (Oper×List Nat×Array Bool×Sl):=
 match headAt T ops n z k plan L l with
 | some (p,o,r,L',l')=>cond (Nat.beq (p % 2) 1) (some (o,r,L'.setIfInBounds (p / 2) true,l')) none
 | none=>none
theorem wpOp_of_WL{i:Nat}{o:Oper}{r:List Nat}{L:Array Bool}{a:Act}{w:World}(g2:ops[i]?=some o)(h2:planOK .any ops r L=true)(hc':Closed .any ops L)
  (hwl:wpList P ops (fun e a w=>planOK .any ops r L=true->Closed .any ops L->aft P w0 ops Q K0 A z r L e a w) [o] a w):
  wpOp P ops (nrm (Q .normal)) i (fun a' w'=>still z (HasL K0 A) L w'/\tr P .any ops (Q .normal) (still z (HasL K0 A)) r.length L a' w') a w:=by
 unfold wpOp;simp only[g2];unfold wpList at hwl
 have conv:∀ e a w,(planOK .any ops r L=true->Closed .any ops L->aft P w0 ops Q K0 A z r L e a w) ->
   nrm (fun a w=>still z (HasL K0 A) L w/\tr P .any ops (Q .normal) (still z (HasL K0 A)) r.length L a w) e a w:=fun e a w h=>h h2 hc'
 split
 ·rename_i hwn;rw[if_pos hwn] at hwl;rcases hwl with hwl|⟨_,a',w',hwl⟩
  ·refine .inl (Oper.wp_mono ?_ (upon_q (Q':=nrm (Q .normal)) (fun c a w h=>(conv (.panic c) a w h).elim) (fun a w h=>(conv .outgrown a w h).elim) hwl));intro a w h;simp only[wpList] at h;exact conv .normal a w h
  ·exact (conv .outgrown a' w' hwl).elim
 ·rename_i hwn;rw[if_neg hwn] at hwl;simp only[wpList] at hwl;exact conv .normal _ _ hwl
def alone(ops:Array Oper):List Nat->Array Bool->Bool
 | [],_=>false
 | p::r,L=>cond (Nat.beq (p % 2) 0) (alone ops r (L.setIfInBounds (p / 2) true)) (Region.ready .any ops L == [p / 2])
def either(ops:Array Oper)(j:Nat):List Nat->Array Bool->Bool
 | [],_=>false
 | p::r,L=>cond (Nat.beq (p % 2) 0) (either ops j r (L.setIfInBounds (p / 2) true)) (Region.ready .any ops L == [p / 2,j] || Region.ready .any ops L == [j,p / 2])
theorem planN_act:∀ (k:Nat) {plan:List Nat} {L L':Array Bool} {l l':Sl} {p:Nat} {r:List Nat},planN T ops n z k plan L l=some (p::r,L',l')->Nat.beq (p % 2) 1=true ->
  alone ops plan L=(Region.ready .any ops L' == [p / 2])/\∀ j,either ops j plan L=(Region.ready .any ops L' == [p / 2,j] || Region.ready .any ops L' == [j,p / 2])
 | 0,plan,L,L',l,l',p,r,h,hp=>by
  simp only[planN,Option.some.injEq,Prod.mk.injEq] at h;obtain ⟨rfl,rfl,rfl⟩:=h;have h1:p % 2=1:=Nat.eq_of_beq_eq_true hp;have h0:Nat.beq (p % 2) 0=false:=by rw[h1];rfl
  exact ⟨by simp only[alone,h0,cond_false],fun j=>by simp only[either,h0,cond_false]⟩
 | k+1,[],L,L',l,l',p,r,h,hp=>by simp[planN] at h
 | k+1,p0::r0,L,L',l,l',p,r,h,hp=>by
  simp only[planN] at h
  split at h
  ·rename_i h0 _ _
   split at h
   ·split at h
    ·split at h
     ·have:=planN_act k h hp;exact ⟨by simp only[alone,h0,cond_true];exact this.1,fun j=>by simp only[either,h0,cond_true];exact this.2 j⟩
     ·simp at h
    ·have:=planN_act k h hp;exact ⟨by simp only[alone,h0,cond_true];exact this.1,fun j=>by simp only[either,h0,cond_true];exact this.2 j⟩
    ·simp at h
   ·simp at h
  ·simp at h
theorem dact(hT:TabOK P T)(hsel':(Region.noSelect ops && alone ops plan listed)=true)(k:Nat){o:Oper}(h0:actAt T ops n z k plan listed l=some (o,plan',listed',l'))
  (hk:WL P w0 ops (fun e a w=>planOK .any ops plan' listed'=true->Closed .any ops listed'->aft P w0 ops Q K0 A z plan' listed' e a w) [o] n l' K hs):WA P w0 ops Q K0 A z plan listed n l K hs:=by
 simp only[Bool.and_eq_true] at hsel';obtain ⟨hsel,hal⟩:=hsel';unfold actAt at h0
 split at h0
 ·rename_i p o' r L' l2 hh;cases hp1:Nat.beq (p % 2) 1 with
  | false=>simp[hp1] at h0
  | true=>
   simp only[hp1,cond_true,Option.some.injEq,Prod.mk.injEq] at h0;obtain ⟨rfl,rfl,rfl,rfl⟩:=h0;obtain ⟨g1,g2⟩:=headAt_spec hh;have h1:=(planN_act k g1 hp1).1;rw[hal] at h1;refine WA.pures hT hsel k g1 ?_;intro hp hc a w ha hw hl;simp only[planOK,Bool.and_eq_true] at hp;obtain ⟨_,h2⟩:=hp;have h1:Region.ready .any ops L'=[p / 2]:=by simpa using h1.symm
   have hmem:p / 2∈Region.ready .any ops L':=by rw[h1];simp
   have hc':=hc.set hmem;refine ⟨fun h0=>(by rw[h1] at h0;cases h0),fun i hi=>?_⟩;rw[h1] at hi;simp only[List.mem_singleton] at hi;subst hi;exact wpOp_of_WL g2 h2 hc' (hk a w ha hw)
 ·simp at h0
def forkAt(T:Tab)(ops:Array Oper)(n z k:Nat)(plan:List Nat)(L:Array Bool)(l:Sl)(j:Nat):Option (Oper×Oper×List Nat×Array Bool×Array Bool×Sl):=
 match headAt T ops n z k plan L l with
 | some (p,o,r,L',l')=>match ops[j]? with
  | some oj=>cond (Nat.beq (p % 2) 1) (some (o,oj,r,L'.setIfInBounds (p / 2) true,L'.setIfInBounds j true,l')) none
  | none=>none
 | none=>none
theorem dfork(j:Nat)(hT:TabOK P T)(hsel':(Region.noSelect ops && either ops j plan listed)=true)(k:Nat)(plan2:List Nat){oi oj:Oper}{Li Lj:Array Bool}(h0:forkAt T ops n z k plan listed l j=some (oi,oj,plan',Li,Lj,l'))(hp2:(planOK .any ops plan2 Lj && Nat.beq plan2.length plan'.length)=true)
  (hk1:WL P w0 ops (fun e a w=>planOK .any ops plan' Li=true->Closed .any ops Li->aft P w0 ops Q K0 A z plan' Li e a w) [oi] n l' K hs)
  (hk2:WL P w0 ops (fun e a w=>planOK .any ops plan2 Lj=true->Closed .any ops Lj->aft P w0 ops Q K0 A z plan2 Lj e a w) [oj] n l' K hs):WA P w0 ops Q K0 A z plan listed n l K hs:=by
 simp only[Bool.and_eq_true] at hsel';obtain ⟨hsel,hal⟩:=hsel';unfold forkAt at h0
 split at h0
 ·rename_i p o' r L' l2 hh
  split at h0
  ·rename_i oj' hoj;cases hp1:Nat.beq (p % 2) 1 with
   | false=>simp[hp1] at h0
   | true=>
    simp only[hp1,cond_true,Option.some.injEq,Prod.mk.injEq] at h0;obtain ⟨rfl,rfl,rfl,rfl,rfl,rfl⟩:=h0;obtain ⟨g1,g2⟩:=headAt_spec hh;have h1:=(planN_act k g1 hp1).2 j;rw[hal] at h1;refine WA.pures hT hsel k g1 ?_;intro hp hc a w ha hw hl;simp only[planOK,Bool.and_eq_true] at hp;obtain ⟨_,h2⟩:=hp;have h1:Region.ready .any ops L'=[p / 2,j]\/Region.ready .any ops L'=[j,p / 2]:=by simpa using h1.symm
    simp only[Bool.and_eq_true] at hp2;have hlen:plan2.length=r.length:=Nat.eq_of_beq_eq_true hp2.2;have hne:Region.ready .any ops L'≠[]:=by rcases h1 with h1|h1 <;> rw[h1] <;> simp
    have hmi:p / 2∈Region.ready .any ops L':=by rcases h1 with h1|h1 <;> rw[h1] <;> simp
    have hmj:j∈Region.ready .any ops L':=by rcases h1 with h1|h1 <;> rw[h1] <;> simp
    refine ⟨fun h0=>(hne h0).elim,fun i hi=>?_⟩
    have hij:i=p / 2\/i=j:=by
     rcases h1 with h1|h1 <;> rw[h1] at hi <;> simp only[List.mem_cons,List.not_mem_nil,or_false] at hi
     ·exact hi
     ·exact hi.symm
    rcases hij with rfl|rfl
    ·exact wpOp_of_WL g2 h2 (hc.set hmi)<|hk1 a w ha hw
    ·have:=wpOp_of_WL hoj hp2.1 (hc.set hmj) (hk2 a w ha hw);rw[hlen] at this;exact this
  ·simp at h0
 ·simp at h0
theorem dnext{L:Array Bool}(hst:L.getD z false=true\/hs.take A.length=A/\K0=K)(hk:WA P w0 ops Q K0 A z plan L n l K hs):
  WL P w0 ops (fun e a w=>planOK .any ops plan L=true->Closed .any ops L->aft P w0 ops Q K0 A z plan L e a w) [] n l K hs:=by
 intro a w ha hw;refine wpList_nil fun hp hc=>?_
 have hst':still z (HasL K0 A) L w:=by
  intro hz;rcases hst with h|⟨h1,rfl⟩
  ·rw[h] at hz;cases hz
  ·exact HasL.of hw h1
 exact ⟨hst',hk hp hc a w ha hw hst'⟩
end rules
section rules
variable {P:Program} {T:Tab} {w0:World} {ops:Array Oper} {Q:Exit->Act->World->Prop} {rest rest':List Oper} {n:Nat} {l l':Sl} {K:PH} {hs:List PH}
def bdAt(T:Tab)(ops:Array Oper)(n k:Nat)(rest:List Oper)(l:Sl):Option (Nat×Nat×List (Nat×Value)×List Oper×Sl):=
 match opAt T ops n k rest l with
 | some (o,r,l')=>match o.dst,o.op with
  | some d,.build t parts=>match Nat.blt d n,parts.toList.mapM (fun x=>(ev l' x.2).map (fun v=>(x.1,v))) with
   | true,some vs=>some (d,t,vs,r,l')
   | _,_=>none
  | _,_=>none
 | none=>none
theorem bd(hT:TabOK P T)(k:Nat){d t:Nat}{vs:List (Nat×Value)}(v:Value)(h0:bdAt T ops n k rest l=some (d,t,vs,rest',l'))(hv:∀ w,(Instr.build t vs.toArray).run P w=.ok v w)
  (hk:WL P w0 ops Q rest' n ((d,v)::l') K hs):WL P w0 ops Q rest n l K hs:=by
 unfold bdAt at h0
 split at h0
 ·rename_i o r l2 ho
  split at h0
  ·rename_i d' t' parts hd hop
   split at h0
   ·rename_i vs' hb hvs;simp only[Option.some.injEq,Prod.mk.injEq] at h0;obtain ⟨rfl,rfl,rfl,rfl,rfl⟩:=h0;refine WL.at' hT ho fun hg=>WL.val (R:=fun u K' hs'=>u=v/\K'=K/\hs'=hs) hd hb hg (fun A w ha hw=>⟨v,w,K,hs,?_,hw,I,I,I⟩) ?_
    ·have h6:=evs_map ha _ _ hvs
     have h7:(parts.map fun (i,x)=>(i,A.eval x))=vs'.toArray:=by
      apply Array.ext'
      simpa using h6
     simp only[execOp,hop,h7];simp[hv w]
    ·rintro u K' hs' ⟨rfl,rfl,rfl⟩;exact hk
   ·simp at h0
  ·simp at h0
 ·simp at h0
def ssAt(T:Tab)(ops:Array Oper)(n k:Nat)(rest:List Oper)(l:Sl):Option (Nat×Addr×Array Value×List Oper×Sl):=
 match opAt T ops n k rest l with
 | some (o,r,l')=>match o.dst,o.op with
  | none,.store t x y=>match ev l' x,ev l' y with
   | some (.pointer (some a)),some (.agg cs)=>some (t,a,cs,r,l')
   | _,_=>none
  | _,_=>none
 | none=>none
theorem sts(hT:TabOK P T)(k i:Nat){t b off ty:Nat}{c cs:Array Value}(h0:ssAt T ops n k rest l=some (t,⟨b,off,none⟩,cs,rest',l'))(hi:hs[i]?=some (pt b c ty))(hsz:(P.info? t).map (·.size)=some cs.size)
  (hf:off+cs.size<=c.size) (h1:∀ v∈cs.toList,v.oneCell'=true)
  (hk:WL P w0 ops Q rest' n l' K (hs.set i (pt b (c.toList.take off++cs.toList++c.toList.drop (off+cs.toList.length)).toArray ty))):WL P w0 ops Q rest n l K hs:=by
 unfold ssAt at h0
 split at h0
 ·rename_i o r l2 ho
  split at h0
  ·rename_i t' x y hd hop
   split at h0
   ·rename_i a' cs' hx hy;simp only[Option.some.injEq,Prod.mk.injEq] at h0;obtain ⟨rfl,rfl,rfl,rfl,rfl⟩:=h0;refine WL.at' hT ho fun hg=>WL.skp hd hg (fun A w ha hw=>⟨_,?_,hw.setRow hi _⟩) hk;have hb:w.heap[b]?=some (.cells c ty (0,0)):=hw.own i _ hi b _ (by simp);have h2:=run_storeCells_at P b off ty cs'.toList 0 c w hb (by simpa using hf) h1;simp only[Nat.add_zero] at h2;obtain ⟨ii,hii,hs'⟩:=Option.map_eq_some_iff.1 hsz;simp only[execOp,hop,ha.ev hx,ha.ev hy];simp only[Instr.storeAt,Instr.sureAddr,storeVar,sizeOf,typeInfo,Value.cells];simp[hii,hs',h2]
   ·simp at h0
  ·simp at h0
 ·simp at h0
def lsAt(T:Tab)(ops:Array Oper)(n k:Nat)(rest:List Oper)(l:Sl):Option (Nat×Nat×Addr×List Oper×Sl):=
 match opAt T ops n k rest l with
 | some (o,r,l')=>match o.dst,o.op with
  | some d,.load t x=>match Nat.blt d n,ev l' x with
   | true,some (.pointer (some a))=>some (d,t,a,r,l')
   | _,_=>none
  | _,_=>none
 | none=>none
def aggOK(P:Program)(t m:Nat):Bool:=(match P.underlying t with|some (.struct _)=>true|some (.array _ _)=>true|_=>false) && (match P.info? t with|some i=>i.size == m|none=>false)
theorem run_loadS{w:World}{t m:Nat}{a:Addr}{cs:List Value}(hm:aggOK P t m=true)(hl:cs.length=m)(hc:∀ (j:Nat) v,cs[j]?=some v->w.cell? (a.add j)=some v):(Instr.loadAt t (.pointer (some a))).run P w=.ok (.agg cs.toArray) w:=by
 unfold aggOK at hm;simp only[Bool.and_eq_true] at hm;obtain ⟨h1,h2⟩:=hm;cases hu:P.underlying t with
 | none=>simp[hu] at h1
 | some d=>
  cases hi:P.info? t with
  | none=>simp[hi] at h2
  | some i=>
   have h3:i.size=m:=by simpa[hi] using h2
   have hagg:(isAgg t).run P w=.ok true w:=by
    cases d <;> simp[hu] at h1 <;> simp[isAgg,run_underlying hu]
   have h4:=run_loadCells_list (P:=P) (w:=w) a cs hc;simp[Instr.loadAt,Instr.sureAddr,loadVar,hagg,sizeOf,typeInfo,hi,h3,<-hl,h4]
theorem lds(hT:TabOK P T)(k:Nat){d t:Nat}{a:Addr}{h:PH}(cs:List Value)(h0:lsAt T ops n k rest l=some (d,t,a,rest',l'))(hm:aggOK P t cs.length=true)(hin:In K hs h)(hc:∀ (j:Nat) v,cs[j]?=some v->Cell h (a.add j) v)
  (hk:WL P w0 ops Q rest' n ((d,.agg cs.toArray)::l') K hs):WL P w0 ops Q rest n l K hs:=by
 unfold lsAt at h0
 split at h0
 ·rename_i o r l2 ho
  split at h0
  ·rename_i d' t' x hd hop
   split at h0
   ·rename_i a' hb hx;simp only[Option.some.injEq,Prod.mk.injEq] at h0;obtain ⟨rfl,rfl,rfl,rfl,rfl⟩:=h0;refine WL.at' hT ho fun hg=>WL.val (R:=fun u K' hs'=>u=.agg cs.toArray/\K'=K/\hs'=hs) hd hb hg (fun A w ha hw=>⟨_,w,K,hs,?_,hw,I,I,I⟩) ?_
    ·have h2:=run_loadS (P:=P) (w:=w) hm rfl (fun j v hv=>hw.cell hin (hc j v hv));simp only[execOp,hop,ha.ev hx];simp[h2]
    ·rintro u K' hs' ⟨rfl,rfl,rfl⟩;exact hk
   ·simp at h0
  ·simp at h0
 ·simp at h0
theorem cells_pt{b off:Nat}{c:Array Value}{ty:Nat}{fr:Nat×Nat}(cs:List Value)(h:∀ (j:Nat) v,cs[j]?=some v->c[off+j]?=some v):∀ (j:Nat) v,cs[j]?=some v->Cell (pt b c ty fr) ((⟨b,off,none⟩:Addr).add j) v:=by
 intro j v hv;rw[add_mk];exact Cell.pt (h j v hv)
def mkAt(T:Tab)(ops:Array Oper)(n k:Nat)(rest:List Oper)(l:Sl):Option (Nat×Nat×(Nat×Nat×Nat×Nat)×List Oper×Sl):=
 match opAt T ops n k rest l with
 | some (o,r,l')=>match o.dst,o.op with
  | some d,.convert t t' x=>match Nat.blt d n,Nat.beq t t',ev l' x with
   | true,true,some (.slice (some a) m c)=>some (d,t,(a.block,a.off,m,c),r,cond a.spot.isNone l' [])
   | _,_,_=>none
  | _,_=>none
 | none=>none
theorem Sat.remark{w w':World}(s:Sat w0 w K hs){i b:Nat}{c:Array Value}{ty:Nat}{fr fr':Nat×Nat}(hi:hs[i]?=some (pt b c ty fr))(h1:w'.heap[b]?=some (.cells c ty fr'))(h2:∀ k,k≠b->w'.heap[k]?=w.heap[k]?)
  (hos:w'.os=w.os) (htp:w'.tape=w.tape) (hout:w'.output=w.output) (hsz:w'.heap.size=w.heap.size):Sat w0 w' K (hs.set i (pt b c ty fr')):=by
 refine s.upd hi hos htp hout qo ?_ ?_ ?_
 ·intro x o hx;simp only[pt,sg] at hx
  split at hx
  ·rename_i e;subst e;cases hx;exact h1
  ·cases hx
 ·intro x hx hn;simp only[pt,sg] at hn
  split at hn
  ·cases hn
  ·rename_i e;exact h2 x e
 ·intro x o hx hn;simp only[pt,sg] at hx hn
  split at hx
  ·rename_i e;rw[if_pos e] at hn;cases hn
  ·cases hx
theorem mk(hT:TabOK P T)(k i:Nat){d t b off m cc ty:Nat}{c:Array Value}(h0:mkAt T ops n k rest l=some (d,t,(b,off,m,cc),rest',l'))(hl:l'≠[])(hi:hs[i]?=some (pt b c ty))(hu:∃ e,P.underlying t=some (.slice e)/\P.underlying e=some (.int .u8))
  (hk:WL P w0 ops Q rest' n ((d,.slice (some ⟨b,off,none⟩) m cc)::l') K (hs.set i (pt b c ty (c.size,c.size+1)))):WL P w0 ops Q rest n l K hs:=by
 unfold mkAt at h0
 split at h0
 ·rename_i o r l2 ho
  split at h0
  ·rename_i d' t1 t2 x hd hop
   split at h0
   ·rename_i a m' c' hb htt hx;simp only[Option.some.injEq,Prod.mk.injEq] at h0;obtain ⟨rfl,rfl,⟨rfl,rfl,rfl,rfl⟩,rfl,hl2⟩:=h0;obtain ⟨ab,ao,asp⟩:=a;cases asp with
    | some q=>simp at hl2;first|exact absurd hl2 hl|exact absurd hl2.symm hl
    | none=>
     simp only[Option.isNone_none,cond_true] at hl2;subst hl2;obtain rfl:t1=t2:=Nat.eq_of_beq_eq_true htt;obtain ⟨e,hu1,hu2⟩:=hu;refine WL.at' hT ho fun hg=>WL.val (R:=fun u K' hs'=>u=.slice (some ⟨ab,ao,none⟩) m' c'/\K'=K/\hs'=hs.set i (pt ab c ty (c.size,c.size+1))) hd hb hg (fun A w ha hw=>?_) ?_
     ·have hbk:w.heap[ab]?=some (.cells c ty (0,0)):=hw.own i _ hi ab _ (by simp);refine ⟨_,w.freeze ⟨ab,c.size,none⟩ 1,K,_,?_,hw.remark hi (fr':=(c.size,c.size+1)) ?_ ?_ I I I ?_,I,I,I⟩
      ·simp only[execOp,hop,ha.ev hx];simp[convert,run_underlying hu1,run_underlying hu2,markStringish,shape,World.shape?,hbk,freeze,Sem.run]
      ·simp[World.freeze,Array.getElem?_modify,hbk]
      ·intro kk hkk;simp[World.freeze,Array.getElem?_modify,Ne.symm hkk]
      ·simp[World.freeze]
     ·rintro u K' hs' ⟨rfl,rfl,rfl⟩;exact hk
   ·simp at h0
  ·simp at h0
 ·simp at h0
def shAt(T:Tab)(ops:Array Oper)(n k:Nat)(rest:List Oper)(l:Sl):Option (Nat×BinOp×IntKind×Int×Int×List Oper×Sl):=
 match opAt T ops n k rest l with
 | some (o,r,l')=>match o.dst,o.op with
  | some d,.binOp op _ x y _=>match Nat.blt d n,ev l' x,ev l' y with
   | true,some (.int kd a),some (.int _ b)=>some (d,op,kd,a,b,r,l')
   | _,_,_=>none
  | _,_=>none
 | none=>none
theorem shf(hT:TabOK P T)(k:Nat){d:Nat}{op:BinOp}{kd:IntKind}{a b:Int}{v':Value}(h0:shAt T ops n k rest l=some (d,op,kd,a,b,rest',l'))(hb:0<=b)
  (he:op=.shl/\Value.int kd (kd.wrap (a*2 ^ (min b.toNat kd.bits)))=v'\/op=.shr/\Value.int kd (a.fdiv (2 ^ (min b.toNat kd.bits)))=v')
  (hk:WL P w0 ops Q rest' n ((d,v')::l') K hs):WL P w0 ops Q rest n l K hs:=by
 unfold shAt at h0
 split at h0
 ·rename_i o r l2 ho
  split at h0
  ·rename_i d' op' t x y t2 hd hop
   split at h0
   ·rename_i kd' a' kb b' hblt hx hy;simp only[Option.some.injEq,Prod.mk.injEq] at h0;obtain ⟨rfl,rfl,rfl,rfl,rfl,rfl,rfl⟩:=h0
    have hpb:pureOp T l2 o.op=some v':=by
     rw[hop];simp only[pureOp,hx,hy];rcases he with ⟨rfl,he⟩|⟨rfl,he⟩
     ·simp[pureBin,hb,he]
     ·simp[pureBin,hb,he]
    exact WL.at' hT ho fun hg=>WL.pure1 hT hd hblt hg hpb hk
   ·simp at h0
  ·simp at h0
 ·simp at h0
end rules
def str(xs:List UInt8):Value:=.string ⟨xs.toArray⟩
theorem str_toList(xs:List UInt8):(⟨xs.toArray⟩:ByteArray).toList=xs:=by rw[ByteArray.toList_eq]
def isStr(P:Program)(t t':Nat):Bool:=(match P.underlying t with|some (.slice e)=>(match P.underlying e with|some (.int .u8)=>true|_=>false)|_=>false) && (match P.underlying t' with|some .string=>true|_=>false)
theorem run_toStr{P:Program}{w:World}{t t' n c:Nat}{ao:Option Addr}(hs:isStr P t t'=true)(xs:List UInt8)(hl:xs.length=n)
  (hx:∀ (j:Nat) u,((xs.map fun b=>Value.int .u8 b.toNat))[j]?=some u->∃ a,ao=some a/\w.cell? (a.add j)=some u):(convert t t' (.slice ao n c)).run P w=.ok (str xs) w:=by
 unfold isStr at hs;simp only[Bool.and_eq_true] at hs;obtain ⟨h1,h2⟩:=hs;cases e1:P.underlying t with
 | none=>simp[e1] at h1
 | some d1=>
  cases d1 <;> simp[e1] at h1;rename_i e;cases e2:P.underlying e with
  | none=>simp[e2] at h1
  | some d2=>
   cases d2 <;> simp[e2] at h1;rename_i kd;cases kd <;> simp at h1;cases e3:P.underlying t' with
   | none=>simp[e3] at h2
   | some d3=>
    cases d3 <;> simp[e3] at h2;rw[run_convert_bytes_string w t t' e _ n c e1 e2 e3];cases ao with
    | none=>
     have:xs=[]:=by
      cases xs with
      | nil=>rfl
      | cons x r=>obtain ⟨a,h,_⟩:=hx 0 _ rfl;cases h
     subst this;simp[Conv.bytesToString,str]
     rfl
    | some a=>
     have hld:(loadCells a n).run P w=.ok ((xs.map fun b=>((b.toNat:Nat):Int)).map (Value.int .u8)).toArray w:=by
      have:=run_loadCells_list (P:=P) w a (xs.map fun b=>Value.int .u8 b.toNat) (fun j v hj=>by
       obtain ⟨a',h,h'⟩:=hx j v hj;cases h;exact h')
      simpa[hl,Function.comp_def] using this
     rw[run_bytesToString w a n c _ hld,foldl_push_bytes];simp[str,ByteArray.empty,ByteArray.emptyWithCapacity,Function.comp_def]
     try rfl
section rules
variable {P:Program} {T:Tab} {w0:World} {ops:Array Oper} {Q:Exit->Act->World->Prop} {rest rest':List Oper} {n:Nat} {l l':Sl} {K:PH} {hs:List PH}
def csAt(T:Tab)(ops:Array Oper)(n k:Nat)(rest:List Oper)(l:Sl):Option (Nat×Nat×Nat×(Option Addr×Nat×Nat)×List Oper×Sl):=
 match opAt T ops n k rest l with
 | some (o,r,l')=>match o.dst,o.op with
  | some d,.convert t t' x=>match Nat.blt d n,ev l' x with
   | true,some (.slice ao m c)=>some (d,t,t',(ao,m,c),r,l')
   | _,_=>none
  | _,_=>none
 | none=>none
theorem cvs(hT:TabOK P T)(k:Nat){d t t' m c:Nat}{ao:Option Addr}{h:PH}(xs:List UInt8)(h0:csAt T ops n k rest l=some (d,t,t',(ao,m,c),rest',l'))(hin:In K hs h)
  (x:IsS h ao m c 1 (xs.map fun b=>Value.int .u8 b.toNat)) (hs':isStr P t t'=true)
  (hk:WL P w0 ops Q rest' n ((d,str xs)::l') K hs):WL P w0 ops Q rest n l K hs:=by
 unfold csAt at h0
 split at h0
 ·rename_i o r l2 ho
  split at h0
  ·rename_i d' t1 t2 y hd hop
   split at h0
   ·rename_i ao' m' c' hb hx;simp only[Option.some.injEq,Prod.mk.injEq] at h0;obtain ⟨rfl,rfl,rfl,⟨rfl,rfl,rfl⟩,rfl,rfl⟩:=h0;refine WL.at' hT ho fun hg=>WL.val (R:=fun u K' hs'=>u=str xs/\K'=K/\hs'=hs) hd hb hg (fun A w ha hw=>⟨str xs,w,K,hs,?_,hw,I,I,I⟩) ?_
    ·have h2:=run_toStr (P:=P) (w:=w) (c:=c') hs' xs (by have:=x.1;simpa using this) (fun j u hj=>by
      obtain ⟨a,h3,h4⟩:=x.2.2 j u hj;exact ⟨a,h3,hw.cell hin h4⟩)
     simp only[execOp,hop,ha.ev hx];simp[h2]
    ·rintro u K' hs' ⟨rfl,rfl,rfl⟩;exact hk
   ·simp at h0
  ·simp at h0
 ·simp at h0
theorem ldS(hT:TabOK P T)(k i:Nat){d t b ty:Nat}{c:Array Value}{fr:Nat×Nat}(h0:lsAt T ops n k rest l=some (d,t,⟨b,0,none⟩,rest',l'))(hi:hs[i]?=some (pt b c ty fr))(hm:aggOK P t c.size=true)
  (hk:WL P w0 ops Q rest' n ((d,.agg c)::l') K hs):WL P w0 ops Q rest n l K hs:=
 lds hT k c.toList h0 (by simpa using hm) (.inr ⟨i,hi⟩) (cells_pt _ fun j v h=>by simpa using h) (by simpa using hk)
theorem stS(hT:TabOK P T)(k i:Nat){t b ty:Nat}{c cs:Array Value}(h0:ssAt T ops n k rest l=some (t,⟨b,0,none⟩,cs,rest',l'))(hi:hs[i]?=some (pt b c ty))(hsz:(P.info? t).map (·.size)=some cs.size)
  (hf:cs.size=c.size) (h1:cs.toList.all (·.oneCell')=true) (hk:WL P w0 ops Q rest' n l' K (hs.set i (pt b cs ty))):WL P w0 ops Q rest n l K hs:=by
 refine sts hT k i h0 hi hsz qo (fun v hv=>(List.all_eq_true.1 h1) v hv) ?_
 have e:(c.toList.take 0++cs.toList++c.toList.drop (0+cs.toList.length)).toArray=cs:=by
  rw[List.take_zero,List.nil_append,List.drop_of_length_le (by simp[hf]),List.append_nil]
 rw[e];exact hk
end rules
section open_
variable {P:Program} {T:Tab} {w0:World} {ops:Array Oper} {Q:Exit->Act->World->Prop} {plan plan':List Nat} {z:Nat} {listed listed':Array Bool} {n:Nat} {l l':Sl} {K K0:PH} {hs A:List PH}
theorem tr_S{md:Region.Mode}{q:Act->World->Prop}{S S':Array Bool->World->Prop}(h:∀ L w,S' L w->S L w):∀ (f:Nat) (L:Array Bool) (a:Act) (w:World),tr P md ops q S' f L a w->tr P md ops q S f L a w
 | 0,_,_,_,hh=>hh
 | f+1,_,_,_,hh=>⟨hh.1,fun i hi=>wpOp_mono (fun a' w' h'=>⟨h _ _ h'.1,tr_S h f _ a' w' h'.2⟩) (hh.2 i hi)⟩
theorem HasL.ofMem{w0 w:World}{K:PH}{hs A:List PH}(s:Sat w0 w K hs)(hA:∀ h∈A,h∈hs):HasL K A w:=
 ⟨s.imm,fun h hm b o hb=>s.block (.inr (List.getElem?_of_mem (hA h hm))) hb⟩
theorem dnex{L:Array Bool}(A':List PH)(hA:∀ h∈A',h∈hs)(hAA:∀ h∈A,h∈A')(hK:K0=K)(hk:WA P w0 ops Q K A' z plan L n l K hs):
  WL P w0 ops (fun e a w=>planOK .any ops plan L=true->Closed .any ops L->aft P w0 ops Q K0 A z plan L e a w) [] n l K hs:=by
 subst hK;intro a w ha hw;refine wpList_nil fun hp hc=>?_;have up:∀ L w,still z (HasL K0 A') L w->still z (HasL K0 A) L w:=fun L w h hz=>⟨(h hz).1,fun x hx=>(h hz).2 x (hAA x hx)⟩;have hst:still z (HasL K0 A') L w:=fun _=>HasL.ofMem hw hA;exact ⟨up _ _ hst,tr_S up _ _ _ _ (hk hp hc a w ha hw hst)⟩
theorem rga{id:Nat}{o:List Oper}(A:List PH)(z:Nat)(plan:List Nat)(hA:∀ h∈A,h∈hs)(hm:P.follows .mixedOrders=true)(hp:(planOK .any o.toArray plan (Array.replicate o.toArray.size false) && Nat.beq plan.length o.toArray.size)=true)
  (h:WA P w0 o.toArray Q K A z plan (Array.replicate o.toArray.size false) n l K hs):WC P w0 (.region id o.toArray true) Q n l K hs:=by
 intro a w ha hw;simp only[Bool.and_eq_true] at hp;refine wp_region_any hm ?_;have hlen:plan.length=o.toArray.size:=Nat.eq_of_beq_eq_true hp.2;have hw':Sat w0 { w with drawn:=w.drawn+1 } K hs:=hw.drew
 have hc:Closed .any o.toArray (Array.replicate o.toArray.size false):=by
  refine ⟨by simp,?_⟩;intro j oj hj hl;have:(Array.replicate o.toArray.size false).getD j false=false:=getD_replicate_false _ _;rw[this] at hl;cases hl
 have hh:=h hp.1 hc a { w with drawn:=w.drawn+1 } ha hw' (fun _=>HasL.ofMem hw' hA);rw[hlen] at hh;refine tr_any (q:=Q .normal) (fun e a w h=>?_) _ _ _ _ hh;cases e <;> first|exact h|exact h.elim
end open_
section ret
variable {P:Program} {w0:World} {fn:Func} {R:Value->PH->List PH->Prop} {n:Nat} {l:Sl} {K:PH} {hs:List PH}
theorem run_loadVarS{w:World}{t m:Nat}{a:Addr}{cs:List Value}(hm:aggOK P t m=true)(hl:cs.length=m)(hc:∀ (j:Nat) v,cs[j]?=some v->w.cell? (a.add j)=some v):(loadVar t a).run P w=.ok (.agg cs.toArray) w:=by
 have:=run_loadS (P:=P) hm hl hc;simpa[Instr.loadAt,Instr.sureAddr] using this
theorem Sat.dropN{w w0:World}:∀ (m:Nat) {hs:List PH},Sat w0 w K hs->Sat w0 w K (hs.drop m)
 | 0,_,s=>s
 | _+1,[],s=>s
 | m+1,_::r,s=>Sat.dropN m s.dropHead
theorem retcP(i m:Nat){t ty u b ty':Nat}{x:Value}{c:Array Value}{fr:Nat×Nat}(hr:fn.results=#[.cell t ty,.tmp u])(hv:look l t=some (.pointer (some ⟨b,0,none⟩)))(hx:look l u=some x)(hi:hs[i]?=some (pt b c ty' fr))(hm:aggOK P ty c.size=true)
  (hk:R (.tuple #[.agg c,x]) K (hs.drop m)):WQ w0 (bodyPost P fn (endR w0 R)) .ret n l K hs:=
 fun _ w ha hw=>bodyPost_ret (v:=.tuple #[.agg c,x]) (by
  have h2:=run_loadVarS (P:=P) (w:=w) (t:=ty) (a:=⟨b,0,none⟩) (cs:=c.toList) (by simpa using hm) rfl (fun j v hv=>hw.cell (.inr ⟨i,hi⟩) (cells_pt c.toList (fun j v h=>by simpa using h) j v hv));have e:c.toList.toArray=c:=by simp
  rw[e] at h2;simp[results,hr,ha.slot t _ hv,ha.slot u x hx,asAddr,h2]) ha.defers ⟨_,_,_,rfl,hk,hw.dropN m⟩
end ret
section open_
variable {P:Program} {T:Tab} {w0:World} {ops:Array Oper} {Q:Exit->Act->World->Prop} {plan plan':List Nat} {z:Nat} {listed listed':Array Bool} {n:Nat} {l l':Sl} {K K0:PH} {hs A:List PH}
def dixAt(T:Tab)(ops:Array Oper)(n z k:Nat)(plan:List Nat)(L:Array Bool)(l:Sl):Option (Nat×Oper×SlI×(Option Addr×Nat×Nat)×Int×List Nat×Array Bool×Sl):=
 match dopAt T ops n z k plan L l with
 | some (d,o,r,L',l')=>match o.op with
  | .indexAddr t x i=>match asc T.sls t,ev l' x,ev l' i with
   | some si,some (.slice a1 n1 c1),some (.int _ j)=>some (d,o,si,(a1,n1,c1),j,r,L',l')
   | _,_,_=>none
  | _=>none
 | none=>none
theorem dixs(hT:TabOK P T)(hsel:Region.noSelect ops=true)(k:Nat){d:Nat}{o:Oper}{si:SlI}{a:Addr}{n1 c1:Nat}{i:Int}(j:Nat)
  (h0:dixAt T ops n z k plan listed l=some (d,o,si,(some a,n1,c1),i,plan',listed',l')) (hj:i=(j:Int)) (hjn:j<n1)
  (hk:WA P w0 ops Q K0 A z plan' listed' n ((d,.pointer (some (a.add (j*si.size))))::l') K hs):WA P w0 ops Q K0 A z plan listed n l K hs:=by
 unfold dixAt at h0
 split at h0
 ·rename_i d' o' r L' l2 hh
  split at h0
  ·rename_i t x' i' hop
   split at h0
   ·rename_i si' a1 m1 k1 kk jj hsi hx hi;simp only[Option.some.injEq,Prod.mk.injEq] at h0;obtain ⟨rfl,rfl,rfl,⟨rfl,rfl,rfl⟩,rfl,rfl,rfl,rfl⟩:=h0;subst hj;obtain ⟨g1,ii,g2,g3,g4,g5⟩:=hT.sl hsi;refine dop hT hsel k hh (fun A w ha=>?_) hk;simp only[execOp,hop,ha.ev hx,ha.ev hi];simp[Instr.indexAt,asIntOf,run_underlying g1,sizeOf,typeInfo,g2,g4,hjn]
   ·simp at h0
  ·simp at h0
 ·simp at h0
def dldwAt(T:Tab)(ops:Array Oper)(n z k:Nat)(plan:List Nat)(L:Array Bool)(l:Sl):Option (Nat×Nat×Addr×List Nat×Array Bool×Sl):=
 match headAt T ops n z k plan L l with
 | some (p,o,r,L',l')=>match Nat.beq (p % 2) 0,Nat.beq (p / 2) z,gOK ops l' o.guard,o.dst,o.op with
  | true,false,some true,some d,.load t x=>match Nat.blt d n,asc T.kinds t,ev l' x with
   | true,some kd,some (.pointer (some a))=>cond kd.one (some (p,d,a,r,L'.setIfInBounds (p / 2) true,l')) none
   | _,_,_=>none
  | _,_,_,_,_=>none
 | none=>none
theorem dldw(hT:TabOK P T)(hsel:Region.noSelect ops=true)(k:Nat){p d:Nat}{a:Addr}{v:Value}{h:PH}(h0:dldwAt T ops n z k plan listed l=some (p,d,a,plan',listed',l'))(hwf:cond (Nat.blt z ops.size) (Region.waitsFor .any ops z (p / 2)) true=true)(hm:In K0 A h)(hc:Cell h a v)
  (hk:WA P w0 ops Q K0 A z plan' listed' n ((d,v)::l') K hs):WA P w0 ops Q K0 A z plan listed n l K hs:=by
 unfold dldwAt at h0
 split at h0
 ·rename_i p' o r L' l2 hh
  split at h0
  ·rename_i dd t x hp hz hg hd hop
   split at h0
   ·rename_i kd a' hb hkd hx;cases h1:kd.one with
    | false=>simp[h1] at h0
    | true=>
     simp only[h1,cond_true,Option.some.injEq,Prod.mk.injEq] at h0;obtain ⟨rfl,rfl,rfl,rfl,rfl,rfl⟩:=h0;obtain ⟨g1,g2⟩:=headAt_spec hh;refine WA.pures hT hsel k g1 ?_;have hp2:p'=2*(p' / 2):=by have:=Nat.eq_of_beq_eq_true hp;omega
     rw[hp2];refine WA.look g2 hsel hz hd hb (fun A' ha=>.inl ⟨gOK_wanted ha hg,fun w hw=>?_⟩) hk;obtain ⟨L,hcl,hun,hst⟩:=hw;have hcell:=(hst (closed_waits hcl hun hwf)).cell hm hc;have h2:=run_load1 (P:=P) hT hkd h1 hcell;simp only[execOp,hop,ha.ev hx];simp[h2]
   ·simp at h0
  ·simp at h0
 ·simp at h0
theorem dldpw(hT:TabOK P T)(hsel:Region.noSelect ops=true)(k i:Nat){p d b off ty:Nat}{v:Value}{c:Array Value}{fr:Nat×Nat}(h0:dldwAt T ops n z k plan listed l=some (p,d,⟨b,off,none⟩,plan',listed',l'))(hwf:cond (Nat.blt z ops.size) (Region.waitsFor .any ops z (p / 2)) true=true)
  (hi:A[i]?=some (pt b c ty fr)) (hv:c[off]?=some v) (hk:WA P w0 ops Q K0 A z plan' listed' n ((d,v)::l') K hs):WA P w0 ops Q K0 A z plan listed n l K hs:=
 dldw hT hsel k h0 hwf (.inr ⟨i,hi⟩) (Cell.pt hv) hk
def dlsAt(T:Tab)(ops:Array Oper)(n z k:Nat)(plan:List Nat)(L:Array Bool)(l:Sl):Option (Nat×Nat×Nat×Addr×List Nat×Array Bool×Sl):=
 match headAt T ops n z k plan L l with
 | some (p,o,r,L',l')=>match Nat.beq (p % 2) 0,Nat.beq (p / 2) z,gOK ops l' o.guard,o.dst,o.op with
  | true,false,some true,some d,.load t x=>match Nat.blt d n,ev l' x with
   | true,some (.pointer (some a))=>some (p,d,t,a,r,L'.setIfInBounds (p / 2) true,l')
   | _,_=>none
  | _,_,_,_,_=>none
 | none=>none
theorem dldS(hT:TabOK P T)(hsel:Region.noSelect ops=true)(k i:Nat){p d t b ty:Nat}{c:Array Value}{fr:Nat×Nat}(h0:dlsAt T ops n z k plan listed l=some (p,d,t,⟨b,0,none⟩,plan',listed',l'))(hwf:cond (Nat.blt z ops.size) (Region.waitsFor .any ops z (p / 2)) true=true)
  (hi:A[i]?=some (pt b c ty fr)) (hm:aggOK P t c.size=true) (hk:WA P w0 ops Q K0 A z plan' listed' n ((d,.agg c)::l') K hs):WA P w0 ops Q K0 A z plan listed n l K hs:=by
 unfold dlsAt at h0
 split at h0
 ·rename_i p' o r L' l2 hh
  split at h0
  ·rename_i dd t' x hp hz hg hd hop
   split at h0
   ·rename_i a' hb hx;simp only[Option.some.injEq,Prod.mk.injEq] at h0;obtain ⟨rfl,rfl,rfl,rfl,rfl,rfl,rfl⟩:=h0;obtain ⟨g1,g2⟩:=headAt_spec hh;refine WA.pures hT hsel k g1 ?_;have hp2:p'=2*(p' / 2):=by have:=Nat.eq_of_beq_eq_true hp;omega
    rw[hp2];refine WA.look g2 hsel hz hd hb (fun A' ha=>.inl ⟨gOK_wanted ha hg,fun w hw=>?_⟩) hk;obtain ⟨L,hcl,hun,hst⟩:=hw;have h2:=run_loadS (P:=P) (w:=w) (t:=t') (a:=⟨b,0,none⟩) (cs:=c.toList) (by simpa using hm) rfl (fun j v hv=>(hst (closed_waits hcl hun hwf)).cell (.inr ⟨i,hi⟩) (cells_pt c.toList (fun j v h=>by simpa using h) j v hv));have e:c.toList.toArray=c:=by simp
    rw[e] at h2;simp only[execOp,hop,ha.ev hx];simp[h2]
   ·simp at h0
  ·simp at h0
 ·simp at h0
end open_
section join
variable {P:Program} {w0:World} {Q:Exit->Act->World->Prop} {n:Nat} {l:Sl} {K:PH} {hs:List PH}
def JQ(w0:World){σ:Type}(F:σ->Sl)(HK:PH)(H:σ->List PH)(J:σ->Prop)(n:Nat)(Q:Exit->Act->World->Prop):Exit->Act->World->Prop
 | .normal,a,w=>∃ s,J s/\Ag n (F s) a/\Sat w0 w HK (H s)
 | e,a,w=>Q e a w
theorem jn{σ:Type}{x y:Code}(F:σ->Sl)(H:σ->List PH)(J:σ->Prop)(h1:WC P w0 x (JQ w0 F K H J n Q) n l K hs)(h2:∀ s,J s->WC P w0 y Q n (F s) K (H s)):WC P w0 (.seq x y) Q n l K hs:=
 sq fun a w ha hw=>Code.wp_mono (fun e a w h=>by
  cases e with
  | normal=>obtain ⟨s,hJ,ha,hw⟩:=h;exact h2 s hJ a w ha hw
  | _=>exact h) (h1 a w ha hw)
theorem jx{σ:Type}{F:σ->Sl}{HK:PH}{H:σ->List PH}{J:σ->Prop}(s:σ)(hJ:J s)(hF:Sub l (F s))(hK:K=HK)(hH:hs=H s):WQ w0 (JQ w0 F HK H J n Q) .normal n l K hs:=
 fun a w ha hw=>⟨s,hJ,ha.sub hF,by rw[<-hK,<-hH];exact hw⟩
theorem jr{σ:Type}{F:σ->Sl}{HK:PH}{H:σ->List PH}{J:σ->Prop}(h:WQ w0 Q .ret n l K hs):WQ w0 (JQ w0 F HK H J n Q) .ret n l K hs:=h
theorem je{σ:Type}{F:σ->Sl}{HK:PH}{H:σ->List PH}{J:σ->Prop}{i:Nat}(h:WQ w0 Q (.exit i) n l K hs):WQ w0 (JQ w0 F HK H J n Q) (.exit i) n l K hs:=h
end join
def Le(K K':PH):Prop:=∀ b o,K b=some o->K' b=some o
theorem Le.refl(K:PH):Le K K:=fun _ _ h=>h
theorem Le.trans{A B C:PH}(h:Le A B)(g:Le B C):Le A C:=fun b o x=>g b o (h b o x)
theorem Cell.le{h h':PH}(l:Le h h'){a:Addr}{v:Value}(c:Cell h a v):Cell h' a v:=by
 obtain ⟨h1,cs,ty,fr,h2,h3⟩:=c;exact ⟨h1,cs,ty,fr,l _ _ h2,h3⟩
theorem IsS.le{h h':PH}(l:Le h h'){ao:Option Addr}{n cap size:Nat}{xs:List Value}(x:IsS h ao n cap size xs):IsS h' ao n cap size xs:=
 ⟨x.1,x.2.1,fun j u hu=>by obtain ⟨a,h1,h2⟩:=x.2.2 j u hu;exact ⟨a,h1,h2.le l⟩⟩
def un(K h:PH):PH:=fun b=>match K b with|some o=>some o|none=>h b
theorem Sat.frz{w0 w:World}{K h:PH}{hs:List PH}(s:Sat w0 w K (h::hs)):Le K (un K h)/\Le h (un K h)/\Sat w0 w (un K h) hs:=by
 have hap:∀ b o,h b=some o->K b=none:=fun b o hb=>s.apart 0 h rfl b o hb;refine ⟨fun b o hb=>by simp[un,hb],fun b o hb=>by simp[un,hap b o hb,hb],⟨s.os,s.tape,s.output,s.size,?_,s.dropHead.own,?_,s.dropHead.sep⟩⟩
 ·intro b o hb;unfold un at hb;cases hk:K b with
  | some x=>rw[hk] at hb;cases hb;exact s.imm b _ hk
  | none=>rw[hk] at hb;exact s.own 0 h I b o hb
 ·intro i g hg b o hb;have h1:=s.dropHead.apart i g hg b o hb;have h2:=s.sep (i+1) 0 g h (by simpa using hg) rfl qo b o hb;simp[un,h1,h2]
theorem Sat.weak{w0 w:World}{K K':PH}{hs:List PH}(l:Le K K')(s:Sat w0 w K' hs):Sat w0 w K hs:=by
 refine ⟨s.os,s.tape,s.output,s.size,fun b o hb=>s.imm b o (l b o hb),s.own,fun i h hi b o hb=>?_,s.sep⟩;have:=s.apart i h hi b o hb;cases hk:K b with
 | none=>rfl
 | some x=>rw[l b x hk] at this;cases this
section frz
variable {P:Program} {w0:World} {ops:Array Oper} {Q:Exit->Act->World->Prop} {rest:List Oper} {n:Nat} {l:Sl} {K h:PH} {hs:List PH} {c:Code} {e:Exit}
theorem WL.frz(hk:∀ K',Le K K'->Le h K'->WL P w0 ops Q rest n l K' hs):WL P w0 ops Q rest n l K (h::hs):=fun a w ha hw=>by
 obtain ⟨h1,h2,h3⟩:=hw.frz;exact hk _ h1 h2 a w ha h3
theorem WC.frz(hk:∀ K',Le K K'->Le h K'->WC P w0 c Q n l K' hs):WC P w0 c Q n l K (h::hs):=fun a w ha hw=>by
 obtain ⟨h1,h2,h3⟩:=hw.frz;exact hk _ h1 h2 a w ha h3
theorem WQ.frz(hk:∀ K',Le K K'->Le h K'->WQ w0 Q e n l K' hs):WQ w0 Q e n l K (h::hs):=fun a w ha hw=>by
 obtain ⟨h1,h2,h3⟩:=hw.frz;exact hk _ h1 h2 a w ha h3
theorem In.le{K K':PH}{hs:List PH}{x:PH}(hm:In K hs x)(l:Le K K'):∃ y,In K' hs y/\Le x y:=by
 rcases hm with rfl|h
 ·exact ⟨K',.inl I,l⟩
 ·exact ⟨x,.inr h,Le.refl _⟩
end frz
section rules
variable {P:Program} {T:Tab} {w0:World} {ops:Array Oper} {Q:Exit->Act->World->Prop} {rest rest':List Oper} {n:Nat} {l l':Sl} {K:PH} {hs:List PH}
def ovAt(T:Tab)(ops:Array Oper)(n k:Nat)(rest:List Oper)(l:Sl):Option (Nat×Oper×List Oper×Sl):=
 match opAt T ops n k rest l with
 | some (o,r,l')=>match o.dst with
  | some d=>cond (Nat.blt d n) (some (d,o,r,l')) none
  | none=>none
 | none=>none
def esAt(T:Tab)(ops:Array Oper)(n k:Nat)(rest:List Oper)(l:Sl):Option (Nat×Bool×Nat×Array Value×Array Value×List Oper×Sl):=
 match opAt T ops n k rest l with
 | some (o,r,l')=>match o.dst,o.op with
  | some d,.binOp .eql t x y _=>match Nat.blt d n,ev l' x,ev l' y with
   | true,some (.agg xs),some (.agg ys)=>some (d,true,t,xs,ys,r,l')
   | _,_,_=>none
  | some d,.binOp .neq t x y _=>match Nat.blt d n,ev l' x,ev l' y with
   | true,some (.agg xs),some (.agg ys)=>some (d,false,t,xs,ys,r,l')
   | _,_,_=>none
  | _,_=>none
 | none=>none
theorem eqs(hT:TabOK P T)(k:Nat){d t:Nat}{same b:Bool}{xs ys:Array Value}(h0:esAt T ops n k rest l=some (d,same,t,xs,ys,rest',l'))(hg0:P.eqGuardType P.depth t=false)
  (hr:∀ w,(Op.equalIn 10000 t (.agg xs) (.agg ys)).run P w=.ok b w) (hk:WL P w0 ops Q rest' n ((d,.bool (b == same))::l') K hs):WL P w0 ops Q rest n l K hs:=by
 unfold esAt at h0
 split at h0
 ·rename_i o r l2 ho
  split at h0
  ·rename_i d' t' x y ty hd hop
   split at h0
   ·rename_i xs' ys' hb hx hy;simp only[Option.some.injEq,Prod.mk.injEq] at h0;obtain ⟨rfl,rfl,rfl,rfl,rfl,rfl,rfl⟩:=h0;refine WL.at' hT ho fun hg=>WL.val (R:=fun u K' hs'=>u=.bool (b == true)/\K'=K/\hs'=hs) hd hb hg (fun A w ha hw=>⟨_,w,K,hs,?_,hw,I,I,I⟩) (fun u K' hs' ⟨h1,h2,h3⟩=>by subst h1;subst h2;subst h3;exact hk);simp only[execOp,hop,ha.ev hx,ha.ev hy];simp[run_eqGuard_agg,hg0,run_eql_struct,hr]
   ·simp at h0
  ·rename_i d' t' x y ty hd hop
   split at h0
   ·rename_i xs' ys' hb hx hy;simp only[Option.some.injEq,Prod.mk.injEq] at h0;obtain ⟨rfl,rfl,rfl,rfl,rfl,rfl,rfl⟩:=h0;refine WL.at' hT ho fun hg=>WL.val (R:=fun u K' hs'=>u=.bool (b == false)/\K'=K/\hs'=hs) hd hb hg (fun A w ha hw=>⟨_,w,K,hs,?_,hw,I,I,I⟩) (fun u K' hs' ⟨h1,h2,h3⟩=>by subst h1;subst h2;subst h3;exact hk);simp only[execOp,hop,ha.ev hx,ha.ev hy];simp[run_eqGuard_agg,hg0,run_neq_struct,hr]
   ·simp at h0
  ·simp at h0
 ·simp at h0
def cbAt(T:Tab)(ops:Array Oper)(n k:Nat)(rest:List Oper)(l:Sl):Option (Nat×Nat×Nat×ByteArray×List Oper×Sl):=
 match opAt T ops n k rest l with
 | some (o,r,l')=>match o.dst,o.op with
  | some d,.convert t t' x=>match Nat.blt d n,ev l' x with
   | true,some (.string s)=>some (d,t,t',s,r,l')
   | _,_=>none
  | _,_=>none
 | none=>none
theorem cvb(hT:TabOK P T)(k:Nat){d t t':Nat}{xs:List UInt8}(h0:cbAt T ops n k rest l=some (d,t,t',⟨xs.toArray⟩,rest',l'))(hs':isStr P t' t=true)
  (hk:∀ b cap h,IsS h (some ⟨b,0,none⟩) xs.length cap 1 (xs.map fun b=>Value.int .u8 b.toNat)->WL P w0 ops Q rest' n ((d,.slice (some ⟨b,0,none⟩) xs.length cap)::l') K (h::hs)):WL P w0 ops Q rest n l K hs:=by
 unfold cbAt at h0
 split at h0
 ·rename_i o r l2 ho
  split at h0
  ·rename_i d' t1 t2 y hd hop
   split at h0
   ·rename_i s hb hy;simp only[Option.some.injEq,Prod.mk.injEq] at h0;obtain ⟨rfl,rfl,rfl,rfl,rfl,rfl⟩:=h0;unfold isStr at hs';simp only[Bool.and_eq_true] at hs';obtain ⟨q1,q2⟩:=hs';cases e1:P.underlying t2 with
    | none=>simp[e1] at q1
    | some d1=>
     cases d1 <;> simp[e1] at q1;rename_i e;cases e2:P.underlying e with
     | none=>simp[e2] at q1
     | some d2=>
      cases d2 <;> simp[e2] at q1;rename_i kd;cases kd <;> simp at q1;cases e3:P.underlying t1 with
      | none=>simp[e3] at q2
      | some d3=>
       refine WL.at' hT ho fun hg=>WL.val (R:=fun u K' hs'=>∃ b cap h,u=.slice (some ⟨b,0,none⟩) xs.length cap/\K'=K/\hs'=h::hs/\IsS h (some ⟨b,0,none⟩) xs.length cap 1 (xs.map fun b=>Value.int .u8 b.toNat)) hd hb hg
        (fun A w ha hw=>?_) (fun u K' hs' ⟨b,cap,h,h1,h2,h3,h4⟩=>by subst h1;subst h2;subst h3;exact hk b cap h h4)
       have hsz:(⟨xs.toArray⟩:ByteArray).size=xs.length:=by simp[ByteArray.size]
       have hr:=Lib.run_convert_string_bytes (P:=P) w t1 t2 e ⟨xs.toArray⟩ e3 e1 e2;have hcap:xs.length<=grownCap w xs.length 0 e:=grownCap_ge w xs.length 0 e
       have hcs:(Lib.bytesCells w e ⟨xs.toArray⟩).toList=xs.map (fun b=>Value.int .u8 b.toNat)++List.replicate (grownCap w xs.length 0 e-xs.length) (.int .u8 0):=by
        simp[Lib.bytesCells,hsz]
       refine ⟨.slice (some ⟨w.heap.size,0,none⟩) xs.length (grownCap w xs.length 0 e),Lib.bytesWorld w e ⟨xs.toArray⟩,K,pt w.heap.size (Lib.bytesCells w e ⟨xs.toArray⟩) e ((Lib.bytesCells w e ⟨xs.toArray⟩).size,(Lib.bytesCells w e ⟨xs.toArray⟩).size+1)::hs,?_,?_,w.heap.size,grownCap w xs.length 0 e,_,I,I,I,?_⟩
       ·simp only[execOp,hop,ha.ev hy];rw[<-hsz];simp[hr]
       ·have h1:=(hw.drew.alloc (.cells (Lib.bytesCells w e ⟨xs.toArray⟩) e)).remark (i:=0) (w':=Lib.bytesWorld w e ⟨xs.toArray⟩) (fr':=((Lib.bytesCells w e ⟨xs.toArray⟩).size,(Lib.bytesCells w e ⟨xs.toArray⟩).size+1)) rfl
         (Lib.bytesWorld_at_new w e _) ?_ rfl rfl rfl ?_
        ·exact h1
        ·intro k hk;rcases Nat.lt_or_ge k w.heap.size with h|h
         ·rw[Lib.bytesWorld_at_old w e _ k h];exact (RowKit.Below.heap_alloc w.drew _ k h).symm
         ·have hk':w.heap.size<k:=by have:k≠w.heap.size:=hk;omega
          rw[Array.getElem?_eq_none (by rw[Lib.bytesWorld_size];omega),Array.getElem?_eq_none (by simp;omega)]
        ·rw[Lib.bytesWorld_size];simp
       ·refine ⟨by simp,hcap,fun j u hu=>⟨_,I,?_⟩⟩;rw[add_mk,Nat.zero_add];refine Cell.pt ?_;have hj:j<xs.length:=by have:=(List.getElem?_eq_some_iff.1 hu).1;simpa using this
        rw[<-Array.getElem?_toList,hcs,List.getElem?_append_left (by simpa using hj)];exact hu
   ·simp at h0
  ·simp at h0
 ·simp at h0
end rules
section ret
variable {P:Program} {w0:World} {fn:Func} {R:Value->PH->List PH->Prop} {n:Nat} {l:Sl} {K:PH} {hs:List PH}
theorem retcA(i m:Nat){t ty b ty':Nat}{c:Array Value}{fr:Nat×Nat}(hr:fn.results=#[.cell t ty])(hv:look l t=some (.pointer (some ⟨b,0,none⟩)))(hi:hs[i]?=some (pt b c ty' fr))(hm:aggOK P ty c.size=true)
  (hk:R (.agg c) K (hs.drop m)):WQ w0 (bodyPost P fn (endR w0 R)) .ret n l K hs:=
 fun _ w ha hw=>bodyPost_ret (v:=.agg c) (by
  have h2:=run_loadVarS (P:=P) (w:=w) (t:=ty) (a:=⟨b,0,none⟩) (cs:=c.toList) (by simpa using hm) rfl (fun j v hv=>hw.cell (.inr ⟨i,hi⟩) (cells_pt c.toList (fun j v h=>by simpa using h) j v hv));have e:c.toList.toArray=c:=by simp
  rw[e] at h2;simp[results,hr,ha.slot t _ hv,asAddr,h2]) ha.defers ⟨_,_,_,rfl,hk,hw.dropN m⟩
end ret
theorem bnot{b:Bool}{p:Prop}(h:b=true↔p):(!b)=true↔¬p:=by cases b <;> simp_all
theorem Ag.cut{n:Nat}{l l':Sl}{a:Act}(h:Ag n l' a)(h1:l'.drop (l'.length-l.length)=l)(h2:((l'.take (l'.length-l.length)).all fun x=>(look l x.1).isNone)=true):Ag n l a:=by
 refine ⟨h.size,h.defers,fun t v ht=>h.slot t v ?_⟩;generalize l'.length-l.length=k at h1 h2;clear h
 induction k generalizing l' with
 | zero=>simp at h1;rw[h1];exact ht
 | succ k ih=>
  cases l' with
  | nil=>simp at h1;subst h1;exact ht
  | cons x r=>
   obtain ⟨t',u⟩:=x;simp only[List.take_succ_cons,List.all_cons,Bool.and_eq_true] at h2;have:=ih (l':=r) (by simpa using h1) h2.2;simp only[look];cases e:Nat.beq t' t with
   | false=>simpa using this
   | true=>
    have:t'=t:=Nat.eq_of_beq_eq_true e;subst this;simp[ht] at h2
theorem Ag.cons{n:Nat}{l:Sl}{a:Act}{t:Nat}{v:Value}(h:Ag n l a)(ht:a.tmps[t]?=some v):Ag n ((t,v)::l) a:=by
 refine ⟨h.size,h.defers,fun s u hs=>?_⟩;simp only[look] at hs;cases e:Nat.beq t s with
 | true=>
  have:t=s:=Nat.eq_of_beq_eq_true e;subst this;rw[e] at hs;simp only[cond_true,Option.some.injEq] at hs;rw[<-hs];exact ht
 | false=>rw[e] at hs;exact h.slot s u hs
def BJ(w0:World)(t n:Nat)(l:Sl)(q:Prop)(K:PH)(hs:List PH):Exit->Act->World->Prop:=fun e a w=>e=.normal/\∃ c:Bool,(c=true↔q)/\Ag n ((t,.bool c)::l) a/\Sat w0 w K hs
theorem bjx{w0:World}{t n:Nat}{l l':Sl}{q:Prop}{K:PH}{hs:List PH}{c:Bool}(hc:c=true↔q)(hl:look l' t=some (.bool c))(h1:l'.drop (l'.length-l.length)=l)(h2:((l'.take (l'.length-l.length)).all fun x=>(look l x.1).isNone)=true):
  WQ w0 (BJ w0 t n l q K hs) .normal n l' K hs:=fun a w ha hw=>⟨rfl,c,hc,(ha.cut h1 h2).cons (ha.slot t _ hl),hw⟩
theorem wpList_app{P:Program}{ops:Array Oper}{Q Q1:Exit->Act->World->Prop}{rest:List Oper}(h1:∀ e a w,Q1 e a w->e=.normal)(h2:∀ a w,Q1 .normal a w->wpList P ops Q rest a w):
  ∀ (seg:List Oper) (a:Act) (w:World),wpList P ops Q1 seg a w->wpList P ops Q (seg++rest) a w
 | [],a,w,h=>h2 a w h
 | o::seg,a,w,h=>by
  unfold wpList at h;rw[List.cons_append];unfold wpList
  split
  ·rename_i hw;rw[if_pos hw] at h;rcases h with h|⟨_,a',w',h⟩
   ·refine .inl (Oper.wp_mono (fun a w h=>wpList_app h1 h2 seg a w h) ?_);unfold Oper.wp at h ⊢;refine upon_q (fun c a w h=>?_) (fun a w h=>?_) h
    ·have:=h1 _ _ _ h;cases this
    ·have:=h1 _ _ _ h;cases this
   ·have:=h1 _ _ _ h;cases this
  ·rename_i hw;rw[if_neg hw] at h;exact wpList_app h1 h2 seg _ w h
section rules
variable {P:Program} {T:Tab} {w0:World} {ops:Array Oper} {Q:Exit->Act->World->Prop} {rest rest' rest2:List Oper} {n:Nat} {l l' lE:Sl} {K:PH} {hs:List PH}
def setb(ts:List Nat)(w:Bool):Sl->Sl
 | []=>[]
 | (k,v)::r=>(k,cond (ts.any (Nat.beq k)) (.bool w) v)::setb ts w r
theorem bj(hT:TabOK P T)(k m t:Nat)(ts:List Nat)(want:Bool)(b:Bool){φ q:Prop}(h0:pureN T ops n k rest l=some (rest',l'))(hlf:setb ts b l'=l')(hno:pureN T ops n m rest' (setb ts (!want) l')=some (rest2,lE))(hl:look lE t=some (.bool (!want)))
  (h1:lE.drop (lE.length-(setb ts (!want) l').length)=setb ts (!want) l') (h2:((lE.take (lE.length-(setb ts (!want) l').length)).all fun x=>(look (setb ts (!want) l') x.1).isNone)=true) (hr:rest'=rest'.take m++rest2)
  (hn:b = !want->((!want)=true↔φ)) (hq:b=want->(q↔φ))
  (hex:b=want->WL P w0 ops (BJ w0 t n (setb ts want l') q K hs) (rest'.take m) n (setb ts want l') K hs)
  (hk:∀ b',(b'=true↔φ)->WL P w0 ops Q rest2 n ((t,.bool b')::l') K hs):WL P w0 ops Q rest n l K hs:=by
 refine WL.pures hT k h0 ?_
 by_cases hb:b=want
 ·subst hb;rw[hlf] at hex;intro a w ha hw;rw[hr];refine wpList_app (Q1:=BJ w0 t n l' q K hs) (fun e a w h=>h.1) (fun a w h=>?_) _ a w (hex I a w ha hw);obtain ⟨_,c,hc,hA,hS⟩:=h;exact hk c (hc.trans (hq I)) a w hA hS
 ·have hb':b = !want:=by cases b <;> cases want <;> first|rfl|exact absurd rfl hb
  subst hb';rw[hlf] at hno h1 h2;exact WL.pures hT m hno fun a w ha hw=>hk _ (hn I) a w ((ha.cut h1 h2).cons (ha.slot t _ hl)) hw
theorem bjo(hT:TabOK P T)(k m t:Nat)(ts:List Nat){b:Bool}{p q:Prop}(hb:b=true↔p)(h0:pureN T ops n k rest l=some (rest',l'))(hlf:setb ts b l'=l')(hno:pureN T ops n m rest' (setb ts true l')=some (rest2,lE))(hl:look lE t=some (.bool true))
  (h1:lE.drop (lE.length-(setb ts true l').length)=setb ts true l') (h2:((lE.take (lE.length-(setb ts true l').length)).all fun x=>(look (setb ts true l') x.1).isNone)=true) (hr:rest'=rest'.take m++rest2)
  (hex:¬p->WL P w0 ops (BJ w0 t n (setb ts false l') q K hs) (rest'.take m) n (setb ts false l') K hs)
  (hk:∀ b',(b'=true↔p\/q)->WL P w0 ops Q rest2 n ((t,.bool b')::l') K hs):WL P w0 ops Q rest n l K hs:=
 bj hT k m t ts false b (φ:=p\/q) (q:=q) h0 hlf hno hl h1 h2 hr (fun h=>by subst h;simpa using Or.inl (hb.1 rfl)) (fun h=>⟨.inr,fun g=>g.resolve_left (fun hp=>by have:=hb.2 hp;rw[h] at this;cases this)⟩)
  (fun h=>hex (fun hp=>by have:=hb.2 hp;rw[h] at this;cases this)) hk
theorem bja(hT:TabOK P T)(k m t:Nat)(ts:List Nat){b:Bool}{p q:Prop}(hb:b=true↔p)(h0:pureN T ops n k rest l=some (rest',l'))(hlf:setb ts b l'=l')(hno:pureN T ops n m rest' (setb ts false l')=some (rest2,lE))(hl:look lE t=some (.bool false))
  (h1:lE.drop (lE.length-(setb ts false l').length)=setb ts false l') (h2:((lE.take (lE.length-(setb ts false l').length)).all fun x=>(look (setb ts false l') x.1).isNone)=true) (hr:rest'=rest'.take m++rest2)
  (hex:p->WL P w0 ops (BJ w0 t n (setb ts true l') q K hs) (rest'.take m) n (setb ts true l') K hs)
  (hk:∀ b',(b'=true↔p/\q)->WL P w0 ops Q rest2 n ((t,.bool b')::l') K hs):WL P w0 ops Q rest n l K hs:=
 bj hT k m t ts true b (φ:=p/\q) (q:=q) h0 hlf hno hl h1 h2 hr (fun h=>Iff.intro (fun h'=>absurd h' (by decide)) (fun h'=>by have:=hb.2 h'.1;rw[h] at this;cases this)) (fun h=>Iff.intro (fun g=>⟨hb.1 h,g⟩) (fun g=>g.2))
  (fun h=>hex (hb.1 h)) hk
theorem cmpS(hT:TabOK P T)(k:Nat){d:Nat}{p:Prop}(h:cmpAt T ops n k rest l=some (d,p,rest',l'))(hk:∀ b:Bool,(b=true↔p)->WL P w0 ops Q rest' n ((d,.bool b)::l') K hs):WL P w0 ops Q rest n l K hs:=
 cmp hT k h (fun hp=>hk true (by simpa using hp)) (fun hp=>hk false (by simpa using hp))
theorem cbS(hT:TabOK P T)(k:Nat){d:Nat}{c:Bool}(p:Prop)(h:valAt T ops n k rest l=some (d,.bool c,rest',l'))(hp:c=true↔p)(hk:∀ b:Bool,(b=true↔p)->WL P w0 ops Q rest' n ((d,.bool b)::l') K hs):WL P w0 ops Q rest n l K hs:=
 ar hT k h rfl (hk c hp)
theorem seS(hT:TabOK P T)(k:Nat){d:Nat}{xs ys:List UInt8}(h:valAt T ops n k rest l=some (d,.bool ((⟨xs.toArray⟩:ByteArray).toList == (⟨ys.toArray⟩:ByteArray).toList),rest',l'))(hk:∀ b:Bool,(b=true↔xs=ys)->WL P w0 ops Q rest' n ((d,.bool b)::l') K hs):WL P w0 ops Q rest n l K hs:=
 ar hT k h rfl (hk _ (by rw[str_toList,str_toList];simp))
theorem snS(hT:TabOK P T)(k:Nat){d:Nat}{xs ys:List UInt8}(h:valAt T ops n k rest l=some (d,.bool !((⟨xs.toArray⟩:ByteArray).toList == (⟨ys.toArray⟩:ByteArray).toList),rest',l'))(hk:∀ b:Bool,(b=true↔xs≠ys)->WL P w0 ops Q rest' n ((d,.bool b)::l') K hs):WL P w0 ops Q rest n l K hs:=
 ar hT k h rfl (hk _ (by rw[str_toList,str_toList];simp))
theorem nmS{t:Nat}{c:Bool}(hk:∀ b:Bool,(b=true↔c=true)->WL P w0 ops Q rest n ((t,.bool b)::l) K hs):WL P w0 ops Q rest n ((t,.bool c)::l) K hs:=hk c Iff.rfl
end rules
theorem ifP{P:Program}{w0:World}{Q:Exit->Act->World->Prop}{n:Nat}{l:Sl}{K:PH}{hs:List PH}{c:Operand}{x y:Code}{b:Bool}{p:Prop}(hb:b=true↔p)(hc:ev l c=some (.bool b))(h:p->WC P w0 x Q n l K hs)(h':¬p->WC P w0 y Q n l K hs):
  WC P w0 (.cond c x y) Q n l K hs:=ifB hc (fun e=>h (hb.1 e)) (fun e=>h' (fun hp=>by rw[hb.2 hp] at e;cases e))
theorem ifPT{P:Program}{w0:World}{Q:Exit->Act->World->Prop}{n:Nat}{l:Sl}{K:PH}{hs:List PH}{c:Operand}{x y:Code}{b:Bool}{p:Prop}(hb:b=true↔p)(hp:p)(hc:ev l c=some (.bool b))(h:WC P w0 x Q n l K hs):
  WC P w0 (.cond c x y) Q n l K hs:=ifP hb hc (fun _=>h) (fun g=>absurd hp g)
theorem ifPF{P:Program}{w0:World}{Q:Exit->Act->World->Prop}{n:Nat}{l:Sl}{K:PH}{hs:List PH}{c:Operand}{x y:Code}{b:Bool}{p:Prop}(hb:b=true↔p)(hp:¬p)(hc:ev l c=some (.bool b))(h:WC P w0 y Q n l K hs):
  WC P w0 (.cond c x y) Q n l K hs:=ifP hb hc (fun g=>absurd g hp) (fun _=>h)
theorem dcbS{P:Program}{T:Tab}{w0:World}{ops:Array Oper}{Q:Exit->Act->World->Prop}{plan plan':List Nat}{z:Nat}{listed listed':Array Bool}{n:Nat}{l l':Sl}{K K0:PH}{hs A:List PH}
  (hT:TabOK P T) (hsel:Region.noSelect ops=true) (k:Nat) {d:Nat} {c:Bool} (p:Prop) (h0:dvalAt T ops n z k plan listed l=some (d,.bool c,plan',listed',l')) (hp:p↔c=true)
  (hk:∀ b:Bool,(b=true↔p)->WA P w0 ops Q K0 A z plan' listed' n ((d,.bool b)::l') K hs):WA P w0 ops Q K0 A z plan listed n l K hs:=
 dar hT hsel k h0 rfl (hk c hp.symm)
theorem Ct.keep{P:Program}{w0:World}{f:FuncId}{args:List Value}{K:PH}{hs:List PH}{h:PH}{u:Value}(i:Nat)(hi:hs[i]?=some h)
  (c:Ct P w0 f args K (h::hs.eraseIdx i) (fun v K' hs'=>K'=K/\hs'=h::hs.eraseIdx i/\v=u)):Ct P w0 f args K hs (fun v K' hs'=>K'=K/\hs'=hs/\v=u):=by
 refine ⟨c.1,fun w hw=>(c.2 w (hw.perm (perm_front hs i h hi))).mono ?_⟩;rintro e w' ⟨v,K',hs',rfl,⟨rfl,rfl,rfl⟩,hw'⟩;exact ⟨_,_,_,I,⟨I,I,I⟩,hw'.perm (perm_front hs i h hi).symm⟩
theorem dlds{P:Program}{T:Tab}{w0:World}{ops:Array Oper}{Q:Exit->Act->World->Prop}{plan plan':List Nat}{z:Nat}{listed listed':Array Bool}{n:Nat}{l l':Sl}{K K0:PH}{hs A:List PH}
  (hT:TabOK P T) (hsel:Region.noSelect ops=true) (k:Nat) {p d t:Nat} {a:Addr} {h:PH} (cs:List Value) (h0:dlsAt T ops n z k plan listed l=some (p,d,t,a,plan',listed',l')) (hwf:cond (Nat.blt z ops.size) (Region.waitsFor .any ops z (p / 2)) true=true)
  (hm:aggOK P t cs.length=true) (hin:In K0 A h) (hc:∀ (j:Nat) v,cs[j]?=some v->Cell h (a.add j) v) (hk:WA P w0 ops Q K0 A z plan' listed' n ((d,.agg cs.toArray)::l') K hs):WA P w0 ops Q K0 A z plan listed n l K hs:=by
 unfold dlsAt at h0
 split at h0
 ·rename_i p' o r L' l2 hh
  split at h0
  ·rename_i dd t' x hp hz hg hd hop
   split at h0
   ·rename_i a' hb hx;simp only[Option.some.injEq,Prod.mk.injEq] at h0;obtain ⟨rfl,rfl,rfl,rfl,rfl,rfl,rfl⟩:=h0;obtain ⟨g1,g2⟩:=headAt_spec hh;refine WA.pures hT hsel k g1 ?_;have hp2:p'=2*(p' / 2):=by have:=Nat.eq_of_beq_eq_true hp;omega
    rw[hp2];refine WA.look g2 hsel hz hd hb (fun A' ha=>.inl ⟨gOK_wanted ha hg,fun w hw=>?_⟩) hk;obtain ⟨L,hcl,hun,hst⟩:=hw;have h2:=run_loadS (P:=P) (w:=w) (t:=t') (a:=a') (cs:=cs) hm rfl (fun j v hv=>(hst (closed_waits hcl hun hwf)).cell hin (hc j v hv));simp only[execOp,hop,ha.ev hx];simp[h2]
   ·simp at h0
  ·simp at h0
 ·simp at h0
theorem WL.hs{P:Program}{w0:World}{ops:Array Oper}{Q:Exit->Act->World->Prop}{rest:List Oper}{n:Nat}{l:Sl}{K:PH}{hs:List PH}(hs':List PH)(e:hs=hs')(hk:WL P w0 ops Q rest n l K hs'):WL P w0 ops Q rest n l K hs:=by
 subst e;exact hk
end
section
def bv(l:List UInt8):List Value:=l.map fun b=>Value.int .u8 b.toNat
theorem bv_append(l r:List UInt8):bv (l++r)=bv l++bv r:=by simp[bv]
theorem bv_one(l:List UInt8):∀ u∈bv l,u.oneCell'=true:=by
 intro u hu;obtain ⟨b,_,rfl⟩:=List.mem_map.1 hu
 rfl
theorem bv_get{l:List UInt8}{j:Nat}(h:j<l.length):(bv l)[j]?=some (.int .u8 (l[j].toNat:Nat)):=by
 simp[bv,h]
def uint(n:Nat):List UInt8:=if n<128 then [UInt8.ofNat n] else UInt8.ofNat (n % 128+128)::uint (n / 128)
 termination_by n
 decreasing_by omega
theorem uint_lt{n:Nat}(h:n<128):uint n=[UInt8.ofNat n]:=by rw[uint,if_pos h]
theorem uint_ge{n:Nat}(h:¬n<128):uint n=UInt8.ofNat (n % 128+128)::uint (n / 128):=by rw[uint,if_neg h]
theorem uint_length_le:∀ (k n:Nat),n<128 ^ k->0<k->(uint n).length<=k
 | 0,n,h,h0=>by omega
 | k+1,n,h,_=>by
  by_cases hn:n<128
  ·rw[uint_lt hn];simp
  ·rw[uint_ge hn];have h2:n / 128<128 ^ k:=by rw[Nat.div_lt_iff_lt_mul qo];rw[Nat.pow_succ] at h;omega
   have hk:0<k:=by
    cases k with
    | zero=>simp at h;omega
    | succ k=>omega
   have:=uint_length_le k (n / 128) h2 hk
   simp;omega
theorem uint_le10{n:Nat}(h:n<18446744073709551616):(uint n).length<=10:=by
 refine uint_length_le 10 n ?_ qo;have:(128:Nat) ^ 10=1180591620717411303424:=by decide
 rw[this];omega
theorem byteV{n:Nat}(h:n<256):Value.int .u8 (n:Nat)=.int .u8 ((UInt8.ofNat n).toNat:Nat):=by
 rw[UInt8.toNat_ofNat_of_lt' (by simpa using h)]
theorem isS_of{h:PH}{ao:Option Addr}{n n' cap size:Nat}{xs ys:List Value}(x:IsS h ao n cap size xs)(h1:n=n')(h2:xs=ys):IsS h ao n' cap size ys:=by subst h1;subst h2;exact x
theorem isS_byte(b m:Nat)(h:m<256):IsS (pt b #[.int .u8 (m:Nat)] 5) (some ⟨b,0,none⟩) 1 1 1 (bv [UInt8.ofNat m]):=by
 refine isS_of (Own.ofPt (e:=5) (n:=1) (size:=1) (by simp) (by simp[maxLen])).isS I ?_;simp[bv,byteV h]
theorem bv_or128:∀ m:BitVec 8,(m ||| 128#8)=BitVec.ofNat 8 (m.toNat % 128+128):=by decide
theorem u8or128(m:Nat):Value.int .u8 (IntKind.u8.wrap (BitVec.ofInt 8 ((m % 256:Nat):Int) ||| BitVec.ofInt 8 128).toNat)=.int .u8 (m % 128+128:Nat):=by
 have h:=bv_or128 (BitVec.ofInt 8 ((m % 256:Nat):Int));have h2:(BitVec.ofInt 8 ((m % 256:Nat):Int)).toNat=m % 256:=by simp;omega
 have h3:BitVec.ofInt 8 128=128#8:=by decide
 rw[h3,h,h2,u8m]
 simp
 omega
theorem u64shr7(m:Nat):Value.int .u64 ((m:Int).fdiv (2 ^ (min (7:Int).toNat IntKind.u64.bits)))=.int .u64 (m / 128:Nat):=by
 have:min (7:Int).toNat IntKind.u64.bits=7:=by decide
 rw[this]
 congr 1
 rw[Int.fdiv_eq_ediv_of_nonneg _ (by decide)]
 norm_cast
def crcBit(s:BitVec 32):BitVec 32:=(s >>> 1) ^^^ (0x82f63b78#32 &&& -(s &&& 1#32))
def crcBits:Nat->BitVec 32->BitVec 32
 | 0,s=>s
 | k+1,s=>crcBits k (crcBit s)
theorem crcBits_succ:∀ (k:Nat) (s:BitVec 32),crcBits (k+1) s=crcBit (crcBits k s)
 | 0,s=>rfl
 | k+1,s=>by rw[crcBits,crcBits_succ k (crcBit s)];rfl
def crcByte(s:BitVec 32)(c:UInt8):BitVec 32:=crcBits 8 (s ^^^ BitVec.ofNat 32 c.toNat)
def crcRaw(s:BitVec 32)(l:List UInt8):BitVec 32:=l.foldl crcByte s
def crc(l:List UInt8):BitVec 32 := ~~~ crcRaw 4294967295#32 l
theorem crcRaw_snoc(s:BitVec 32)(l:List UInt8)(c:UInt8):crcRaw s (l++[c])=crcByte (crcRaw s l) c:=by simp[crcRaw]
theorem ofI(x:BitVec 32):BitVec.ofInt 32 ((x.toNat:Nat):Int)=x:=by
 rw[BitVec.ofInt_natCast];simp
theorem u32v(x:BitVec 32):Value.int .u32 (IntKind.u32.wrap ((x.toNat:Nat):Int))=.int .u32 x.toNat:=u32w ⟨by omega,by have:=x.isLt;omega⟩
theorem u32xor(x y:BitVec 32):Value.int .u32 (IntKind.u32.wrap (BitVec.ofInt 32 ((x.toNat:Nat):Int) ^^^ BitVec.ofInt 32 ((y.toNat:Nat):Int)).toNat)=.int .u32 (((x ^^^ y).toNat:Nat):Int):=by
 rw[ofI,ofI];exact u32v _
theorem u32shr1(x:BitVec 32):Value.int .u32 (((x.toNat:Nat):Int).fdiv (2 ^ (min (1:Int).toNat IntKind.u32.bits)))=.int .u32 (((x >>> 1).toNat:Nat):Int):=by
 have:min (1:Int).toNat IntKind.u32.bits=1:=by decide
 rw[this,Int.fdiv_eq_ediv_of_nonneg _ (by decide),BitVec.toNat_ushiftRight,Nat.shiftRight_eq_div_pow]
 congr 1
theorem u32neg(x:BitVec 32):Value.int .u32 (IntKind.u32.wrap (0-((x.toNat:Nat):Int)))=.int .u32 (((-x).toNat:Nat):Int):=by
 congr 1
 have:=x.isLt;rw[BitVec.toNat_neg];simp[IntKind.wrap,IntKind.bits,IntKind.signed];omega
theorem u32not(x:BitVec 32):Value.int .u32 (IntKind.u32.wrap (BitVec.ofInt 32 (if IntKind.u32.signed then -1 else IntKind.u32.max) ^^^ BitVec.ofInt 32 ((x.toNat:Nat):Int)).toNat)=.int .u32 (((~~~x).toNat:Nat):Int):=by
 have e:BitVec.ofInt 32 (if IntKind.u32.signed then -1 else IntKind.u32.max)=BitVec.allOnes 32:=by decide
 rw[e,ofI,BitVec.allOnes_xor];exact u32v _
theorem u32and1(x:BitVec 32):Value.int .u32 (IntKind.u32.wrap (BitVec.ofInt 32 ((x.toNat:Nat):Int) &&& BitVec.ofInt 32 1).toNat)=.int .u32 (((x &&& 1#32).toNat:Nat):Int):=by
 rw[ofI,show BitVec.ofInt 32 1=1#32 from by decide];exact u32v _
theorem u32andP(x:BitVec 32):Value.int .u32 (IntKind.u32.wrap (BitVec.ofInt 32 2197175160 &&& BitVec.ofInt 32 ((x.toNat:Nat):Int)).toNat)=.int .u32 (((0x82f63b78#32 &&& x).toNat:Nat):Int):=by
 rw[ofI,show BitVec.ofInt 32 2197175160=0x82f63b78#32 from by decide];exact u32v _
theorem u32ofByte(c:UInt8):Value.int .u32 (IntKind.u32.wrap ((c.toNat:Nat):Int))=.int .u32 (((BitVec.ofNat 32 c.toNat).toNat:Nat):Int):=by
 have:=c.toNat_lt;rw[u32w qo]
 simp
theorem take_succ_get{α:Type}(l:List α)(j:Nat)(h:j<l.length):l.take (j+1)=l.take j++[l[j]]:=by
 rw[List.take_add_one,List.getElem?_eq_getElem h];rfl
def putBytes(x:List UInt8):List UInt8:=uint x.length++x
def le4(s:Nat):List UInt8:=[UInt8.ofNat s,UInt8.ofNat (s / 256),UInt8.ofNat (s / 65536),UInt8.ofNat (s / 16777216)]
def sealed(b:List UInt8):List UInt8:=putBytes b++le4 (crc b).toNat
def number(i acc:Nat):List UInt8->Nat×Nat×Int
 | []=>(0,0,20)
 | c::r=>if i=9/\1<c.toNat then (0,0,21)
  else if 128<=c.toNat then number (i+1) (acc+c.toNat % 128*128 ^ i) r
  else if c.toNat=0/\0<i then (0,0,21)
  else (acc+c.toNat % 128*128 ^ i,i+1,0)
theorem bv_and127:∀ m:BitVec 8,(m &&& 127#8)=BitVec.ofNat 8 (m.toNat % 128):=by decide
theorem u8and127(c:UInt8):Value.int .u8 (IntKind.u8.wrap (BitVec.ofInt 8 ((c.toNat:Nat):Int) &&& BitVec.ofInt 8 127).toNat)=.int .u8 (c.toNat % 128:Nat):=by
 have h:=bv_and127 (BitVec.ofInt 8 ((c.toNat:Nat):Int));have hlt:=c.toNat_lt;have h2:(BitVec.ofInt 8 ((c.toNat:Nat):Int)).toNat=c.toNat:=by simp
 rw[show BitVec.ofInt 8 127=127#8 from by decide,h,h2,u8m]
 simp
 omega
theorem u64shl7(m i:Nat)(hi:i<=9)(h:m*128 ^ i<18446744073709551616):Value.int .u64 (IntKind.u64.wrap (((m:Nat):Int)*2 ^ (min ((7:Int)*(i:Nat)).toNat IntKind.u64.bits)))=.int .u64 (m*128 ^ i:Nat):=by
 have e:min ((7:Int)*(i:Nat)).toNat IntKind.u64.bits=7*i:=by
  have:IntKind.u64.bits=64:=rfl;omega
 have e2:((m:Nat):Int)*2 ^ (7*i)=((m*128 ^ i:Nat):Int):=by
  have:(128:Nat) ^ i=2 ^ (7*i):=by rw[Nat.pow_mul]
  rw[this]
  push_cast
  rfl
 rw[e,e2,u64m,Nat.mod_eq_of_lt h]
theorem u64or(x y i:Nat)(hx:x<128 ^ i)(h:x+y*128 ^ i<18446744073709551616):
  Value.int .u64 (IntKind.u64.wrap (BitVec.ofInt 64 ((x:Nat):Int) ||| BitVec.ofInt 64 ((y*128 ^ i:Nat):Int)).toNat)=.int .u64 (x+y*128 ^ i:Nat):=by
 have hp:(128:Nat) ^ i=2 ^ (7*i):=by rw[Nat.pow_mul]
 have e:(BitVec.ofInt 64 ((x:Nat):Int) ||| BitVec.ofInt 64 ((y*128 ^ i:Nat):Int)).toNat=x+y*128 ^ i:=by
  rw[BitVec.toNat_or,BitVec.ofInt_natCast,BitVec.ofInt_natCast,BitVec.toNat_ofNat,BitVec.toNat_ofNat,Nat.mod_eq_of_lt qo,Nat.mod_eq_of_lt qo,Nat.or_comm,Nat.mul_comm y,hp,
   <- Nat.two_pow_add_eq_or_of_lt (by rw[<-hp];exact hx)]
  omega
 rw[e,u64m,Nat.mod_eq_of_lt h]
abbrev Rd:=List UInt8×Int
def rByte:Rd->Nat×Rd
 | (b,e)=>if e=0 then (match b with|[]=>(0,([],20))|c::r=>(c.toNat,(r,0))) else (0,(b,e))
def rUint(most:Nat):Rd->Nat×Rd
 | (b,e)=>if e=0 then (let x:=number 0 0 b;if x.2.2=0 then (if most<x.1 then (0,(b,22)) else (x.1,(b.drop x.2.1,0))) else (0,(b,x.2.2))) else (0,(b,e))
def rBytes(most:Int):Rd->List UInt8×Rd
 | (b,e)=>let x:=rUint most.toNat (b,e)
  if x.2.2=0 then (if x.2.1.length<x.1 then ([],(b,20)) else (x.2.1.take x.1,(x.2.1.drop x.1,0))) else ([],x.2)
def rEnd:Rd->Int
 | (b,e)=>if e=0/\0<b.length then 23 else e
theorem number_cons(i acc:Nat)(c:UInt8)(r:List UInt8):number i acc (c::r)=if i=9/\1<c.toNat then (0,0,21)
  else if 128<=c.toNat then number (i+1) (acc+c.toNat % 128*128 ^ i) r
  else if c.toNat=0/\0<i then (0,0,21)
  else (acc+c.toNat % 128*128 ^ i,i+1,0):=rfl
theorem pow9:(128:Nat) ^ 9=9223372036854775808:=by decide
theorem mul_pow_lt{x m i:Nat}(hi:i<=9)(hx:x<128 ^ i)(hm:m<128)(h9:i=9->m<=1):x+m*128 ^ i<18446744073709551616/\(i<9->x+m*128 ^ i<128 ^ (i+1)):=by
 have h1:(m+1)*128 ^ i<=128*128 ^ i:=Nat.mul_le_mul_right _ qo;rw[Nat.add_mul] at h1;have h2:(128:Nat) ^ (i+1)=128*128 ^ i:=by rw[Nat.pow_succ,Nat.mul_comm]
 by_cases h:i=9
 ·have h3:=h9 h;subst h;rw[pow9] at *;exact ⟨by omega,by omega⟩
 ·have h3:(128:Nat) ^ (i+1)<=128 ^ 9:=Nat.pow_le_pow_right qo qo;rw[pow9] at h3;exact ⟨by omega,by omega⟩
theorem number_bd:∀ (b:List UInt8) (i acc:Nat),i<=9->acc<128 ^ i->(number i acc b).1<18446744073709551616/\(number i acc b).2.1<=i+b.length/\((number i acc b).2.2=0->0<(number i acc b).2.1)
 | [],i,acc,hi,ha=>by simp[number]
 | c::r,i,acc,hi,ha=>by
  unfold number
  split
  ·simp
  ·rename_i h9;have h1:=mul_pow_lt (m:=c.toNat % 128) hi ha qo qo
   split
   ·rename_i h2;have hlt:i<9:=by omega
    have h3:=number_bd r (i+1) (acc+c.toNat % 128*128 ^ i) qo (h1.2 hlt);simp only[List.length_cons];exact ⟨h3.1,by omega,h3.2.2⟩
   ·split
    ·simp
    ·simp only[List.length_cons];exact ⟨h1.1,by omega,fun _=>by omega⟩
theorem rUint_bd(m:Nat)(b:List UInt8)(e:Int):(rUint m (b,e)).1<18446744073709551616/\(rUint m (b,e)).2.1.length<=b.length:=by
 have h1:=number_bd b 0 0 qo qo;simp only[rUint]
 by_cases h:e=0
 ·rw[if_pos h]
  by_cases h2:(number 0 0 b).2.2=0
  ·rw[if_pos h2]
   by_cases h3:m<(number 0 0 b).1
   ·rw[if_pos h3];exact ⟨by simp,Nat.le_refl _⟩
   ·rw[if_neg h3];exact ⟨h1.1,by simp⟩
  ·rw[if_neg h2];exact ⟨by simp,Nat.le_refl _⟩
 ·rw[if_neg h];exact ⟨by simp,Nat.le_refl _⟩
theorem putBytes_length(x:List UInt8):(putBytes x).length=(uint x.length).length+x.length:=by simp[putBytes]
end
section
open Go.En Go.ChangeShapes Go.WideShapes Go.ChangeAt Go.RowKit
open Go.ChangeMaps (open_string shut_string)
def hp(W:World):PH:=fun b=>W.heap[b]?
theorem sat0(W:World):Sat W W (hp W) []:=by
 refine ⟨I,I,I,Nat.le_refl _,fun b o h=>h,?_,?_,?_⟩
 ·intro i h hi;simp at hi
 ·intro i h hi;simp at hi
 ·intro i j h h' hi;simp at hi
theorem below_of{W w:World}{hs:List PH}(s:Sat W w (hp W) hs):Below W.heap.size W w:=by
 refine ⟨s.os,s.tape,s.output,s.size,fun k hk=>?_⟩;have h:W.heap[k]?=some W.heap[k]:=Array.getElem?_eq_getElem hk;rw[s.imm k _ h,h]
theorem calls_of{P:Program}{W:World}{f:FuncId}{args:List Value}(c:Ct P W f args (hp W) [] (fun v K' _=>K'=hp W/\v=.bool true)):
  Calls P f args.toArray W fun e W'=>e=.returned (.bool true)/\Below W.heap.size W W':=by
 refine (c.2 W (sat0 W)).mono ?_;rintro e w' ⟨v,K',hs',rfl,⟨rfl,rfl⟩,s⟩;exact ⟨I,below_of s⟩
theorem stays_all{H:Type}{enc:TypeId×Value->H}{P:Program}(hl:laidOutB P=true){W W':World}{sp:Nat->Bool}:
  ∀ (ts:List TypeId) (vs:List Value) (ds:List (DataW H)) (ps:List MemPlace),(∀ t∈ts,P.readableRec t=true/\t<P.types.size)->DataW.TrodAll enc P W 0 (fun _=>true) true ts vs ds ps ->
   (∀ p∈ps,W.sameAt W' p)->(∀ p∈ps,sp p.block=true)->DataW.TrodAll enc P W' 0 sp true ts vs ds ps
 | [],[],[],ps,_,h,_,_=>h
 | [],[],_::_,ps,_,h,_,_=>h.elim
 | [],_::_,_,ps,_,h,_,_=>h.elim
 | _::_,[],_,ps,_,h,_,_=>h.elim
 | _::_,_::_,[],ps,_,h,_,_=>h.elim
 | t::ts,v::vs,d::ds,ps,ht,h,hs,hp=>by
  obtain ⟨p,q,h1,h2,rfl⟩:=h;obtain ⟨hr,hz⟩:=ht t (by simp);refine ⟨p,q,WideElems.Trod_stays hl hr hz h1 (fun x hx=>hs x (by simp[hx])) (fun x hx=>hp x (by simp[hx])),stays_all hl ts vs ds q (fun u hu=>ht u (by simp[hu])) h2 (fun x hx=>hs x (by simp[hx])) (fun x hx=>hp x (by simp[hx])),I⟩
theorem post_true{H:Type}{enc:TypeId×Value->H}{P:Program}{f:Func}{s:ChangeSpec}{W W':World}{args:Array Value}{ds gs:List (DataW H)}{before:List MemPlace}{tb:TypeId}
  (hW:DataW.Whole enc P f.params.toList s.vars false W args.toList ds gs before) (hb:Below W.heap.size W W') (hl:laidOutB P=true)
  (hts:∀ t∈f.params.toList,P.readableRec t=true/\t<P.types.size) (hrt:f.resultTypes=#[tb]) (hub:P.underlying tb=some .bool) (hv:s.vars=[])
  (hres:(s.fn H (ds++gs)).results=[.lit (.bool true)]) (hargs:(s.fn H (ds++gs)).args=ds) (hvars:(s.fn H (ds++gs)).vars=[]):
  s.post enc P f false true false false W args (.bool true) W':=by
 have hlt:=hW.lt;have hW':=hW;obtain ⟨p,q,hA,hV,rfl,hfz,hnd⟩:=hW;rw[hv] at hV
 have hq:q=[]:=by
  cases gs with
  | nil=>exact hV
  | cons _ _=>exact hV.elim
 subst hq;refine ⟨ds,gs,_,[],p,[],hW',?_,?_,?_,hb.frame _,fun h=>by cases h⟩
 ·rw[hrt,hres];exact trodAll_cons_mk (shut_bool hub _) trodAll_mk0
 ·rw[hargs];exact stays_all hl _ _ _ _ hts hA (fun x hx=>hb.same (hlt x (by simp[hx]))) (fun x hx=>by simpa using hlt x (by simp[hx]))
 ·rw[hv,hvars];rfl
theorem bound{H:Type}{l:List (DataW H)}(hk:Rows.uptoSmall H l=true):Rows.uptoBulkAll l<=1048576:=by
 simpa[Rows.uptoSmall] using hk
theorem own:ownKnob Tryz.prog.godebug=none:=by kernel_rfl
theorem laid:laidOutB Tryz.prog=true:=by kernel_rfl
end
section
open Go.En Go.ChangeShapes Go.WideShapes Go.ChangeAt Go.RowKit Go.Deep
section opens
variable {H:Type} {enc:TypeId×Value->H} {P:Program} {W:World} {α β γ:Type}
def Opens(enc:TypeId×Value->H)(P:Program)(W:World)(t:TypeId)(sz:Nat)(R:List Value->α->Prop)(m:α->Nat):Prop:=
 P.cellsOf t=sz/\∀ fuel cs (x:DataW H×List MemPlace),DataW.trod enc P W 0 (fun _=>true) true fuel t cs=some x->∃ v,R cs v/\m v<=Rows.uptoBulk x.1/\cs.length=sz
def RI(k:IntKind)(cs:List Value)(n:Int):Prop:=cs=[.int k n]/\(Lit.int k n).wf=true
theorem Opens.int{t:TypeId}{k:IntKind}(ht:P.underlying t=some (.int k))(hc:P.cellsOf t=1):Opens enc P W t 1 (RI k) (fun _=>1):=by
 refine ⟨hc,fun fuel cs x h=>?_⟩;obtain ⟨n,rfl,rfl,hw⟩:=DataW.trod_int ht h;exact ⟨n,⟨I,hw⟩,by simp[Rows.uptoBulk],I⟩
def RB(cs:List Value)(b:Bool):Prop:=cs=[.bool b]
theorem Opens.bool{t:TypeId}(ht:P.underlying t=some .bool)(hc:P.cellsOf t=1):Opens enc P W t 1 RB (fun _=>1):=by
 refine ⟨hc,fun fuel cs x h=>?_⟩;obtain ⟨n,rfl,rfl⟩:=DataW.trod_bool ht h;exact ⟨n,I,by simp[Rows.uptoBulk],I⟩
def All2(R:List Value->α->Prop):List (List Value)->List α->Prop
 | [],[]=>True
 | c::cs,x::xs=>R c x/\All2 R cs xs
 | _,_=>False
theorem All2.snoc{R:List Value->α->Prop}{c:List Value}{x:α}(h:R c x):∀ {cs:List (List Value)} {xs:List α},All2 R cs xs->All2 R (cs++[c]) (xs++[x])
 | [],[],_=>⟨h,trivial⟩
 | _::_,_::_,g=>⟨g.1,All2.snoc h g.2⟩
 | [],_::_,g=>g.elim
 | _::_,[],g=>g.elim
def RSl(W:World)(sz:Nat)(R:List Value->α->Prop)(cs:List Value)(xs:List α):Prop:=
 ∃ ao cap,∃ css:List (List Value),cs=[.slice ao xs.length cap]/\IsS (hp W) ao xs.length cap sz css.flatten/\All2 R css xs
theorem sum_snoc(m:α->Nat)(v:α)(sumM:List α->Nat)(h0:sumM []=0)(h1:∀ x r,sumM (x::r)=m x+sumM r):∀ xs,sumM (xs++[v])=sumM xs+m v
 | []=>by simp[h0,h1]
 | x::r=>by rw[List.cons_append,h1,h1,sum_snoc m v sumM h0 h1 r];omega
def sumM(m:α->Nat):List α->Nat
 | []=>0
 | x::r=>m x+sumM m r
theorem cell_of{W:World}{a:Addr}{v:Value}(h:W.cell? a=some v):Cell (hp W) a v:=by
 unfold World.cell? at h
 split at h
 ·rename_i c ty fr hb
  split at h
  ·cases h
  ·rename_i hs;exact ⟨by cases hh:a.spot <;> simp[hh] at hs ⊢,c,ty,fr,hb,h⟩
 ·cases h
theorem cells_of{W:World}{base:Nat}{a:Addr}{n:Nat}{cs:List Value}(h:W.cells? base a n=some cs):cs.length=n/\∀ (j:Nat) u,cs[j]?=some u->W.cell? (a.add j)=some u:=by
 unfold World.cells? at h
 split at h
 ·refine ⟨by simpa using mapM_some_length h,fun j u hu=>?_⟩;have hj:j<cs.length:=(List.getElem?_eq_some_iff.1 hu).1;have hl:=mapM_some_length h;have hj':j<n:=by simp at hl;omega
  have:=mapM_some_get h j j (by simp[hj']);rw[this,hu]
 ·cases h
theorem Opens.slice{t e:TypeId}{sz:Nat}{R:List Value->α->Prop}{m:α->Nat}(ht:P.underlying t=some (.slice e))(hc:P.cellsOf t=1)(o:Opens enc P W e sz R m):Opens enc P W t 1 (RSl W sz R) (fun xs=>sumM m xs+1):=by
 refine ⟨hc,fun fuel cs x h=>?_⟩;rcases open_slice ht h with ⟨rfl,rfl⟩|⟨a,len,cap,m',n,D,Pl,rfl,_,hlc,hcm,hm',rfl,hall⟩
 ·exact ⟨[],⟨none,0,[],I,IsS.nil _ _ _ _,trivial⟩,by simp[sumM,Rows.uptoBulk],I⟩
 ·simp only[if_true] at hm';subst hm'
  have hall':∀ i,i<len->∃ (cs':List Value) (v:α),(∀ (j:Nat) u,cs'[j]?=some u->W.cell? ((a.add (i*sz)).add j)=some u)/\cs'.length=sz/\R cs' v/\m v<=Rows.uptoBulk (D i):=fun i hi=>by
   obtain ⟨cs',h1,h2⟩:=hall i qo;rw[o.1] at h1;obtain ⟨h3,h4⟩:=cells_of h1;obtain ⟨v,h5,h6,_⟩:=o.2 _ _ _ h2;exact ⟨cs',v,h4,h3,h5,h6⟩
  have build:∀ k,k<=len->∃ (css:List (List Value)) (xs:List α),css.length=k/\xs.length=k/\All2 R css xs/\css.flatten.length=k*sz/\(∀ (j:Nat) u,css.flatten[j]?=some u->W.cell? (a.add j)=some u)/\sumM m xs<=Rows.uptoBulkAll ((List.range k).map D):=by
   intro k
   induction k with
   | zero=>intro _;exact ⟨[],[],I,I,trivial,by simp,by simp,by simp[sumM]⟩
   | succ k ih=>
    intro hk;obtain ⟨css,xs,h1,h2,h3,h4,h5,h6⟩:=ih qo;obtain ⟨cs',v,g1,g2,g3,g4⟩:=hall' k qo;have hfl:(css++[cs']).flatten=css.flatten++cs':=by simp
    refine ⟨css++[cs'],xs++[v],by simp[h1],by simp[h2],h3.snoc g3,?_,?_,?_⟩
    ·rw[hfl,List.length_append,h4,g2,Nat.add_mul];omega
    ·intro j u hu;rw[hfl] at hu;rcases Nat.lt_or_ge j (k*sz) with hj|hj
     ·rw[List.getElem?_append_left qo] at hu;exact h5 j u hu
     ·rw[List.getElem?_append_right qo,h4] at hu;have:=g1 _ u hu;rw[add_add] at this
      rwa [show k*sz+(j-k*sz)=j from by omega] at this
    ·rw[sum_snoc m v (sumM m) rfl (fun _ _=>rfl),List.range_succ,List.map_append]
     have e:∀ l r:List (DataW H),Rows.uptoBulkAll (l++r)=Rows.uptoBulkAll l+Rows.uptoBulkAll r:=fun l r=>by
      induction l with
      | nil=>simp[Rows.uptoBulkAll]
      | cons x l ih=>simp only[List.cons_append,Rows.uptoBulkAll,ih];omega
     rw[e];simp only[List.map_cons,List.map_nil,Rows.uptoBulkAll];omega
  obtain ⟨css,xs,h1,h2,h3,h4,h5,h6⟩:=build len (Nat.le_refl _);refine ⟨xs,⟨some a,m',css,by rw[h2],⟨by rw[h4,h2],by omega,fun j u hu=>⟨a,I,cell_of (h5 j u hu)⟩⟩,h3⟩,?_,I⟩;simp only[Rows.uptoBulk];omega
def OpensF(enc:TypeId×Value->H)(P:Program)(W:World)(off:Nat)(fs:List Field)(sz:Nat)(R:List Value->α->Prop)(m:α->Nat):Prop:=
 ∀ (n:Nat) (cs:List Value) (xs:List (DataW H×List MemPlace)),cs.length=off+sz->xs.length=fs.length ->
  (∀ (i:Nat) (f:Field),fs[i]?=some f->DataW.trod enc P W 0 (fun _=>true) true n f.type ((cs.drop f.offset).take (P.cellsOf f.type))=xs[i]?)->∃ v,R (cs.drop off) v/\m v<=Rows.uptoBulkAll (xs.map (·.1))
def R0(cs:List Value)(_:Unit):Prop:=cs=[]
theorem OpensF.nil{off:Nat}:OpensF enc P W off [] 0 R0 (fun _=>0):=fun n cs xs h1 h2 h3=>⟨(),List.drop_of_length_le qo,Nat.zero_le _⟩
def RP(R1:List Value->α->Prop)(R2:List Value->β->Prop)(cs:List Value)(x:α×β):Prop:=∃ c1 c2,cs=c1++c2/\R1 c1 x.1/\R2 c2 x.2
theorem OpensF.cons{off sz1 sz2:Nat}{f:Field}{fs:List Field}{R1:List Value->α->Prop}{R2:List Value->β->Prop}{m1:α->Nat}{m2:β->Nat}(hf:f.offset=off)(o1:Opens enc P W f.type sz1 R1 m1)(o2:OpensF enc P W (off+sz1) fs sz2 R2 m2):
  OpensF enc P W off (f::fs) (sz1+sz2) (RP R1 R2) (fun x=>m1 x.1+m2 x.2):=by
 intro n cs xs h1 h2 h3;cases xs with
 | nil=>simp at h2
 | cons x xs=>
  have h4:=h3 0 f rfl;rw[hf,o1.1] at h4;obtain ⟨v,g1,g2,g3⟩:=o1.2 _ _ _ h4;obtain ⟨u,k1,k2⟩:=o2 n cs xs qo (by simpa using h2) (fun i f' hi=>h3 (i+1) f' (by simpa using hi));refine ⟨(v,u),⟨_,_,(List.take_append_drop sz1 (cs.drop off)).symm,g1,?_⟩,?_⟩
  ·rw[List.drop_drop];exact k1
  ·simp only[List.map_cons,Rows.uptoBulkAll];omega
theorem Opens.struct{t:TypeId}{sz:Nat}{fs:Array Field}{R:List Value->α->Prop}{m:α->Nat}(ht:P.underlying t=some (.struct fs))(hc:P.cellsOf t=sz)(o:OpensF enc P W 0 fs.toList sz R m):Opens enc P W t sz R (fun x=>m x+1):=by
 refine ⟨hc,fun fuel cs x h=>?_⟩;obtain ⟨xs,n,_,rfl,hl,hlen,hf⟩:=DataW.trod_struct ht h;obtain ⟨v,h1,h2⟩:=o n cs xs qo (by simpa using hlen) (fun i f hi=>hf i f (by simpa using hi));exact ⟨v,by simpa using h1,by simp only[Rows.uptoBulk];omega,by omega⟩
theorem Opens.arg{t:TypeId}{sz:Nat}{R:List Value->α->Prop}{m:α->Nat}(o:Opens enc P W t sz R m){v:Value}{d:DataW H}{ps:List MemPlace}(h:DataW.Trod enc P W 0 (fun _=>true) true t v d ps):∃ x,R v.cells.toList x/\m x<=Rows.uptoBulk d:=by
 obtain ⟨fuel,hf⟩:=h;obtain ⟨x,h1,h2,_⟩:=o.2 _ _ _ hf;exact ⟨x,h1,h2⟩
end opens
end
section
theorem number_back:∀ (b:List UInt8) (i acc:Nat),i<=9->(number i acc b).2.2=0->∃ (m:Nat) (r:List UInt8),b=uint m++r/\(number i acc b).1=acc+m*128 ^ i/\(number i acc b).2.1=i+(uint m).length/\(0<i->0<m)
 | [],i,acc,hi,h=>by simp[number] at h
 | c::r,i,acc,hi,h=>by
  have hc:=c.toNat_lt;rw[number_cons] at h ⊢
  by_cases h1:i=9/\1<c.toNat
  ·rw[if_pos h1] at h;simp at h
  ·rw[if_neg h1] at h ⊢
   by_cases h2:128<=c.toNat
   ·rw[if_pos h2] at h ⊢;obtain ⟨m,r',hb,hn,hk,hp⟩:=number_back r (i+1) (acc+c.toNat % 128*128 ^ i) qo h;have hm:=hp qo;refine ⟨c.toNat % 128+128*m,r',?_,?_,?_,fun _=>by omega⟩
    ·rw[uint_ge qo,show (c.toNat % 128+128*m) / 128=m from by omega,show (c.toNat % 128+128*m) % 128+128=c.toNat from by omega,hb]
     simp
    ·rw[hn,Nat.pow_succ,Nat.add_mul];have:m*(128 ^ i*128)=128*m*128 ^ i:=by rw[Nat.mul_comm (128 ^ i),<-Nat.mul_assoc,Nat.mul_comm m]
     omega
    ·rw[hk,uint_ge (n:=c.toNat % 128+128*m) qo,show (c.toNat % 128+128*m) / 128=m from by omega,List.length_cons];omega
   ·rw[if_neg h2] at h ⊢
    by_cases h3:c.toNat=0/\0<i
    ·rw[if_pos h3] at h;simp at h
    ·rw[if_neg h3] at h ⊢;refine ⟨c.toNat,r,?_,?_,?_,fun _=>by omega⟩
     ·rw[uint_lt qo];simp
     ·rw[Nat.mod_eq_of_lt qo]
     ·rw[uint_lt qo];simp
theorem rUint_ok{m:Nat}{b:List UInt8}(h:(rUint m (b,0)).2.2=0):b=uint (rUint m (b,0)).1++(rUint m (b,0)).2.1/\(rUint m (b,0)).1<=m:=by
 unfold rUint at h ⊢;simp only[if_true] at h ⊢
 by_cases h1:(number 0 0 b).2.2=0
 ·rw[if_pos h1] at h ⊢
  by_cases h2:m<(number 0 0 b).1
  ·rw[if_pos h2] at h;simp at h
  ·rw[if_neg h2];obtain ⟨k,r,hb,hn,hk,_⟩:=number_back b 0 0 qo h1;simp only[Nat.pow_zero,Nat.mul_one,Nat.zero_add] at hn hk;refine ⟨?_,by dsimp only;omega⟩;dsimp only;rw[hn,hk]
   conv=>lhs;rw[hb]
   rw[hb,List.drop_left]
 ·rw[if_neg h1] at h;exact absurd h h1
theorem number_uint:∀ (k m i acc:Nat) (r:List UInt8),m<128 ^ k->i<=9->(0<i->0<m)->acc+m*128 ^ i<18446744073709551616->number i acc (uint m++r)=(acc+m*128 ^ i,i+(uint m).length,0)
 | 0,m,i,acc,r,hk,hi,hp,hb=>by
  have:m=0:=by simpa using hk
  subst this;rw[uint_lt qo];have:¬0<i:=fun h=>by have:=hp h;omega
  obtain rfl:i=0:=by omega
  simp[number_cons]
 | k+1,m,i,acc,r,hk,hi,hp,hb=>by
  have h9:i=9->m<=1:=fun h=>by subst h;have:=pow9;rw[this] at hb;omega
  by_cases hm:m<128
  ·rw[uint_lt hm];have e:(UInt8.ofNat m).toNat=m:=UInt8.toNat_ofNat_of_lt' (Nat.lt_of_lt_of_le (m:=256) qo (by decide));simp only[List.singleton_append,number_cons,e,List.length_singleton];rw[if_neg qo,if_neg qo,if_neg qo,Nat.mod_eq_of_lt hm]
  ·rw[uint_ge hm];have e:(UInt8.ofNat (m % 128+128)).toNat=m % 128+128:=UInt8.toNat_ofNat_of_lt' (Nat.lt_of_lt_of_le (m:=256) qo (by decide));simp only[List.cons_append,number_cons,e,List.length_cons]
   have hi9:i<9:=by
    rcases Nat.lt_or_ge i 9 with h|h
    ·exact h
    ·have:=h9 qo;omega
   rw[if_neg qo,if_pos qo,show (m % 128+128) % 128=m % 128 from by omega];have hdiv:m=m % 128+128*(m / 128):=by omega
   have hsum:acc+m % 128*128 ^ i+m / 128*128 ^ (i+1)=acc+m*128 ^ i:=by
    conv=>rhs;rw[hdiv,Nat.add_mul]
    rw[Nat.pow_succ];have:m / 128*(128 ^ i*128)=128*(m / 128)*128 ^ i:=by rw[Nat.mul_comm (128 ^ i),<-Nat.mul_assoc,Nat.mul_comm (m / 128)]
    omega
   rw[number_uint k (m / 128) (i+1) (acc+m % 128*128 ^ i) r (by rw[Nat.div_lt_iff_lt_mul qo];rw[Nat.pow_succ] at hk;omega) qo (fun _=>by omega) (by rw[hsum];exact hb),hsum];simp only[Prod.mk.injEq,true_and,and_true];omega
theorem rUint_uint{m n:Nat}(r:List UInt8)(hn:n<18446744073709551616)(hm:n<=m):rUint m (uint n++r,0)=(n,(r,0)):=by
 have h:=number_uint 10 n 0 0 r (by rw[show (128:Nat) ^ 10=1180591620717411303424 from by decide];omega) qo (fun h=>by omega) qo;simp only[Nat.pow_zero,Nat.mul_one,Nat.zero_add] at h;unfold rUint;simp only[if_true,h];rw[if_neg qo,List.drop_left]
theorem rBytes_put{most:Int}{x:List UInt8}(r:List UInt8)(hx:x.length<18446744073709551616)(hm:(x.length:Int)<=most):rBytes most (putBytes x++r,0)=(x,(r,0)):=by
 have h:=rUint_uint (m:=most.toNat) (n:=x.length) (x++r) hx qo;unfold rBytes putBytes;rw[List.append_assoc];simp only[h,if_true];rw[if_neg (by simp),List.take_left,List.drop_left]
def un4:List UInt8->Nat
 | []=>0
 | c::r=>c.toNat+256*un4 r
theorem rBytes_bd(m:Int)(b:List UInt8)(e:Int):(rBytes m (b,e)).1.length<=b.length/\(rBytes m (b,e)).2.1.length<=b.length:=by
 have h:=(rUint_bd m.toNat b e).2;unfold rBytes;dsimp only
 split
 ·split
  ·exact ⟨Nat.zero_le _,Nat.le_refl _⟩
  ·refine ⟨?_,?_⟩ <;> simp <;> omega
 ·exact ⟨Nat.zero_le _,h⟩
theorem un4_lt:∀ (l:List UInt8) (k:Nat),l.length<=k->un4 l<256 ^ k
 | [],k,_=>by simp only[un4];exact Nat.pow_pos (by decide)
 | c::l,0,h=>by simp at h
 | c::l,k+1,h=>by
  have:=un4_lt l k (by simpa using h);have hc:=c.toNat_lt;rw[un4,Nat.pow_succ];omega
end
section
theorem rByte_fin{b:List UInt8}{e:Int}(h:(rByte (b,e)).2.2=0):e=0/\∃ c:UInt8,b=c::(rByte (b,e)).2.1/\(rByte (b,e)).1=c.toNat:=by
 unfold rByte at h ⊢
 by_cases he:e=0
 ·simp only[he,if_true] at h ⊢;cases b with
  | nil=>simp at h
  | cons c r=>exact ⟨trivial,c,rfl,rfl⟩
 ·simp only[he,if_false] at h
theorem rUint_fin{m:Nat}{b:List UInt8}{e:Int}(h:(rUint m (b,e)).2.2=0):e=0/\b=uint (rUint m (b,e)).1++(rUint m (b,e)).2.1/\(rUint m (b,e)).1<=m:=by
 by_cases he:e=0
 ·subst he;exact ⟨I,rUint_ok h⟩
 ·have:rUint m (b,e)=(0,(b,e)):=if_neg he;rw[this] at h;exact absurd h he
theorem rBytes_fin{m:Int}{b:List UInt8}{e:Int}(h:(rBytes m (b,e)).2.2=0):e=0/\b=putBytes (rBytes m (b,e)).1++(rBytes m (b,e)).2.1/\(rBytes m (b,e)).1.length<=m.toNat:=by
 unfold rBytes at h ⊢;dsimp only at h ⊢
 by_cases h1:(rUint m.toNat (b,e)).2.2=0
 ·obtain ⟨he,hb,hm⟩:=rUint_fin h1;rw[if_pos h1] at h ⊢
  by_cases h2:(rUint m.toNat (b,e)).2.1.length<(rUint m.toNat (b,e)).1
  ·rw[if_pos h2] at h;simp at h
  ·rw[if_neg h2];have hl:((rUint m.toNat (b,e)).2.1.take (rUint m.toNat (b,e)).1).length=(rUint m.toNat (b,e)).1:=by simp;omega
   refine ⟨he,?_,by dsimp only;omega⟩;unfold putBytes;dsimp only;rw[hl,List.append_assoc,List.take_append_drop];exact hb
 ·rw[if_neg h1] at h;exact absurd h h1
theorem rByte_cons(c:UInt8)(r:List UInt8):rByte (c::r,0)=(c.toNat,(r,0)):=rfl
theorem rEnd_fin{b:List UInt8}{e:Int}:rEnd (b,e)=0↔e=0/\b=[]:=by
 show (if e=0/\0<b.length then (23:Int) else e)=0↔_
 by_cases h:e=0/\0<b.length
 ·rw[if_pos h]
  constructor
  ·intro h';simp at h'
  ·rintro ⟨_,rfl⟩;simp at h
 ·rw[if_neg h]
  constructor
  ·intro he;exact ⟨he,List.length_eq_zero_iff.1 (by have:¬0<b.length:=fun h'=>h ⟨he,h'⟩;omega)⟩
  ·exact fun h=>h.1
structure Cmd where
 kind:Int
 ses:Nat
 seq:Nat
 word:List UInt8
 wt:Int
 deriving DecidableEq
def Cmd.ok(c:Cmd):Prop:=(c.kind=1/\c.ses=0/\c.seq=0/\c.word=[]/\c.wt=0)\/((c.kind=2\/c.kind=3)/\c.word.length<=96/\0<=c.wt/\c.wt<=1073741824/\(c.kind=3->c.wt=0))
instance (c:Cmd):Decidable c.ok:=by unfold Cmd.ok;infer_instance
def Cmd.bytes(c:Cmd):List UInt8:=
 if c.kind=1 then [1] else if c.kind=2 then 2::(uint c.ses++(uint c.seq++(putBytes c.word++uint c.wt.toNat))) else 3::(uint c.ses++(uint c.seq++putBytes c.word))
def putCmd(c:Cmd):Option (List UInt8):=if c.ok then some c.bytes else none
def mxU:Nat:=18446744073709551615
def getCmdR(b:List UInt8):Cmd×Rd:=
 let x:=rByte (b,0)
 if x.1=1 then (⟨1,0,0,[],0⟩,x.2)
 else if x.1=2\/x.1=3 then
  let s:=rUint mxU x.2
  let q:=rUint mxU s.2
  let w:=rBytes 96 q.2
  if x.1=2 then (let t:=rUint 1073741824 w.2;(⟨2,s.1,q.1,w.1,t.1⟩,t.2)) else (⟨3,s.1,q.1,w.1,0⟩,w.2)
 else (⟨x.1,0,0,[],0⟩,(x.2.1,if x.2.2=0 then 170 else x.2.2))
def getCmd(b:List UInt8):Option Cmd:=if rEnd (getCmdR b).2=0 then some (getCmdR b).1 else none
theorem get_put{c:Cmd}{b:List UInt8}(h1:c.ses<=mxU)(h2:c.seq<=mxU)(h:putCmd c=some b):getCmd b=some c:=by
 unfold putCmd at h
 by_cases hok:c.ok
 ·rw[if_pos hok] at h;simp only[Option.some.injEq] at h;subst h;obtain ⟨kind,ses,seq,word,wt⟩:=c;dsimp only at h1 h2;have hmx:mxU=18446744073709551615:=rfl;rcases hok with ⟨rfl,rfl,rfl,rfl,rfl⟩|⟨rfl|rfl,hw,h0,hm,h3⟩
  ·rfl
  ·dsimp only at hw h0 hm h3;obtain ⟨t,rfl⟩:=Int.eq_ofNat_of_zero_le h0;have e:(Cmd.mk 2 ses seq word t).bytes=2::(uint ses++(uint seq++(putBytes word++(uint t++[])))):=by simp[Cmd.bytes]
   rw[e];unfold getCmd getCmdR;rw[rByte_cons]
   simp only[show (2:UInt8).toNat=2 from rfl,rUint_uint (m:=mxU) _ (show ses<18446744073709551616 by omega) h1,rUint_uint (m:=mxU) _ (show seq<18446744073709551616 by omega) h2,rBytes_put (most:=96) _ (show word.length<18446744073709551616 by omega) qo,
    rUint_uint (m:=1073741824) (n:=t) [] qo qo]
   simp[rEnd]
  ·dsimp only at hw h0 hm h3;obtain rfl:=h3 rfl;have e:(Cmd.mk 3 ses seq word 0).bytes=3::(uint ses++(uint seq++(putBytes word++[]))):=by simp[Cmd.bytes]
   rw[e];unfold getCmd getCmdR;rw[rByte_cons];simp only[show (3:UInt8).toNat=3 from rfl,rUint_uint (m:=mxU) _ (show ses<18446744073709551616 by omega) h1,rUint_uint (m:=mxU) _ (show seq<18446744073709551616 by omega) h2,rBytes_put (most:=96) [] (show word.length<18446744073709551616 by omega) qo];simp[rEnd]
 ·rw[if_neg hok] at h;cases h
theorem put_get{c:Cmd}{b:List UInt8}(h:getCmd b=some c):putCmd c=some b/\c.ses<=mxU/\c.seq<=mxU:=by
 unfold getCmd at h
 split at h
 ·rename_i hend;simp only[Option.some.injEq] at h;unfold getCmdR at h hend;dsimp only at h hend
  split at h
  ·rename_i h1;rw[if_pos h1] at hend;subst h;obtain ⟨e1,e2⟩:=rEnd_fin.1 hend;obtain ⟨_,c,hb,hc⟩:=rByte_fin e1;rw[e2] at hb;rw[h1] at hc;have:c=1:=UInt8.toNat_inj.1 (by rw[<-hc];rfl);subst this;subst hb;exact ⟨I,Nat.zero_le _,Nat.zero_le _⟩
  ·rename_i h1;rw[if_neg h1] at hend
   split at h
   ·rename_i h2;rw[if_pos h2] at hend
    split at h
    ·rename_i h3;rw[if_pos h3] at hend;subst h;obtain ⟨e1,e2⟩:=rEnd_fin.1 hend;obtain ⟨f1,hb1,hm1⟩:=rUint_fin e1;obtain ⟨f2,hb2,hm2⟩:=rBytes_fin f1;obtain ⟨f3,hb3,hm3⟩:=rUint_fin f2;obtain ⟨f4,hb4,hm4⟩:=rUint_fin f3;obtain ⟨_,c,hb,hc⟩:=rByte_fin f4;have:c=2:=UInt8.toNat_inj.1 (by rw[<-hc,h3];rfl);subst this;refine ⟨?_,hm4,hm3⟩;have hw:(rBytes 96 (rUint mxU (rUint mxU (rByte (b,0)).2).2).2).1.length<=96:=hm2;have ht:(rUint 1073741824 (rBytes 96 (rUint mxU (rUint mxU (rByte (b,0)).2).2).2).2).1<=1073741824:=hm1;unfold putCmd;rw[if_pos (.inr ⟨.inl rfl,hw,by dsimp only;omega,by dsimp only;omega,fun h=>by cases h⟩)];simp only[Option.some.injEq];rw[e2,List.append_nil] at hb1;have e:∀ (s q:Nat) (w:List UInt8) (t:Nat),(Cmd.mk 2 s q w t).bytes=2::(uint s++(uint q++(putBytes w++uint t))):=fun s q w t=>by simp[Cmd.bytes]
     rw[e,<-hb1,<-hb2,<-hb3,<-hb4,<-hb]
    ·rename_i h3;rw[if_neg h3] at hend;subst h;obtain ⟨e1,e2⟩:=rEnd_fin.1 hend;obtain ⟨f2,hb2,hm2⟩:=rBytes_fin e1;obtain ⟨f3,hb3,hm3⟩:=rUint_fin f2;obtain ⟨f4,hb4,hm4⟩:=rUint_fin f3;obtain ⟨_,c,hb,hc⟩:=rByte_fin f4;have h2':=h2.resolve_left h3;have:c=3:=UInt8.toNat_inj.1 (by rw[<-hc];exact h2');subst this;refine ⟨?_,hm4,hm3⟩;have hw:(rBytes 96 (rUint mxU (rUint mxU (rByte (b,0)).2).2).2).1.length<=96:=hm2;unfold putCmd;rw[if_pos (.inr ⟨.inr rfl,hw,Int.le_refl _,by dsimp only;omega,fun _=>rfl⟩)];simp only[Option.some.injEq];rw[e2,List.append_nil] at hb2;have e:∀ (s q:Nat) (w:List UInt8),(Cmd.mk 3 s q w 0).bytes=3::(uint s++(uint q++putBytes w)):=fun s q w=>by simp[Cmd.bytes]
     rw[e,<-hb2,<-hb3,<-hb4,<-hb]
   ·rename_i h2;rw[if_neg h2] at hend;obtain ⟨e1,e2⟩:=rEnd_fin.1 hend
    split at e1
    ·cases e1
    ·rename_i h5;exact absurd e1 h5
 ·cases h
def refCmdR(b:List UInt8):Cmd×Rd:=
 let x:=rByte (b,0)
 if x.1=1 then (⟨1,0,0,[],0⟩,x.2)
 else
  let s:=rUint mxU x.2
  let q:=rUint mxU s.2
  let w:=rBytes 96 q.2
  if x.1=2 then (let t:=rUint 1073741824 w.2;(⟨2,s.1,q.1,w.1,t.1⟩,t.2)) else (⟨x.1,s.1,q.1,w.1,0⟩,w.2)
theorem rUint_le(m:Nat)(s:Rd):(rUint m s).1<=m:=by
 obtain ⟨b,e⟩:=s;unfold rUint;dsimp only
 split
 ·split
  ·split
   ·exact Nat.zero_le _
   ·rename_i h;exact Nat.le_of_not_lt h
  ·exact Nat.zero_le _
 ·exact Nat.zero_le _
theorem refCmd_bd(b:List UInt8):(refCmdR b).1.ses<=mxU/\(refCmdR b).1.seq<=mxU:=by
 unfold refCmdR;dsimp only
 split
 ·exact ⟨Nat.zero_le _,Nat.zero_le _⟩
 ·split
  ·exact ⟨rUint_le _ _,rUint_le _ _⟩
  ·exact ⟨rUint_le _ _,rUint_le _ _⟩
theorem ref_getCmd(b:List UInt8):getCmd b=if rEnd (refCmdR b).2=0/\putCmd (refCmdR b).1=some b then some (refCmdR b).1 else none:=by
 by_cases h:rEnd (refCmdR b).2=0/\putCmd (refCmdR b).1=some b
 ·rw[if_pos h];exact get_put (refCmd_bd b).1 (refCmd_bd b).2 h.2
 ·rw[if_neg h];cases hg:getCmd b with
  | none=>rfl
  | some c=>
   refine (h ?_).elim;obtain ⟨h1,_,_⟩:=put_get hg;unfold getCmd at hg
   split at hg
   ·rename_i hend;simp only[Option.some.injEq] at hg
    have hk:c.kind=1\/c.kind=2\/c.kind=3:=by
     unfold putCmd at h1
     split at h1
     ·rename_i hok;rcases hok with ⟨hk,_⟩|⟨hk,_⟩
      ·exact .inl hk
      ·exact .inr hk
     ·cases h1
    have e:refCmdR b=getCmdR b:=by
     have hk':((rByte (b,0)).1:Int)=c.kind:=by
      rw[<-hg];unfold getCmdR;dsimp only
      split
      ·rename_i h;rw[h];rfl
      ·split
       ·split
        ·rename_i h;rw[h];rfl
        ·rename_i h2 h3;rw[h2.resolve_left h3];rfl
       ·rfl
     unfold refCmdR getCmdR;dsimp only
     by_cases e1:(rByte (b,0)).1=1
     ·rw[if_pos e1,if_pos e1]
     ·rw[if_neg e1,if_neg e1]
      by_cases e2:(rByte (b,0)).1=2
      ·rw[if_pos e2,if_pos (.inl e2),if_pos e2]
      ·have e3:(rByte (b,0)).1=3:=by omega
       rw[if_neg e2,if_pos (.inr e3),if_neg e2,e3]
       rfl
    rw[e,hg];exact ⟨hend,h1⟩
   ·cases hg
def ec{α:Type}:Option α->Int
 | some _=>0
 | none=>170
def ob(o:Option (List UInt8)):List UInt8:=o.getD []
def Cmd.zero:Cmd:=⟨0,0,0,[],0⟩
def Cmd.v(c:Cmd):Array Value:=#[.int .i64 c.kind,.int .u64 (c.ses:Nat),.int .u64 (c.seq:Nat),.string ⟨c.word.toArray⟩,.int .i64 c.wt]
theorem ec_zero{α:Type}{o:Option α}:ec o=0↔o.isSome=true:=by cases o <;> simp[ec]
theorem Cmd.bytes_length(c:Cmd)(h1:c.ses<=mxU)(h2:c.seq<=mxU)(h3:c.word.length<=96)(h4:c.wt<=1073741824):c.bytes.length<=200:=by
 have hmx:mxU=18446744073709551615:=rfl;have e1:=uint_le10 (n:=c.ses) qo;have e2:=uint_le10 (n:=c.seq) qo;have e3:=uint_le10 (n:=c.word.length) qo;have e4:=uint_le10 (n:=c.wt.toNat) qo;unfold Cmd.bytes
 split
 ·simp
 ·split
  ·simp only[List.length_cons,List.length_append,putBytes];omega
  ·simp only[List.length_cons,List.length_append,putBytes];omega
def confOK(last:Int):List Int->Prop
 | []=>True
 | v::r=>last<v/\v<7/\confOK v r
instance:∀ (last:Int) (l:List Int),Decidable (confOK last l)
 | _,[]=>.isTrue trivial
 | last,v::r=>by
  have:=instDecidableConfOK v r;unfold confOK
  infer_instance
def vbits:List Int->Nat
 | []=>0
 | v::r=>2 ^ v.toNat+vbits r
def putConf(l:List Int):Option (List UInt8):=if l≠[]/\confOK (-1) l then some [UInt8.ofNat (vbits l)] else none
def voters(n:Nat)(k:Nat):List Int:=((List.range k).filter (fun v=>decide (n / 2 ^ v % 2=1))).map Int.ofNat
def getConf:List UInt8->Option (List Int)
 | [c]=>if c.toNat=0\/128<=c.toNat then none else some (voters c.toNat 7)
 | _=>none
theorem voters_succ(n k:Nat):voters n (k+1)=voters n k++if n / 2 ^ k % 2=1 then [(k:Int)] else []:=by
 unfold voters;rw[List.range_succ,List.filter_append,List.map_append]
 congr 1
 by_cases h:n / 2 ^ k % 2=1 <;> simp[h]
theorem voters_len(n:Nat):∀ k,(voters n k).length<=k
 | 0=>by simp[voters]
 | k+1=>by
  rw[voters_succ,List.length_append];have:=voters_len n k
  split <;> simp <;> omega
theorem confOK_len:∀ (l:List Int) (last:Int),confOK last l -> -1<=last->last<=6->(l.length:Int)<=6-last
 | [],_,_,_,_=>by simp;omega
 | v::r,last,h,h1,h2=>by
  obtain ⟨h3,h4,h5⟩:=h;have:=confOK_len r v h5 qo qo;simp only[List.length_cons];omega
theorem confOK_mem:∀ (l:List Int) (last:Int),confOK last l -> -1<=last->∀ v∈l,0<=v/\v<7
 | [],_,_,_=>by simp
 | v::r,last,h,h1=>by
  obtain ⟨h3,h4,h5⟩:=h;intro u hu;simp only[List.mem_cons] at hu;rcases hu with rfl|hu
  ·omega
  ·exact confOK_mem r v h5 qo u hu
def subs:Nat->List (List Int)
 | 0=>[[]]
 | m+1=>subs m++(subs m).map (fun l=>(6-(m:Int))::l)
theorem subs_mem:∀ (m:Nat) (l:List Int) (last:Int),confOK last l->6-(m:Int)<=last->l∈subs m
 | 0,[],_,_,_=>by simp[subs]
 | 0,v::r,last,h,hm=>by obtain ⟨h1,h2,_⟩:=h;simp only[Int.natCast_zero] at hm;omega
 | m+1,[],last,h,hm=>by
  have:[]∈subs m:=subs_mem m [] 6 trivial qo;simp[subs,this]
 | m+1,v::r,last,h,hm=>by
  obtain ⟨h1,h2,h3⟩:=h
  by_cases hv:v=6-(m:Int)
  ·have:=subs_mem m r v h3 qo;simp only[subs,List.mem_append,List.mem_map];exact .inr ⟨r,this,by rw[hv]⟩
  ·have:=subs_mem m (v::r) (v-1) ⟨by omega,h2,h3⟩ qo;simp only[subs,List.mem_append];exact .inl this
theorem subs_bits:∀ l∈subs 7,vbits l<128/\voters (vbits l) 7=l/\(l≠[]->0<vbits l):=by decide +kernel
theorem conf_bits{l:List Int}(h:confOK (-1) l):vbits l<128/\voters (vbits l) 7=l/\(l≠[]->0<vbits l):=subs_bits l (subs_mem 7 l (-1) h (by decide))
theorem getConf_put{l:List Int}{b:List UInt8}(h:putConf l=some b):getConf b=some l:=by
 unfold putConf at h
 split at h
 ·rename_i hl;simp only[Option.some.injEq] at h;subst h;obtain ⟨h1,h2,h3⟩:=conf_bits hl.2;have h4:=h3 hl.1;have e:(UInt8.ofNat (vbits l)).toNat=vbits l:=UInt8.toNat_ofNat_of_lt' (show vbits l<256 by omega);show (if (UInt8.ofNat (vbits l)).toNat=0\/128<=(UInt8.ofNat (vbits l)).toNat then none else some (voters (UInt8.ofNat (vbits l)).toNat 7))=some l;rw[e,if_neg qo,h2]
 ·cases h
theorem or_add(x v:Nat)(hv:v<7)(hx:x<2 ^ v):Value.int .u8 (IntKind.u8.wrap (BitVec.ofInt 8 ((x:Nat):Int) ||| BitVec.ofInt 8 ((2 ^ v:Nat):Int)).toNat)=.int .u8 (x+2 ^ v:Nat):=by
 have hp:2 ^ v<=2 ^ 6:=Nat.pow_le_pow_right qo qo
 have e:(BitVec.ofInt 8 ((x:Nat):Int) ||| BitVec.ofInt 8 ((2 ^ v:Nat):Int)).toNat=x+2 ^ v:=by
  rw[BitVec.toNat_or,BitVec.ofInt_natCast,BitVec.ofInt_natCast,BitVec.toNat_ofNat,BitVec.toNat_ofNat,Nat.mod_eq_of_lt qo,Nat.mod_eq_of_lt qo,Nat.or_comm];have:=Nat.two_pow_add_eq_or_of_lt hx 1;rw[Nat.mul_one] at this;rw[<-this];omega
 rw[e,u8m,Nat.mod_eq_of_lt qo]
theorem shl1(v:Nat)(hv:v<7):Value.int .u8 (IntKind.u8.wrap (1*2 ^ (min ((v:Nat):Int).toNat IntKind.u8.bits)))=.int .u8 (2 ^ v:Nat):=by
 obtain rfl|rfl|rfl|rfl|rfl|rfl|rfl:v=0\/v=1\/v=2\/v=3\/v=4\/v=5\/v=6:=by omega
 all_goals rfl
theorem shrN(x v:Nat)(hv:v<7):Value.int .u8 (((x:Nat):Int).fdiv (2 ^ (min ((v:Nat):Int).toNat IntKind.u8.bits)))=.int .u8 (x / 2 ^ v:Nat):=by
 have:min ((v:Nat):Int).toNat IntKind.u8.bits=v:=by
  have:IntKind.u8.bits=8:=rfl;omega
 rw[this,Int.fdiv_eq_ediv_of_nonneg _ (Int.le_of_lt (Int.pow_pos (by decide)))]
 congr 1
theorem bv_and1:∀ m:BitVec 8,(m &&& 1#8)=BitVec.ofNat 8 (m.toNat % 2):=by decide
theorem and1N(x:Nat)(hx:x<256):Value.int .u8 (IntKind.u8.wrap (BitVec.ofInt 8 ((x:Nat):Int) &&& BitVec.ofInt 8 1).toNat)=.int .u8 (x % 2:Nat):=by
 have h:=bv_and1 (BitVec.ofInt 8 ((x:Nat):Int));have h2:(BitVec.ofInt 8 ((x:Nat):Int)).toNat=x:=by simp;omega
 rw[show BitVec.ofInt 8 1=1#8 from by decide,h,h2,u8m]
 simp
 omega
theorem confOK_split:∀ (l r:List Int) (last:Int),confOK last (l++r)↔confOK last l/\confOK (l.getLastD last) r
 | [],r,last=>by simp[confOK]
 | v::l,r,last=>by
  show (last<v/\v<7/\confOK v (l++r))↔(last<v/\v<7/\confOK v l)/\confOK ((v::l).getLastD last) r;rw[confOK_split l r v];have:(v::l).getLastD last=l.getLastD v:=by cases l <;> simp[List.getLastD]
  rw[this,and_assoc,and_assoc]
theorem bits_append:∀ l r:List Int,vbits (l++r)=vbits l+vbits r
 | [],r=>by simp[vbits]
 | v::l,r=>by simp[vbits,bits_append l r];omega
theorem bits_lt:∀ (l:List Int) (last:Int),confOK last l -> -1<=last->vbits l+2 ^ (last+1).toNat<=2 ^ (l.getLastD last+1).toNat
 | [],last,_,_=>by simp[vbits]
 | v::l,last,h,h1=>by
  obtain ⟨h2,h3,h4⟩:=h;have:=bits_lt l v h4 qo;have e:(v::l).getLastD last=l.getLastD v:=by cases l <;> simp[List.getLastD]
  rw[e];have h5:2 ^ (last+1).toNat<=2 ^ v.toNat:=Nat.pow_le_pow_right (by decide) qo
  have h6:2 ^ (v+1).toNat=2*2 ^ v.toNat:=by
   rw[show (v+1).toNat=v.toNat+1 from by omega,Nat.pow_succ];omega
  simp only[vbits];omega
def iv(l:List Int):List Value:=l.map fun n=>Value.int .i64 n
theorem iv_get{l:List Int}{j:Nat}(h:j<l.length):(iv l)[j]?=some (.int .i64 l[j]):=by simp[iv,h]
theorem iv_getD{l:List Int}{j:Nat}(h:j<l.length):(iv l)[j]?=some (.int .i64 (l.getD j 0)):=by simp[iv,h,List.getD]
theorem iv_append(l r:List Int):iv (l++r)=iv l++iv r:=by simp[iv]
theorem iv_one(l:List Int):∀ u∈iv l,u.oneCell'=true:=by
 intro u hu;obtain ⟨b,_,rfl⟩:=List.mem_map.1 hu
 rfl
theorem last_take_succ(l:List Int)(i:Nat)(h:i<l.length)(d:Int):(l.take (i+1)).getLastD d=l[i]:=by
 rw[take_succ_get l i h,List.getLastD_eq_getLast?,List.getLast?_append];rfl
structure Ent where
 idx:Nat
 term:Nat
 kind:Int
 data:List UInt8
 deriving DecidableEq
def heldP(kind:Int)(data:List UInt8):Prop:=(kind=0/\data=[])\/(kind=1/\(getCmd data).isSome=true)\/(kind=2/\(getConf data).isSome=true)
instance (k:Int) (d:List UInt8):Decidable (heldP k d):=by unfold heldP;infer_instance
def Ent.ok(e:Ent):Prop:=e.idx≠0/\e.term≠0/\heldP e.kind e.data
instance (e:Ent):Decidable e.ok:=by unfold Ent.ok;infer_instance
def Ent.bytes(e:Ent):List UInt8:=uint e.idx++(uint e.term++(UInt8.ofNat e.kind.toNat::putBytes e.data))
def putEnt(e:Ent):Option (List UInt8):=if e.ok then some e.bytes else none
def getEntR(b:List UInt8):Ent×Rd:=
 let i:=rUint mxU (b,0)
 let t:=rUint mxU i.2
 let k:=rByte t.2
 let d:=rBytes 512 k.2
 (⟨i.1,t.1,(k.1:Nat),d.1⟩,d.2)
def getEnt(b:List UInt8):Option Ent:=if rEnd (getEntR b).2=0/\(getEntR b).1.ok then some (getEntR b).1 else none
theorem getCmd_len{b:List UInt8}{c:Cmd}(h:getCmd b=some c):b.length<=200:=by
 obtain ⟨h1,h2,h3⟩:=put_get h;unfold putCmd at h1
 split at h1
 ·rename_i hok;simp only[Option.some.injEq] at h1;rw[<-h1];rcases hok with ⟨h,_,_,hw,_⟩|⟨_,hw,h0,hm,_⟩
  ·rw[Cmd.bytes,if_pos h];simp
  ·exact Cmd.bytes_length c h2 h3 hw hm
 ·cases h1
theorem held_len{k:Int}{d:List UInt8}(h:heldP k d):d.length<=200:=by
 rcases h with ⟨_,rfl⟩|⟨_,h⟩|⟨_,h⟩
 ·simp
 ·obtain ⟨c,hc⟩:=Option.isSome_iff_exists.1 h;exact getCmd_len hc
 ·obtain ⟨c,hc⟩:=Option.isSome_iff_exists.1 h;unfold getConf at hc
  split at hc
  ·simp
  ·cases hc
theorem held_kind{k:Int}{d:List UInt8}(h:heldP k d):k=0\/k=1\/k=2:=by
 rcases h with ⟨h,_⟩|⟨h,_⟩|⟨h,_⟩
 ·exact .inl h
 ·exact .inr (.inl h)
 ·exact .inr (.inr h)
theorem Ent.bytes_length(e:Ent)(h:e.ok)(h1:e.idx<=mxU)(h2:e.term<=mxU):e.bytes.length<=250:=by
 have hmx:mxU=18446744073709551615:=rfl;have e1:=uint_le10 (n:=e.idx) qo;have e2:=uint_le10 (n:=e.term) qo;have e3:=held_len h.2.2;have e4:=uint_le10 (n:=e.data.length) qo;simp only[Ent.bytes,List.length_append,List.length_cons,putBytes];omega
theorem getEntR_bytes(e:Ent)(rest:List UInt8)(h:e.ok)(h1:e.idx<=mxU)(h2:e.term<=mxU):getEntR (e.bytes++rest)=(e,(rest,0)):=by
 have hmx:mxU=18446744073709551615:=rfl;have e3:=held_len h.2.2;obtain ⟨k,hk⟩:∃ k:Nat,e.kind=(k:Nat):=Int.eq_ofNat_of_zero_le (by have:=held_kind h.2.2;omega);have hk3:k<256:=by have:=held_kind h.2.2;omega
 have hb:e.bytes++rest=uint e.idx++(uint e.term++(UInt8.ofNat k::(putBytes e.data++rest))):=by simp[Ent.bytes,hk]
 unfold getEntR;rw[hb];simp only[rUint_uint (m:=mxU) _ (show e.idx<18446744073709551616 by omega) h1,rUint_uint (m:=mxU) _ (show e.term<18446744073709551616 by omega) h2,rByte_cons,rBytes_put (most:=512) _ (show e.data.length<18446744073709551616 by omega) qo];have:(UInt8.ofNat k).toNat=k:=UInt8.toNat_ofNat_of_lt' (by simpa using hk3);rw[this,<-hk]
theorem getEnt_put{e:Ent}{b:List UInt8}(h1:e.idx<=mxU)(h2:e.term<=mxU)(h:putEnt e=some b):getEnt b=some e:=by
 unfold putEnt at h
 split at h
 ·rename_i hok;simp only[Option.some.injEq] at h;have:=getEntR_bytes e [] hok h1 h2;rw[List.append_nil,h] at this;unfold getEnt;rw[this,if_pos ⟨rfl,hok⟩]
 ·cases h
theorem getEntR_bd(b:List UInt8):(getEntR b).1.idx<=mxU/\(getEntR b).1.term<=mxU:=⟨rUint_le _ _,rUint_le _ _⟩
theorem putEnt_get{e:Ent}{b:List UInt8}(h:getEnt b=some e):putEnt e=some b/\e.idx<=mxU/\e.term<=mxU:=by
 unfold getEnt at h
 split at h
 ·rename_i hc;obtain ⟨hend,hok⟩:=hc;simp only[Option.some.injEq] at h;have hbd:=getEntR_bd b;rw[h] at hok hbd;refine ⟨?_,hbd⟩;obtain ⟨e1,e2⟩:=rEnd_fin.1 hend;unfold getEntR at h;have e1:(rBytes 512 (rByte (rUint mxU (rUint mxU (b,0)).2).2).2).2.2=0:=e1;have e2:(rBytes 512 (rByte (rUint mxU (rUint mxU (b,0)).2).2).2).2.1=[]:=e2;dsimp only at h;obtain ⟨f1,hb1,_⟩:=rBytes_fin e1;obtain ⟨f2,c,hb2,hc2⟩:=rByte_fin f1;obtain ⟨f3,hb3,_⟩:=rUint_fin f2;obtain ⟨f4,hb4,_⟩:=rUint_fin f3;unfold putEnt;rw[if_pos hok];simp only[Option.some.injEq];rw[e2,List.append_nil] at hb1;subst h;unfold Ent.bytes;dsimp only;rw[<-hb1,Int.toNat_natCast]
  have hcc:UInt8.ofNat (rByte (rUint mxU (rUint mxU (b,0)).2).2).1=c:=by
   have:(rByte (rUint mxU (rUint mxU (b,0)).2).2).1=c.toNat:=hc2;rw[this];exact UInt8.ofNat_toNat
  rw[hcc];have g2:(rUint mxU (rUint mxU (b,0)).2).2.1=c::(rByte (rUint mxU (rUint mxU (b,0)).2).2).2.1:=hb2;rw[<-g2];have g3:(rUint mxU (b,0)).2.1=uint (rUint mxU (rUint mxU (b,0)).2).1++(rUint mxU (rUint mxU (b,0)).2).2.1:=hb3;rw[<-g3];exact hb4.symm
 ·cases h
def Ent.zero:Ent:=⟨0,0,0,[]⟩
def Ent.v(e:Ent)(ao:Option Addr)(cap:Nat):Array Value:=#[.int .u64 (e.idx:Nat),.int .u64 (e.term:Nat),.int .i64 e.kind,.slice ao e.data.length cap]
structure Msg where
 kind:Int
 frm:Int
 to:Int
 term:Nat
 idx:Nat
 lt:Nat
 com:Nat
 rnd:Nat
 good:Bool
 ents:List Ent
 off:Int
 whole:Int
 vot:List Int
 data:List UInt8
 deriving DecidableEq
inductive Fld where
 | idx|lt|com|rnd|off|whole|good|ents|vot|data
 deriving DecidableEq
def fieldsOf(k:Int):List Fld:=
 if k=1 then [.idx,.lt] else if k=2 then [.good] else if k=3 then [.idx,.lt,.com,.rnd,.ents] else if k=4 then [.good,.idx,.rnd]
 else if k=5 then [.idx,.lt,.off,.whole,.vot,.data] else if k=6 then [.idx,.off] else []
def u64of(x:Int):Nat:=(x % 18446744073709551616).toNat
def entsOK(at':Nat):Nat->List Ent->Prop
 | _,[]=>True
 | i,e::r=>e.ok/\e.idx=(at'+i+1) % 18446744073709551616/\at'<=e.idx/\entsOK at' (i+1) r
instance (at':Nat):∀ (i:Nat) (l:List Ent),Decidable (entsOK at' i l)
 | _,[]=>.isTrue trivial
 | i,e::r=>by
  have:=instDecidableEntsOK at' (i+1) r;unfold entsOK
  infer_instance
def entsBytes:List Ent->List UInt8
 | []=>[]
 | e::r=>putBytes e.bytes++entsBytes r
def Fld.pok(m:Msg):Fld->Prop
 | .idx|.lt|.com|.rnd|.good=>True
 | .off=>0<=m.off/\m.off<=2097152
 | .whole=>0<=m.whole/\m.whole<=2097152
 | .ents=>entsOK m.idx 0 m.ents/\m.ents.length<=8
 | .vot=>(putConf m.vot).isSome=true
 | .data=>m.data.length<=256/\m.off<=IntKind.i64.wrap (m.whole-m.data.length)
instance (m:Msg) (f:Fld):Decidable (f.pok m):=by cases f <;> unfold Fld.pok <;> infer_instance
def Fld.pby(m:Msg):Fld->List UInt8
 | .idx=>uint m.idx
 | .lt=>uint m.lt
 | .com=>uint m.com
 | .rnd=>uint m.rnd
 | .good=>[if m.good then 1 else 0]
 | .off=>uint (u64of m.off)
 | .whole=>uint (u64of m.whole)
 | .ents=>uint m.ents.length++entsBytes m.ents
 | .vot=>ob (putConf m.vot)
 | .data=>putBytes m.data
def Fld.clr(m:Msg):Fld->Msg
 | .idx=>{ m with idx:=0 }
 | .lt=>{ m with lt:=0 }
 | .com=>{ m with com:=0 }
 | .rnd=>{ m with rnd:=0 }
 | .good=>{ m with good:=false }
 | .off=>{ m with off:=0 }
 | .whole=>{ m with whole:=0 }
 | .ents=>{ m with ents:=[] }
 | .vot=>{ m with vot:=[] }
 | .data=>{ m with data:=[] }
def clrAll:List Fld->Msg->Msg
 | [],m=>m
 | f::r,m=>clrAll r (f.clr m)
def pbyAll(m:Msg):List Fld->List UInt8
 | []=>[]
 | f::r=>f.pby m++pbyAll m r
def bareP(m:Msg):Prop:=m.idx=0/\m.lt=0/\m.com=0/\m.rnd=0/\m.good=false/\m.off=0/\m.whole=0/\m.ents=[]/\m.vot=[]/\m.data=[]
instance (m:Msg):Decidable (bareP m):=by unfold bareP;infer_instance
def placedP(n:Int):Prop:=0<=n/\n<7
instance (n:Int):Decidable (placedP n):=by unfold placedP;infer_instance
def hdr(m:Msg):List UInt8:=UInt8.ofNat m.kind.toNat::UInt8.ofNat m.frm.toNat::UInt8.ofNat m.to.toNat::uint m.term
def Msg.pre(m:Msg):Prop:=fieldsOf m.kind≠[]/\placedP m.frm/\placedP m.to/\m.frm≠m.to/\m.term≠0
instance (m:Msg):Decidable m.pre:=by unfold Msg.pre;infer_instance
def Msg.ok(m:Msg):Prop:=m.pre/\(∀ f∈fieldsOf m.kind,f.pok m)/\bareP (clrAll (fieldsOf m.kind) m)
instance (m:Msg):Decidable m.ok:=by unfold Msg.ok;infer_instance
def Msg.body(m:Msg):List UInt8:=hdr m++pbyAll m (fieldsOf m.kind)
def enc(m:Msg):Option (List UInt8):=if m.ok then some (sealed m.body) else none
theorem voters_mem(n:Nat):∀ k,k<=7->∀ v∈voters n k,0<=v/\v<7:=by
 intro k hk v hv;unfold voters at hv;obtain ⟨w,h1,rfl⟩:=List.mem_map.1 hv;have:=List.mem_range.1 (List.mem_filter.1 h1).1;have e:(Int.ofNat w)=(w:Int):=rfl;omega
theorem getConf_mem(x:List UInt8):((getConf x).getD []).length<=7/\∀ v∈(getConf x).getD [],0<=v/\v<7:=by
 unfold getConf
 split
 ·split
  ·simp
  ·exact ⟨voters_len _ _,voters_mem _ 7 (Nat.le_refl _)⟩
 ·simp
def Fld.set(m m':Msg):Fld->Msg
 | .idx=>{ m' with idx:=m.idx }
 | .lt=>{ m' with lt:=m.lt }
 | .com=>{ m' with com:=m.com }
 | .rnd=>{ m' with rnd:=m.rnd }
 | .good=>{ m' with good:=m.good }
 | .off=>{ m' with off:=m.off }
 | .whole=>{ m' with whole:=m.whole }
 | .ents=>{ m' with ents:=m.ents }
 | .vot=>{ m' with vot:=m.vot }
 | .data=>{ m' with data:=m.data }
end
section
def T:Tab:={
 kinds:=[(1,.fn),(2,.int .i64),(3,.int .i64),(4,.bool),(5,.int .u8),(6,.int .u8),(9,.str),(10,.str),(11,.str),(12,.int .u64),(15,.ptr),(16,.ptr),(17,.ptr),(21,.int .i32),(22,.slice),(23,.int .u64),(26,.slice),(27,.slice),(30,.slice),(35,.ptr),(39,.fn),(40,.fn),(41,.fn),(42,.int .i64),(44,.fn),(48,.fn),(50,.fn),(51,.fn),(52,.fn),(53,.fn),(54,.fn),(55,.fn),(56,.fn),(57,.fn),(60,.fn),(62,.fn),(63,.fn),(64,.fn),(65,.fn),(66,.ptr),(67,.fn),(68,.slice),(69,.slice),(71,.fn),(72,.fn),(74,.fn),(75,.fn),(76,.fn),(77,.fn),(78,.slice),(79,.fn),(80,.fn),(81,.fn),(83,.fn),(84,.fn),(85,.fn),(86,.fn),(87,.fn),(88,.ptr),(89,.ptr),(92,.fn),(93,.fn),(94,.fn),(95,.fn),(97,.fn),(98,.fn),(99,.fn),(100,.fn),(101,.fn),(102,.fn),(103,.fn),(105,.fn),(106,.map),(109,.fn),(110,.fn),(111,.slice),(112,.fn),(113,.map),(114,.fn),(115,.fn),(116,.fn),(117,.fn),(118,.slice),(122,.fn),(123,.fn),(124,.fn),(126,.fn),(128,.fn),(129,.fn),(130,.fn),(132,.fn),(133,.fn),(135,.fn),(136,.fn),(137,.fn),(139,.fn),(140,.fn),(141,.fn),(142,.ptr),(143,.slice),(144,.slice),(147,.fn),(148,.fn),(149,.fn),(150,.fn),(151,.fn),(152,.fn),(153,.fn),(154,.fn),(155,.fn),(156,.fn),(157,.fn),(158,.fn),(162,.fn),(163,.ptr),(164,.fn),(165,.fn),(166,.fn),(168,.fn),(170,.fn),(171,.fn),(174,.fn),(175,.fn),(176,.fn),(177,.fn),(179,.fn),(180,.fn),(181,.fn),(182,.fn),(183,.fn),(184,.fn),(185,.fn),(186,.fn),(187,.fn),(190,.int .u64),(192,.fn),(193,.fn),(194,.fn),(195,.fn),(196,.fn),(197,.fn),(198,.fn),(199,.fn),(200,.fn),(201,.fn),(202,.fn),(206,.fn),(208,.fn),(209,.fn),(210,.fn),(214,.fn),(215,.fn),(216,.int .u32),(217,.fn),(218,.fn),(219,.fn),(220,.fn),(221,.fn),(222,.fn),(223,.int .i64),(225,.fn),(226,.fn),(227,.fn),(228,.fn),(229,.fn),(230,.fn),(231,.fn),(232,.fn),(233,.fn),(234,.fn),(235,.fn),(236,.fn),(237,.fn),(238,.fn),(239,.fn),(240,.fn),(241,.int .u64),(242,.fn),(243,.fn),(244,.ptr),(245,.fn),(246,.fn),(247,.fn),(248,.fn),(249,.ptr),(251,.fn),(255,.fn),(257,.fn),(259,.fn),(260,.fn),(261,.fn),(262,.fn),(263,.fn),(269,.fn),(270,.int .u8),(271,.int .u8),(272,.fn),(273,.ptr),(274,.int .i32),(275,.int .i32)],
 flds:=[(448,0),(449,1),(450,2),(451,3),(512,0),(513,1),(514,2),(515,3),(832,0),(833,1),(896,0),(897,1),(1152,0),(1216,0),(1536,0),(1537,1),(1600,0),(1601,1),(1792,0),(1856,0),(1984,0),(1985,1),(1986,2),(1987,3),(2048,0),(2049,1),(2050,2),(2051,3),(2112,0),(2113,1),(2114,3),(2115,4),(2116,5),(2117,6),(2176,0),(2177,1),(2178,3),(2179,4),(2180,5),(2181,6),(2304,0),(2305,2),(2306,6),(2368,0),(2369,2),(2370,6),(2880,0),(2881,1),(2882,2),(2883,3),(2944,0),(2945,1),(2946,2),(2947,3),(3712,0),(3713,1),(3714,2),(3776,0),(3777,1),(3778,2),(5760,0),(5761,1),(5762,2),(5763,3),(5764,4),(5765,6),(5766,10),(5767,11),(5768,12),(5769,13),(5824,0),(5825,1),(5826,2),(5827,3),(5828,4),(5829,6),(5830,10),(5831,11),(5832,12),(5833,13),(6848,0),(6849,1),(6850,2),(6851,3),(6852,4),(6912,0),(6913,1),(6914,2),(6915,3),(6916,4),(7616,0),(7617,1),(7680,0),(7681,1),(9280,0),(9281,1),(9282,2),(9283,3),(9284,4),(9285,5),(9286,6),(9344,0),(9345,1),(9346,2),(9347,3),(9348,4),(9349,5),(9350,6),(10176,0),(10177,1),(10178,2),(10179,3),(10240,0),(10241,1),(10242,2),(10243,3),(11008,0),(11009,1),(11072,0),(11073,1),(12032,0),(12033,2),(12034,3),(12096,0),(12097,2),(12098,3),(12992,0),(12993,1),(13056,0),(13057,1),(13504,0),(13505,1),(13506,2),(13507,3),(13508,4),(13568,0),(13569,1),(13570,2),(13571,3),(13572,4),(16128,0),(16129,1),(16130,2),(16192,0),(16193,1),(16194,2),(16896,0),(16897,1),(16898,2),(16899,3),(16960,0),(16961,1),(16962,2),(16963,3),(17664,0),(17665,1),(17666,2),(17667,3),(17668,4),(17669,5),(17670,6),(17671,7),(17672,8),(17673,9),(17674,10),(17728,0),(17729,1),(17730,2),(17731,3),(17732,4),(17733,5),(17734,6),(17735,7),(17736,8),(17737,9),(17738,10)],
 sls:=[(22,⟨34,10,128,.agg #[.int .i64 0,.int .u64 0,.int .i64 0,.int .u64 0,.int .u64 0,.slice none 0 0,.int .u64 0,.int .u64 0,.slice none 0 0,.slice none 0 0]⟩),
  (26,⟨46,4,48,.agg #[.int .u64 0,.int .u64 0,.int .i64 0,.slice none 0 0]⟩),
  (27,⟨3,1,8,.int .i64 0⟩),
  (30,⟨5,1,1,.int .u8 0⟩),
  (68,⟨37,7,104,.agg #[.int .u64 0,.int .i64 0,.int .u64 0,.int .u64 0,.slice none 0 0,.slice none 0 0,.slice none 0 0]⟩),
  (69,⟨25,2,16,.agg #[.int .u64 0,.int .i64 0]⟩),
  (78,⟨22,1,24,.slice none 0 0⟩),
  (111,⟨23,1,8,.int .u64 0⟩),
  (118,⟨9,1,16,.string ⟨#[]⟩⟩),
  (143,⟨30,1,24,.slice none 0 0⟩),
  (144,⟨173,2,16,.agg #[.int .u64 0,.int .u64 0]⟩)] }
theorem hT:TabOK Tryz.prog T where
 kinds:=by kernel_rfl
 flds:=by kernel_rfl
 sls:=by kernel_rfl
end
section
attribute [local irreducible] Code.wp wpList Calls
theorem putUint{w0:World}{K h:PH}{R:List PH}(ao:Option Addr)(c1:Nat)(bs:List UInt8)(n:Nat)(o:Own h ao bs.length c1 5 1 (bv bs))(hn:n<18446744073709551616)(hb:bs.length<1099511627776):
  Ct Tryz.prog w0 75 [.slice ao bs.length c1,.int .u64 (n:Nat)] K (h::R)
   (fun v K' hs'=>∃ h',hs'=h'::R/\K'=K/\∃ ao' c',v=.slice ao' (bs++uint n).length c'/\Own h' ao' (bs++uint n).length c' 5 1 (bv (bs++uint n))):=by
 refine enter Tryz.func75 qk I I I<|sq (rg<|fin hT 1 I (th<|sq (bk ?_)))
 refine loop (σ:=List UInt8×Nat×Option Addr×Nat×PH) (fun x=>[(0,.slice x.2.2.1 x.1.length x.2.2.2.1),(1,.int .u64 (x.2.1:Nat)),(4,.slice none 0 0)]) (fun _=>K) (fun x=>x.2.2.2.2::R)
  (fun x=>Own x.2.2.2.2 x.2.2.1 x.1.length x.2.2.2.1 5 1 (bv x.1)/\x.1++uint x.2.1=bs++uint n/\x.2.1<18446744073709551616) (fun x=>x.2.1) (bs,n,ao,c1,h) ⟨o,rfl,hn⟩ ⟨rfl,rfl,rfl,trivial⟩ rfl rfl ?_
 rintro ⟨bs',m,ao',c',h'⟩ ⟨o',heq,hm⟩;dsimp only at o' heq hm ⊢
 have hbs:bs'.length<=bs.length+10:=by
  have h1:=congrArg List.length heq;have h2:=uint_le10 hn;simp at h1;omega
 refine sq<|sq (rg<|cmp hT 1 I (fun h1=>?_) (fun h1=>?_))
 ·refine fin hT 0 I (th (ifT I (sk (th (bk (sq (rg (ar hT 2 I (u8m m) (ar hT 0 I (v':=.int .u8 (m % 128+128:Nat)) (u8or128 m) (lit hT 0 #[.int .u8 (m % 128+128:Nat)] I (by decide) qk fun b=>app hT 0 1 I I o' (.inr ⟨0,I⟩) (isS_byte b (m % 128+128) qo) I (by decide) (bv_one _) (by simp;omega) (by simp[maxLen];omega) fun ao2 c2 h2 o2=>fin hT 1 rfl (th (rg (ar hT 1 rfl (v':=.int .u64 (m / 128:Nat)) (u64shr7 m) (fin hT 1 rfl (bl (WQ.drop ?_))))))))))))))));rw[<-bv_append] at o2;have e1:(bs'++[UInt8.ofNat (m % 128+128)]).length=bs'.length+1:=by simp
  rw[<-e1] at o2;have e2:=uint_ge (n:=m) qo
  exact again (x:=(bs',m,ao',c',h')) (bs'++[UInt8.ofNat (m % 128+128)],m / 128,ao2,c2,h2) ⟨by rw[<-e1];rfl,rfl,rfl,trivial⟩ rfl rfl
   ⟨o2,by simp only[List.append_assoc,List.singleton_append];rw[<-e2];exact heq,by dsimp only;omega⟩ (by dsimp only;omega)
 ·refine fin hT 0 I (th (ifF I (ex (xt (xt (xb (th (sq (rg ?_)))))) )));have hlt:m<128:=by omega
  refine ar hT 2 I (u8m m) (lit hT 0 #[.int .u8 (m % 256:Nat)] I (by decide) qk fun b=>app hT 0 1 I I o' (.inr ⟨0,I⟩) (isS_byte b (m % 256) qo) I (by decide) (bv_one _) (by simp;omega) (by simp[maxLen];omega) fun ao2 c2 h2 o2=>fin hT 1 rfl (th (WC.drop (rt ?_))));rw[<-bv_append] at o2;have e1:m % 256=m:=by omega
  have e2:bs'++[UInt8.ofNat (m % 256)]=bs++uint n:=by rw[e1,<-heq,uint_lt hlt]
  have e3:bs'.length+1=(bs++uint n).length:=by rw[<-e2];simp
  rw[e2,e3] at o2;exact ret1 I (by rw[<-e3];rfl) ⟨h2,rfl,rfl,ao2,c2,rfl,o2⟩
theorem sumC{w0:World}{K hb:PH}{hs:List PH}(ao:Option Addr)(cap:Nat)(b:List UInt8)(hm:In K hs hb)(x:IsS hb ao b.length cap 1 (bv b))(hl:b.length<1099511627776):
  Ct Tryz.prog w0 147 [.slice ao b.length cap] K hs (fun v K' hs'=>K'=K/\hs'=hs/\v=.int .u32 ((crc b).toNat:Nat)):=by
 refine enter Tryz.func147 qk I I I<|sq (rg<|fin hT 1 I (th<|sq (rg<|fin hT 1 I (th<|sq (sq<|rg (fin hT 3 I<|th (bk ?_)))))))
 refine loop (σ:=Nat) (fun j=>[(6,.slice ao b.length cap),(7,.int .i64 (b.length:Nat)),(8,.int .i64 (j:Nat)),(3,.int .u32 ((crcRaw 4294967295#32 (b.take j)).toNat:Nat))]) (fun _=>K) (fun _=>hs) (fun j=>j<=b.length) (fun j=>b.length-j)
  0 (Nat.zero_le _) ⟨rfl,rfl,rfl,rfl,trivial⟩ rfl rfl ?_
 intro j hj;refine sq (rg (cmp hT 0 I (fun h1=>?_) (fun h1=>?_)))
 ·have hlt:j<b.length:=by omega
  refine fin hT 0 I<|th (sq<|ifT I (sk<|th (sq<|bk (sq<|rg (ix1 hT 0 j I I I x (bv_get hlt) fun a10 hc10=>ld hT 0 I hm hc10<|fin hT 1 I (th<|sq (rg<|ar hT 2 I (u32ofByte _) (ar hT 0 I (u32xor _ _)<|fin hT 1 I (th<|sq (rg<|fin hT 1 I (th<|bk ?_)))))))))))
  refine loop (σ:=Nat) (fun i=>[(16,.int .i64 (i:Nat)),(3,.int .u32 ((crcBits i (crcRaw 4294967295#32 (b.take j) ^^^ BitVec.ofNat 32 b[j].toNat)).toNat:Nat)),(6,.slice ao b.length cap),(7,.int .i64 (b.length:Nat)),(8,.int .i64 (j:Nat))]) (fun _=>K) (fun _=>hs) (fun i=>i<=8) (fun i=>8-i)
   0 (Nat.zero_le _) ⟨rfl,rfl,rfl,rfl,rfl,trivial⟩ rfl rfl ?_
  intro i hi;refine sq (rg (cmp hT 0 I (fun h2=>?_) (fun h2=>?_)))
  ·exact fin hT 0 I (th (sq (ifT I (sk (th (sq (bk (rg (ar hT 1 I (u32shr1 _) (ar hT 1 I (u32and1 _) (ar hT 0 I (u32neg _) (ar hT 0 I (u32andP _) (ar hT 0 I (u32xor _ _) (fin hT 1 I (bl (th (rg (ar hT 0 I (i64w qo) (fin hT 1 I (again (x:=i) (i+1) ⟨I,by rw[crcBits_succ];rfl,rfl,rfl,rfl,trivial⟩ rfl rfl qo qo))))))))))))))))))))
  ·obtain rfl:i=8:=by omega
   exact fin hT 0 I (th (sq (ifF I (ex (xt (xt (xb (bl (th (rg (ar hT 0 I (i64w qo) (fin hT 1 I (again (x:=j) (j+1) ⟨I,I,I,by rw[take_succ_get b j hlt,crcRaw_snoc];rfl,trivial⟩ rfl rfl qo qo)))))))))))))
 ·obtain rfl:j=b.length:=by omega
  exact fin hT 0 I (th (sq (ifF I (ex (xt (xt (xb (th (sq (rg (ar hT 1 I (u32not _) (fin hT 1 I (th (rt (ret1 I I ⟨I,I,by rw[List.take_length];rfl⟩)))))))))))))))
end
section
attribute [local irreducible] Code.wp wpList Calls
theorem cloneB{w0:World}{K hb:PH}{hs:List PH}(ao:Option Addr)(cap:Nat)(b:List UInt8)(hm:In K hs hb)(x:IsS hb ao b.length cap 1 (bv b))(hl:b.length<1099511627776):
  Ct Tryz.prog w0 79 [.slice ao b.length cap] K hs
   (fun v K' hs'=>K'=K/\∃ h' ao' c',hs'=h'::hs/\v=.slice ao' b.length c'/\Own h' ao' b.length c' 5 1 (bv b)):=by
 refine enter Tryz.func79 qk I I I<|sq (rg<|fin hT 1 I (th<|sq (sq<|rg (cb hT 1 I (fun h1=>?_) (fun h1=>?_)))))
 ·have hao:ao=none:=by simpa using h1
  subst hao
  have hb0:b=[]:=by
   cases b with
   | nil=>rfl
   | cons c r=>obtain ⟨a,ha,_⟩:=x.2.2 0 _ (by simp[bv];rfl);cases ha
  subst hb0;exact fin hT 0 I (th (ifT I (sq (rg (fin hT 1 I (th (rt (rT (WQ.em (ret1 I I ⟨I,em,none,0,I,I,Own.nil _ _⟩))))))))))
 ·refine fin hT 0 I (th (ifF I (sk (th (sq (rg (lit hT 0 #[] I (by decide) qk fun b5=>app hT 1 0 I I (Own.ofPt (c:=#[]) (n:=0) (by simp) (by simp[maxLen])) (In.cons hm) x I (by decide) (bv_one _) (by simp;omega) (by simp[maxLen];omega) fun ao7 c7 g7 o7=>fin hT 1 rfl (th (rt ?_)))))))));have e:0+b.length=b.length:=Nat.zero_add _;rw[e] at o7;exact ret1 I (by rw[e];rfl) ⟨rfl,g7,ao7,c7,rfl,rfl,o7⟩
theorem numberC{w0:World}{K hb:PH}{hs:List PH}(ao:Option Addr)(cap:Nat)(b:List UInt8)(hm:In K hs hb)(x:IsS hb ao b.length cap 1 (bv b))(hl:b.length<1099511627776):
  Ct Tryz.prog w0 138 [.slice ao b.length cap] K hs
   (fun v K' hs'=>K'=K/\hs'=hs/\v=.tuple #[.int .u64 ((number 0 0 b).1:Nat),.int .i64 ((number 0 0 b).2.1:Nat),.int .i64 (number 0 0 b).2.2]):=by
 refine enter Tryz.func138 qk I I I<|sq (rg<|fin hT 3 I (th<|sq (rg<|fin hT 1 I (th<|sq (sq<|rg (fin hT 3 I<|th (bk ?_)))))))
 refine loop (σ:=Nat×Nat) (fun s=>[(5,.int .u64 (s.2:Nat)),(8,.slice ao b.length cap),(9,.int .i64 (b.length:Nat)),(10,.int .i64 (s.1:Nat))]) (fun _=>K) (fun _=>hs)
  (fun s=>s.1<=b.length/\s.1<=9/\s.2<128 ^ s.1/\number s.1 s.2 (b.drop s.1)=number 0 0 b) (fun s=>b.length-s.1) (0,0) ⟨Nat.zero_le _,by omega,by simp,rfl⟩ ⟨rfl,rfl,rfl,rfl,trivial⟩ rfl rfl ?_
 rintro ⟨i,acc⟩ ⟨hi,hi9,hacc,hnum⟩;dsimp only at hi hi9 hacc hnum ⊢;refine sq (rg (cmp hT 0 I (fun h1=>?_) (fun h1=>?_)))
 ·have hlt:i<b.length:=by omega
  have hd:b.drop i=b[i]::b.drop (i+1):=List.drop_eq_getElem_cons hlt;rw[hd] at hnum;have hc:=b[i].toNat_lt;generalize hcc:b[i]=c at *;have hm128:c.toNat % 128<128:=Nat.mod_lt _ (by decide);rw[number_cons] at hnum;refine fin hT 0 I (th (sq (ifT I (sk (th (sq (bk (sq (rg (ix1 hT 1 i I I I x (by rw[bv_get hlt,hcc]) fun a13 hc13=>ld hT 0 I hm hc13 (fin hT 2 I (th (sq (sq (rg (cmp hT 1 I (fun h2=>?_) (fun h2=>?_)))))))))))))))))
  ·refine cmp hT 2 I (fun h3=>?_) (fun h3=>?_)
   ·rw[if_pos ⟨by omega,by omega⟩] at hnum;exact fin hT 1 I (th (ifT I (sq (rg (fin hT 3 I (th (rt (rT (rB (rT (rT (rB (rT (ret3 I I I I ⟨I,I,by rw[<-hnum];rfl⟩))))))))))))))
   ·rw[if_neg qo,if_neg qo] at hnum;have hb1:=mul_pow_lt hi9 hacc hm128 qo;refine fin hT 1 I (th (ifF I (sk (th (sq (rg (ar hT 2 I (u8and127 _) (ar hT 0 I (u64w qo) (ar hT 1 I (i64w qo) (shf hT 0 I qo (.inl ⟨I,u64shl7 _ _ hi9 qo⟩) (ar hT 0 I (u64or _ _ _ hacc hb1.1) (fin hT 1 I (th (sq (sq (rg (cmp hT 1 I (fun h4=>absurd h4 qo) (fun h4=>fin hT 0 I (th (ifF I (sk (th (sq (sq (rg (cmp hT 1 I (fun h5=>?_) (fun h5=>?_)))))))))))))))))))))))))))
    ·refine cmp hT 2 I (fun h6=>?_) (fun h6=>absurd h6 qo);rw[if_pos ⟨by omega,by omega⟩] at hnum;exact fin hT 1 I (th (ifT I (sq (rg (fin hT 3 I (th (rt (rT (rB (rT (rT (rB (rT (ret3 I I I I ⟨I,I,by rw[<-hnum];rfl⟩))))))))))))))
    ·rw[if_neg qo] at hnum;exact fin hT 4 I (th (ifF I (sk (th (sq (rg (ar hT 2 I (i64w qo) (fin hT 3 I (th (rt (rB (rT (rT (rB (rT (ret3 I I I I ⟨I,I,by rw[<-hnum];rfl⟩))))))))))))))))
  ·rw[if_neg qo] at hnum;have hb1:=mul_pow_lt hi9 hacc hm128 qo;refine fin hT 4 I (th (ifF I (sk (th (sq (rg (ar hT 2 I (u8and127 _) (ar hT 0 I (u64w qo) (ar hT 1 I (i64w qo) (shf hT 0 I qo (.inl ⟨I,u64shl7 _ _ hi9 qo⟩) (ar hT 0 I (u64or _ _ _ hacc hb1.1) (fin hT 1 I (th (sq (sq (rg (cmp hT 1 I (fun h7=>?_) (fun h7=>?_))))))))))))))))))
   ·rw[if_pos qo] at hnum;exact fin hT 0 I (th (ifT I (ex (xt (xb (th (rg (ar hT 0 I (i64w qo) (fin hT 1 I (again (x:=(i,acc)) (i+1,acc+c.toNat % 128*128 ^ i) ⟨I,I,I,I,trivial⟩ I I ⟨by dsimp only;omega,by dsimp only;omega,hb1.2 qo,hnum⟩ (by dsimp only;omega)))))))))))
   ·rw[if_neg qo] at hnum;refine fin hT 0 I (th (ifF I (sk (th (sq (sq (rg (cmp hT 1 I (fun h8=>?_) (fun h8=>?_)))))))))
    ·refine cmp hT 2 I (fun h9=>?_) (fun h9=>?_)
     ·rw[if_pos ⟨by omega,by omega⟩] at hnum;exact fin hT 1 I (th (ifT I (sq (rg (fin hT 3 I (th (rt (rT (rB (rT (rT (rB (rT (ret3 I I I I ⟨I,I,by rw[<-hnum];rfl⟩))))))))))))))
     ·rw[if_neg qo] at hnum;exact fin hT 1 I (th (ifF I (sk (th (sq (rg (ar hT 2 I (i64w qo) (fin hT 3 I (th (rt (rB (rT (rT (rB (rT (ret3 I I I I ⟨I,I,by rw[<-hnum];rfl⟩))))))))))))))))
    ·rw[if_neg qo] at hnum;exact fin hT 4 I (th (ifF I (sk (th (sq (rg (ar hT 2 I (i64w qo) (fin hT 3 I (th (rt (rB (rT (rT (rB (rT (ret3 I I I I ⟨I,I,by rw[<-hnum];rfl⟩))))))))))))))))
 ·obtain rfl:i=b.length:=by omega
  exact fin hT 0 I (th (sq (ifF I (ex (xt (xt (xb (th (sq (rg (fin hT 3 I (th (rt (ret3 I I I I ⟨I,I,by rw[<-hnum,List.drop_length];rfl⟩))))))))))))))
end
section
attribute [local irreducible] Code.wp wpList Calls
def IsRd(rb:Nat)(hb:PH)(s:Rd)(h:PH):Prop:=∃ ao cap,h=pt rb #[.slice ao s.1.length cap,.int .i64 s.2] 204/\IsS hb ao s.1.length cap 1 (bv s.1)
section
variable {w0:World} {K hb h:PH} {R:List PH} {rb:Nat}
theorem endC(s:Rd)(r:IsRd rb hb s h):Ct Tryz.prog w0 99 [.pointer (some ⟨rb,0,none⟩)] K (h::R) (fun v K' hs'=>K'=K/\hs'=h::R/\v=.int .i64 (rEnd s)):=by
 obtain ⟨ao,cap,rfl,x⟩:=r;obtain ⟨b,e⟩:=s;refine enter Tryz.func99 qk I I I (sq (rg (fin hT 1 I (th (sq (sq (rg (ldp hT 3 0 I I I (cmp hT 0 I (fun h1=>?_) (fun h1=>?_))))))))))
 ·refine ldp hT 4 0 I I I<|cmp hT 1 I (fun h2=>?_) (fun h2=>?_)
  ·exact fin hT 1 I (th (ifT I (sq (rg (fin hT 1 I (th (rt (rT (ret1 I I ⟨I,I,by rw[rEnd,if_pos ⟨h1,by dsimp only at h2;omega⟩]⟩)))))))))
  ·exact fin hT 1 I (th (ifF I (sk (th (sq (rg (ldp hT 3 0 I I I (fin hT 1 I (th (rt (ret1 I I ⟨I,I,by rw[rEnd,if_neg (by dsimp only at h2;omega)];rfl⟩)))))))))))
 ·exact fin hT 8 I (th (ifF I (sk (th (sq (rg (ldp hT 3 0 I I I (fin hT 1 I (th (rt (ret1 I I ⟨I,I,by rw[rEnd,if_neg (fun h=>h1 h.1)];rfl⟩)))))))))))
theorem failC(s:Rd)(e:Int)(r:IsRd rb hb s h):Ct Tryz.prog w0 167 [.pointer (some ⟨rb,0,none⟩),.int .i64 e] K (h::R)
  (fun v K' hs'=>∃ h',hs'=h'::R/\K'=K/\v=.tuple #[]/\IsRd rb hb (s.1,if s.2=0 then e else s.2) h'):=by
 obtain ⟨ao,cap,rfl,x⟩:=r;obtain ⟨b,e0⟩:=s;refine enter Tryz.func167 qk I I I (sq (rg (ldp hT 3 0 I I I (cmp hT 0 I (fun h1=>?_) (fun h1=>?_)))))
 ·exact fin hT 0 I (th (ifT I (rg (stp hT 4 0 I I I I (fin hT 0 I (end0 I ⟨_,I,I,I,ao,cap,by rw[if_pos h1];rfl,x⟩))))))
 ·exact fin hT 0 I<|th (ifF I<|sk (end0 I ⟨_,I,I,I,ao,cap,by rw[if_neg h1],x⟩))
theorem byteC(hm:In K R hb)(s:Rd)(r:IsRd rb hb s h):Ct Tryz.prog w0 100 [.pointer (some ⟨rb,0,none⟩)] K (h::R)
  (fun v K' hs'=>∃ h',hs'=h'::R/\K'=K/\v=.int .u8 ((rByte s).1:Nat)/\IsRd rb hb (rByte s).2 h'):=by
 obtain ⟨ao,cap,rfl,x⟩:=r;obtain ⟨b,e⟩:=s;refine enter Tryz.func100 qk I I I (sq (rg (fin hT 1 I (th (sq (bk (sq (bk (sq (bk (sq (sq (sq (rg (ldp hT 3 0 I I I (cmp hT 0 I (fun h1=>?_) (fun h1=>?_)))))))))))))))))
 ·dsimp only at h1;refine ldp hT 4 0 I I I (cmp hT 1 I (fun h2=>?_) (fun h2=>?_))
  ·dsimp only at h2;have hb0:b=[]:=List.eq_nil_of_length_eq_zero qo;subst hb0;exact fin hT 2 I (th (ifT I (ex (xt (xt (xb (th (rg (stp hT 3 0 I I I I (fin hT 0 I (bl (th (sq (sq (rg (fin hT 1 I (th (rt (rT (rB (rT (ret1 I I ⟨_,I,I,by simp[rByte,h1],ao,cap,by simp[rByte,h1],by simpa[rByte,h1] using x⟩))))))))))))))))))))))
  ·cases b with
   | nil=>exact absurd rfl h2
   | cons c r=>
    have hv:(rByte (c::r,e))=(c.toNat,(r,0)):=by simp[rByte,h1]
    refine fin hT 2 I (th (ifF I (sk (th (sq (rg (ldp hT 3 0 I I I (cmp hT 0 I (fun h3=>absurd h1 h3) (fun h3=>fin hT 1 I (th (ifF I (sk (th (ex (xn I (xt (xn I (xt (xb (th (sq (rg (ldp hT 3 0 I I I (ix1 hT 0 0 I I I x (by rfl) fun a31 hc31=>ld hT 0 I (In.cons hm) hc31 (fin hT 1 I (th (sq (rg (ldp hT 4 0 I I I (sl hT 0 1 r.length I x I (by simp;omega) (by simp;omega) (ys:=bv r) (by simp only[bv,List.map_cons,Nat.mul_one,List.drop_succ_cons,List.drop_zero];rw[List.take_of_length_le (by simp)]) fun ao38 c38 x38=>stp hT 2 0 rfl rfl rfl rfl (fin hT 0 rfl (th (sq (rg ?_))))))))))))))))))))))))))))))))));refine fin hT 2 I (th (rt ?_));rw[hv];exact ret1 I I ⟨_,I,I,I,ao38,c38,by rw[h1];rfl,x38⟩
 ·dsimp only at h1;have hv:(rByte (b,e))=(0,(b,e)):=by simp[rByte,h1]
  refine fin hT 9 I (th (ifF I (sk (th (sq (rg (ldp hT 3 0 I I I (cmp hT 0 I (fun h4=>fin hT 1 I (th (ifT I (ex (xt (xn I (xt (xb (th (sq (sq (rg (fin hT 1 I (th (rt (rT (rB (rT ?_)))))))))))))))))) (fun h4=>absurd h1 h4)))))))));rw[hv];exact ret1 I I ⟨_,I,I,I,ao,cap,I,x⟩
theorem uintC(hm:In K R hb)(most:Nat)(s:Rd)(hl:s.1.length<1099511627776)(r:IsRd rb hb s h):Ct Tryz.prog w0 98 [.pointer (some ⟨rb,0,none⟩),.int .u64 (most:Nat)] K (h::R)
  (fun v K' hs'=>∃ h',hs'=h'::R/\K'=K/\v=.int .u64 ((rUint most s).1:Nat)/\IsRd rb hb (rUint most s).2 h'):=by
 obtain ⟨ao,cap,rfl,x⟩:=r;obtain ⟨b,e⟩:=s;refine enter Tryz.func98 qk I I I (sq (rg (fin hT 1 I (th (sq (sq (rg (ldp hT 3 0 I I I (cmp hT 0 I (fun h1=>?_) (fun h1=>?_))))))))))
 ·dsimp only at h1;have hv:rUint most (b,e)=(0,(b,e)):=by simp[rUint,h1]
  refine fin hT 0 I (th (ifT I (sq (rg (fin hT 1 I (th (rt (rT ?_))))))));rw[hv];exact ret1 I I ⟨_,I,I,I,ao,cap,I,x⟩
 ·dsimp only at h1 hl x;have he:e=0:=by omega
  subst he;refine fin hT 0 I (th (ifF I (sk (th (sq (rg (ldp hT 3 0 I I I (cl hT 0 I (numberC ao cap b (In.cons hm) x hl) ?_))))))));rintro v18 K18 hs18 ⟨rfl,rfl,rfl⟩;have hbd:=number_bd b 0 0 qo qo;have hun:rUint most (b,0)=if (number 0 0 b).2.2=0 then (if most<(number 0 0 b).1 then (0,(b,22)) else ((number 0 0 b).1,(b.drop (number 0 0 b).2.1,0))) else (0,(b,(number 0 0 b).2.2)):=by simp[rUint]
  generalize number 0 0 b=N at *;obtain ⟨nn,kk,ee⟩:=N;dsimp only at hun hbd ⊢;refine fin hT 7 I (th (sq (sq (rg (cmp hT 1 I (fun h2=>?_) (fun h2=>?_))))))
  ·subst h2;rw[if_pos rfl] at hun;refine cmp hT 3 I (fun h3=>?_) (fun h3=>?_)
   ·rw[if_pos qo] at hun;refine fin hT 1 I (th (ifT I (rg (fin hT 1 I (th (sq (sq (rg (cmp hT 1 I (fun h4=>fin hT 0 I (th (ifT I (sq (rg (stp hT 4 0 I I I I (fin hT 0 I (th (sq (rg (fin hT 1 I (th (rt (rT ?_)))))))))))))) (fun h4=>absurd (by decide) h4))))))))));rw[hun];exact ret1 I I ⟨_,I,I,I,ao,cap,I,x⟩
   ·rw[if_neg qo] at hun;refine fin hT 1 I (th (ifF I (sk (th (sq (sq (rg (cmp hT 1 I (fun h5=>absurd I h5) (fun h5=>fin hT 0 I (th (ifF I (sk (th (sq (rg (ldp hT 4 0 I I I (sl hT 1 kk (b.length-kk) I x I (by simp;omega) qo (ys:=bv (b.drop kk)) (by simp only[bv,Nat.mul_one,<-List.map_drop,<-List.map_take];rw[List.take_of_length_le (by simp)]) fun ao41 c41 x41=>stp hT 2 0 rfl rfl rfl rfl (fin hT 0 rfl (th (sq (rg (fin hT 2 rfl (th (rt ?_))))))))))))))))))))))));rw[hun];have e1:b.length-kk=(b.drop kk).length:=by simp
    rw[e1] at x41;exact ret1 I I ⟨_,I,I,I,ao41,c41,by rw[e1];rfl,x41⟩
  ·rw[if_neg h2] at hun;refine fin hT 5 I (th (ifF I (sk (th (sq (sq (rg (cmp hT 1 I (fun h6=>fin hT 0 I (th (ifT I (sq (rg (stp hT 4 0 I I I I (fin hT 0 I (th (sq (rg (fin hT 1 I (th (rt (rT ?_)))))))))))))) (fun h6=>absurd h2 h6)))))))));rw[hun];exact ret1 I I ⟨_,I,I,I,ao,cap,I,x⟩
theorem bytesC(hm:In K R hb)(most:Int)(hmost:most<=9223372036854775807)(s:Rd)(hl:s.1.length<1099511627776)(r:IsRd rb hb s h):Ct Tryz.prog w0 141 [.pointer (some ⟨rb,0,none⟩),.int .i64 most] K (h::R)
  (fun v K' hs'=>∃ h' new,hs'=new++h'::R/\K'=K/\∃ hx ao' c',new=[hx]/\v=.slice ao' (rBytes most s).1.length c'/\Own hx ao' (rBytes most s).1.length c' 5 1 (bv (rBytes most s).1)/\IsRd rb hb (rBytes most s).2 h'):=by
 obtain ⟨ao,cap,rfl,x⟩:=r;obtain ⟨b,e⟩:=s;dsimp only at hl x ⊢;refine enter Tryz.func141 qk I I I (sq (rg (fin hT 1 I (th (sq (rg (ldp hT 3 0 I I I (fin hT 1 I (th (sq (rg (ar hT 3 I (v':=.int .u64 (most.toNat:Nat)) (by split <;> rw[u64w qo] <;> congr 1 <;> omega) (cl hT 0 rfl (uintC hm most.toNat (b,e) hl ⟨ao,cap,rfl,x⟩) ?_)))))))))))));rintro v16 K16 hs16 ⟨h',rfl,rfl,rfl,ao',cap',rfl,x'⟩;have hres:rBytes most (b,e)=(let x:=rUint most.toNat (b,e);if x.2.2=0 then (if x.2.1.length<x.1 then ([],(b,20)) else (x.2.1.take x.1,(x.2.1.drop x.1,0))) else ([],x.2)):=rfl;obtain ⟨hn,hb'⟩:=rUint_bd most.toNat b e;generalize rUint most.toNat (b,e)=U at *;obtain ⟨nn,b',e'⟩:=U;dsimp only at hres x' hb' hn ⊢;refine fin hT 1 I (th (sq (sq (rg (ldp hT 3 0 I I I (cmp hT 0 I (fun h1=>?_) (fun h1=>?_)))))))
 ·subst h1;rw[if_pos rfl] at hres;refine ldp hT 5 0 I I I (ar hT 1 I (u64w qo) (cmp hT 0 I (fun h2=>?_) (fun h2=>?_)))
  ·rw[if_pos qo] at hres;refine fin hT 1 I (th (ifT I (rg (stp hT 5 0 I I I I (stp hT 2 0 I I I I (fin hT 0 I (th (sq (sq (rg (ldp hT 3 0 I I I (cmp hT 0 I (fun h3=>fin hT 0 I (th (ifT I (sq (rg (fin hT 1 I (th (rt (rT (WQ.em ?_)))))))))) (fun h3=>absurd (by decide) h3)))))))))))));rw[hres];exact ret1 I I ⟨_,[em],I,I,em,none,0,I,I,Own.nil _ _,ao,cap,I,x⟩
  ·rw[if_neg qo] at hres;refine fin hT 1 I (th (ifF I (sk (th (sq (sq (rg (ldp hT 3 0 I I I (cmp hT 0 I (fun h4=>absurd I h4) (fun h4=>fin hT 0 I (th (ifF I (sk (th (sq (rg (ldp hT 3 0 I I I ?_)))))))))))))))));have hle:nn<=b'.length:=by omega
   have e1:(b'.take nn).length=nn:=by simp;omega
   have e2:(b'.drop nn).length=b'.length-nn:=by simp
   refine sl hT 1 0 nn I x' I (by simp) qo (ys:=bv (b'.take nn)) (by simp[bv,<-List.map_take]) fun ao49 c49 x49=>?_;have hcl:=fun K hs hm=>cloneB (w0:=w0) (K:=K) (hb:=hb) (hs:=hs) ao49 c49 (b'.take nn) hm (isS_of x49 e1.symm rfl) (by simp;omega);rw[e1] at hcl;refine cl hT 0 I (hcl _ _ (In.cons hm)) ?_;rintro v50 K50 hs50 ⟨rfl,hx,aox,cx,rfl,rfl,ox⟩;refine fin hT 1 I (th (sq (rg (ldp hT 4 1 I I I (sl hT 1 nn (b'.drop nn).length I x' I (by rw[e2];simp;omega) qo (ys:=bv (b'.drop nn)) (by simp only[bv,Nat.mul_one,<-List.map_drop,<-List.map_take];rw[List.take_of_length_le (Nat.le_refl _)]) fun ao57 c57 x57=>stp hT 2 1 rfl rfl rfl rfl (fin hT 0 rfl (th (sq (rg (fin hT 2 rfl (th (rt ?_))))))))))));rw[hres];exact ret1 I I ⟨_,[hx],I,I,hx,aox,cx,I,by rw[e1],by rw[e1];exact ox,ao57,c57,I,x57⟩
 ·rw[if_neg h1] at hres;refine fin hT 10 I (th (ifF I (sk (th (sq (sq (rg (ldp hT 3 0 I I I (cmp hT 0 I (fun h5=>fin hT 0 I (th (ifT I (sq (rg (fin hT 1 I (th (rt (rT (WQ.em ?_)))))))))) (fun h5=>absurd h1 h5))))))))));rw[hres];exact ret1 I I ⟨_,[em],I,I,em,none,0,I,I,Own.nil _ _,ao',cap',I,x'⟩
end
theorem readC{w0:World}{K hb:PH}{hs:List PH}(ao:Option Addr)(cap:Nat)(b:List UInt8)(hm:In K hs hb)(x:IsS hb ao b.length cap 1 (bv b))(hl:b.length<1099511627776):
  Ct Tryz.prog w0 96 [.slice ao b.length cap] K hs
   (fun v K' hs'=>K'=K/\∃ rb h' hb',hs'=h'::hb'::hs/\v=.pointer (some ⟨rb,0,none⟩)/\IsRd rb hb' (b,0) h'):=by
 refine enter Tryz.func96 qk I I I (sq (rg (fin hT 1 I (th (sq (rg (cl hT 1 I (cloneB ao cap b hm x hl) ?_)))))));rintro v4 K4 hs4 ⟨rfl,hx,aox,cx,rfl,rfl,ox⟩;exact bd hT 0 (.agg #[.slice aox b.length cx,.int .i64 0]) I (fun w=>by kernel_rfl) (bx hT 0 I fun b6=>fin hT 1 I (th (rt (ret1 I I ⟨I,b6,_,hx,I,I,aox,cx,I,ox.isS⟩))))
end
section
attribute [local irreducible] Code.wp wpList Calls
theorem putBytesC{w0:World}{K h hb:PH}{R:List PH}(ao:Option Addr)(c1:Nat)(bs:List UInt8)(ao2:Option Addr)(c2:Nat)(x:List UInt8)(o:Own h ao bs.length c1 5 1 (bv bs))(hm:In K R hb)(xs:IsS hb ao2 x.length c2 1 (bv x))
  (hb1:bs.length<549755813888) (hb2:x.length<549755813888):
  Ct Tryz.prog w0 121 [.slice ao bs.length c1,.slice ao2 x.length c2] K (h::R)
   (fun v K' hs'=>∃ h',hs'=h'::R/\K'=K/\∃ ao' c',v=.slice ao' (bs++putBytes x).length c'/\Own h' ao' (bs++putBytes x).length c' 5 1 (bv (bs++putBytes x))):=by
 have hu:=uint_le10 (n:=x.length) qo;refine enter Tryz.func121 qk I I I (sq (rg (fin hT 1 I (th (sq (rg (ar hT 3 I (u64w qo) (cl hT 0 I (putUint ao c1 bs x.length o qo qo) ?_))))))));rintro v9 K9 hs9 ⟨h',rfl,rfl,ao',c',rfl,o'⟩;have e1:(bs++uint x.length).length+x.length=(bs++putBytes x).length:=by simp[putBytes_length];omega
 refine app hT 1 0 I I o' (In.cons hm) xs I (by decide) (bv_one _) (by simp;omega) (by simp[maxLen];omega) fun ao11 c11 g11 o11=>fin hT 1 rfl (th (rt ?_));have e2:bv (bs++uint x.length)++bv x=bv (bs++putBytes x):=by rw[<-bv_append,List.append_assoc];rfl
 rw[e2,e1] at o11;exact ret1 I (by rw[e1];rfl) ⟨g11,rfl,rfl,ao11,c11,rfl,o11⟩
end
section
attribute [local irreducible] Code.wp wpList Calls
theorem own_of{h:PH}{ao:Option Addr}{n n' cap e size:Nat}{xs ys:List Value}(x:Own h ao n cap e size xs)(h1:n=n')(h2:xs=ys):Own h ao n' cap e size ys:=by subst h1;subst h2;exact x
theorem own_byte(b m:Nat)(h:m<256):Own (pt b #[.int .u8 (m:Nat)] 5) (some ⟨b,0,none⟩) 1 1 5 1 (bv [UInt8.ofNat m]):=
 own_of (Own.ofPt (n:=1) (size:=1) (by simp) (by simp[maxLen])) rfl (by simp[bv,byteV h])
theorem u_rem(k:IntKind)(n m:Nat):Value.int k (((n:Nat):Int).tmod ((m:Nat):Int))=.int k ((n % m:Nat):Int):=by rw[<-Int.ofNat_tmod]
theorem u64quo(n m:Nat)(h:n<18446744073709551616):Value.int .u64 (IntKind.u64.wrap (((n:Nat):Int).tdiv ((m:Nat):Int)))=.int .u64 (n / m:Nat):=by
 rw[<-Int.ofNat_tdiv];have:=Nat.div_le_self n m;generalize n / m=q at *;exact u64w qo
theorem isS_pt{b n ty:Nat}{c:Array Value}{fr:Nat×Nat}{xs:List Value}(h1:c.toList=xs)(h2:c.size=n):IsS (pt b c ty fr) (some ⟨b,0,none⟩) n n 1 xs:=by
 subst h1;refine ⟨by simpa using h2,Nat.le_refl _,fun j u hu=>⟨_,I,?_⟩⟩;rw[add_mk];exact Cell.pt (by simpa using hu)
theorem uintRef{w0:World}{K:PH}:∀ (n:Nat) {hs:List PH},n<18446744073709551616 ->
  Ct Tryz.prog w0 184 [.int .u64 (n:Nat)] K hs
   (fun v K' hs'=>∃ h',hs'=h'::hs/\K'=K/\∃ ao' c',v=.slice ao' (uint n).length c'/\Own h' ao' (uint n).length c' 5 1 (bv (uint n))):=by
 intro n
 induction n using Nat.strongRecOn with
 | ind n ih=>
 intro hs hn;refine enter Tryz.func184 qk I I I (sq (rg (fin hT 1 I (th (sq (sq (rg (cmp hT 1 I (fun h1=>?_) (fun h1=>?_)))))))))
 ·refine fin hT 0 I (th (ifT I (sq (rg (ar hT 1 I (u8w qo) (lit hT 0 #[.int .u8 (n:Nat)] I (by decide) qk fun b8=>fin hT 1 I (th (rt (rT ?_)))))))));rw[uint_lt qo];exact ret1 I I ⟨_,I,I,_,_,I,own_byte b8 n qo⟩
 ·refine fin hT 0 I (th (ifF I (sk (th (sq (rg (ar hT 1 I (u_rem .u64 n 128) (ar hT 0 I (u8w qo) (ar hT 0 I (v':=.int .u8 (n % 128+128:Nat)) (by rw[u8w qo];rfl) (lit hT 0 #[.int .u8 (n % 128+128:Nat)] rfl (by decide) qk fun b13=>fin hT 1 rfl (th (sq (rg (ar hT 2 rfl (u64quo n 128 hn) (cl hT 0 rfl (ih (n / 128) qo qo) ?_)))))))))))))));rintro v17 K17 hs17 ⟨h',rfl,rfl,ao',c',rfl,o'⟩;have hu:=uint_le10 (n:=n / 128) qo;refine app hT 0 1 I I (own_byte b13 (n % 128+128) qo) (.inr ⟨0,I⟩) o'.isS I (by decide) (bv_one _) (by dsimp only;omega) (by simp only[maxLen];omega) fun ao18 c18 g18 o18=>fin hT 1 rfl (th (WC.drop (rt ?_)));rw[<-bv_append] at o18;have e1:1+(uint (n / 128)).length=(uint n).length:=by rw[uint_ge (n:=n) qo];simp;omega
  have e2:[UInt8.ofNat (n % 128+128)]++uint (n / 128)=uint n:=by rw[uint_ge (n:=n) qo];rfl
  rw[e1,e2] at o18;exact ret1 I I ⟨g18,I,I,ao18,c18,by rw[e1],o18⟩
theorem putRef{w0:World}{K hb:PH}{hs:List PH}(ao:Option Addr)(cap:Nat)(x:List UInt8)(hm:In K hs hb)(xs:IsS hb ao x.length cap 1 (bv x))(hl:x.length<1099511627776):
  Ct Tryz.prog w0 166 [.slice ao x.length cap] K hs
   (fun v K' hs'=>∃ h',hs'=h'::hs/\K'=K/\∃ ao' c',v=.slice ao' (putBytes x).length c'/\Own h' ao' (putBytes x).length c' 5 1 (bv (putBytes x))):=by
 refine enter Tryz.func166 qk I I I (sq (rg (fin hT 1 I (th (sq (rg (ar hT 2 I (u64w qo) (cl hT 0 I (uintRef x.length qo) ?_))))))));rintro v7 K7 hs7 ⟨h',rfl,rfl,ao',c',rfl,o'⟩;have hu:=uint_le10 (n:=x.length) qo;refine fin hT 1 I (th (sq (rg (app hT 2 0 I I o' (In.cons hm) xs I (by decide) (bv_one _) (by dsimp only;omega) (by simp only[maxLen];omega) fun ao10 c10 g10 o10=>fin hT 1 rfl (th (rt ?_))))));rw[<-bv_append] at o10;have e1:=putBytes_length x;rw[<-e1] at o10;exact ret1 I I ⟨g10,I,I,ao10,c10,by rw[e1],o10⟩
end
section
section rules
variable {P:Program} {T:Tab} {w0:World} {ops:Array Oper} {Q:Exit->Act->World->Prop} {rest rest':List Oper} {n:Nat} {l l':Sl} {K:PH} {hs:List PH}
theorem appB(hT:TabOK P T)(k i:Nat)(xs ys:List UInt8){d:Nat}{si:SlI}{ao ao2:Option Addr}{c1 c2:Nat}{h h2:PH}(h0:apAt T ops n k rest l=some (d,si,(ao,xs.length,c1),(ao2,ys.length,c2),rest',l'))
  (hi:hs[i]?=some h) (hsz:(si.size,si.bytes,si.zero.cells.size)=(1,1,1)) (o:Own h ao xs.length c1 si.elem 1 (bv xs)) (hm:In K hs h2) (x:IsS h2 ao2 ys.length c2 1 (bv ys)) (hb:xs.length+ys.length<=140737488355328)
  (hk:∀ ao' cap' h',Own h' ao' (xs++ys).length cap' si.elem 1 (bv (xs++ys))->WL P w0 ops Q rest' n ((d,.slice ao' (xs++ys).length cap')::l') K (hs.set i h')):WL P w0 ops Q rest n l K hs:=by
 simp only[Prod.mk.injEq] at hsz;obtain ⟨e1,e2,e3⟩:=hsz;refine app hT k i h0 hi (by rw[e1];exact o) hm (by rw[e1];exact x) (by rw[e1,e3]) (by rw[e1];decide) (bv_one _) (by rw[e2];omega) (by simp only[maxLen];omega) fun ao' cap' h' o'=>?_;rw[e1,<-bv_append,<-List.length_append] at o';have:=hk ao' cap' h' o'
 rwa [List.length_append] at this
end rules
theorem In.cons3{K h x y z:PH}{hs:List PH}(hm:In K hs h):In K (x::y::z::hs) h:=In.cons (In.cons (In.cons hm))
theorem In.cons4{K h x y z w:PH}{hs:List PH}(hm:In K hs h):In K (x::y::z::w::hs) h:=In.cons (In.cons3 hm)
end
section
attribute [local irreducible] Code.wp wpList Calls
theorem u64mulN(a b:Nat)(h:a*b<18446744073709551616):Value.int .u64 (IntKind.u64.wrap (((a:Nat):Int)*((b:Nat):Int)))=.int .u64 (a*b:Nat):=by
 rw[<-Int.natCast_mul];exact u64w qo
theorem u64addN(a b:Nat)(h:a+b<18446744073709551616):Value.int .u64 (IntKind.u64.wrap (((a:Nat):Int)+((b:Nat):Int)))=.int .u64 (a+b:Nat):=by
 rw[<-Int.natCast_add];exact u64w qo
theorem u64mul128(i:Nat)(h:i<9):Value.int .u64 (IntKind.u64.wrap (((128 ^ i:Nat):Int)*128))=.int .u64 ((128 ^ (i+1):Nat):Int):=by
 have h1:128 ^ (i+1)<=128 ^ 9:=Nat.pow_le_pow_right (by decide) qo;rw[pow9] at h1;have h2:=u64mulN (128 ^ i) 128 (by rw[<-Nat.pow_succ];omega);rw[Nat.pow_succ];exact h2
theorem numberRef{w0:World}{K hb:PH}{hs:List PH}(ao:Option Addr)(cap:Nat)(b:List UInt8)(hm:In K hs hb)(x:IsS hb ao b.length cap 1 (bv b))(hl:b.length<1099511627776):
  Ct Tryz.prog w0 196 [.slice ao b.length cap] K hs
   (fun v K' hs'=>K'=K/\hs'=hs/\v=.tuple #[.int .u64 ((number 0 0 b).1:Nat),.int .i64 ((number 0 0 b).2.1:Nat),.int .i64 (number 0 0 b).2.2]):=by
 refine enter Tryz.func196 qk I I I (sq (rg (fin hT 3 I (th (sq (rg (fin hT 1 I (th (sq (rg (fin hT 1 I (th (sq (sq (rg (fin hT 1 I (th (bk (loop (σ:=Nat×Nat) (fun s=>[(0,.slice ao b.length cap),(5,.int .u64 (s.2:Nat)),(6,.int .u64 (128 ^ s.1:Nat)),(7,.int .i64 (s.1:Nat))]) (fun _=>K) (fun _=>hs) (fun s=>s.1<=b.length/\s.1<=9/\s.2<128 ^ s.1/\number s.1 s.2 (b.drop s.1)=number 0 0 b) (fun s=>b.length-s.1) (0,0) ⟨Nat.zero_le _,by omega,by simp,I⟩ ⟨I,I,I,I,trivial⟩ I I ?_)))))))))))))))))));rintro ⟨i,acc⟩ ⟨hi,hi9,hacc,hnum⟩;dsimp only at hi hi9 hacc hnum ⊢;refine sq (sq (rg (cmp hT 3 I (fun h1=>?_) (fun h1=>?_))))
 ·have hlt:i<b.length:=by omega
  have hd:b.drop i=b[i]::b.drop (i+1):=List.drop_eq_getElem_cons hlt;rw[hd] at hnum;have hc:=b[i].toNat_lt;generalize hcc:b[i]=c at *;have hm128:c.toNat % 128<128:=Nat.mod_lt _ (by decide);rw[number_cons] at hnum;refine fin hT 0 I (th (ifT I (sk (th (sq (bk (sq (sq (rg (cmp hT 1 I (fun h2=>?_) (fun h2=>?_)))))))))))
  ·refine ix1 hT 3 i I I I x (by rw[bv_get hlt,hcc]) fun a19 hc19=>ld hT 0 I hm hc19<|cmp hT 0 I (fun h3=>?_) (fun h3=>?_)
   ·rw[if_pos ⟨by omega,by omega⟩] at hnum;exact fin hT 1 I (th (ifT I (sq (rg (fin hT 3 I (th (rt (rT (rB (rT (rT (rB (rT (ret3 I I I I ⟨I,I,by rw[<-hnum];rfl⟩))))))))))))))
   ·rw[if_neg qo,if_neg qo] at hnum;have hb1:=mul_pow_lt hi9 hacc hm128 qo;refine fin hT 1 I (th (ifF I (sk (th (sq (rg (ix1 hT 3 i I I I x (by rw[bv_get hlt,hcc]) fun a26 hc26=>ld hT 0 I hm hc26 (ar hT 0 I (u_rem .u8 _ 128) (ar hT 0 I (u64w qo) (ar hT 1 I (u64mulN _ _ qo) (ar hT 0 I (u64addN _ _ hb1.1) (fin hT 1 I (th (sq (rg (ar hT 1 I I (fin hT 1 I (th (sq (rg (ix1 hT 2 i I I I x (by rw[bv_get hlt,hcc]) fun a37 hc37=>ld hT 0 I hm hc37 ?_)))))))))))))))))))));refine cmp hT 0 I (fun h4=>?_) (fun h4=>absurd h4 qo)
    ·refine fin hT 0 I<|th (ifT I<|sq (sq<|rg (ix1 hT 2 i I I I x (by rw[bv_get hlt,hcc]) fun a42 hc42=>ld hT 0 I hm hc42<|cmp hT 0 I (fun h5=>?_) (fun h5=>?_))))
     ·refine cmp hT 2 I (fun h6=>?_) (fun h6=>absurd h6 qo)
      ·rw[if_pos ⟨by omega,by omega⟩] at hnum;exact fin hT 1 I (th (ifT I (sq (rg (fin hT 3 I (th (rt (rT (rB (rT (rT (rB (rT (ret3 I I I I ⟨I,I,by rw[<-hnum];rfl⟩))))))))))))))
     ·rw[if_neg qo] at hnum;exact fin hT 4 I (th (ifF I (sk (th (sq (rg (ar hT 2 I (i64w qo) (fin hT 3 I (th (rt (rB (rT (rT (rB (rT (ret3 I I I I ⟨I,I,by rw[<-hnum];rfl⟩))))))))))))))))
  ·rw[if_neg qo] at hnum;have hb1:=mul_pow_lt hi9 hacc hm128 qo;refine fin hT 7 I (th (ifF I (sk (th (sq (rg (ix1 hT 3 i I I I x (by rw[bv_get hlt,hcc]) fun a26 hc26=>ld hT 0 I hm hc26 (ar hT 0 I (u_rem .u8 _ 128) (ar hT 0 I (u64w qo) (ar hT 1 I (u64mulN _ _ qo) (ar hT 0 I (u64addN _ _ hb1.1) (fin hT 1 I (th (sq (rg (ar hT 1 I (u64mul128 i qo) (fin hT 1 I (th (sq (rg (ix1 hT 2 i I I I x (by rw[bv_get hlt,hcc]) fun a37 hc37=>ld hT 0 I hm hc37 ?_)))))))))))))))))))));refine cmp hT 0 I (fun h7=>?_) (fun h7=>?_)
   ·rw[if_neg qo] at hnum;refine fin hT 0 I (th (ifT I (sq (sq (rg (ix1 hT 2 i I I I x (by rw[bv_get hlt,hcc]) fun a42 hc42=>ld hT 0 I hm hc42 (cmp hT 0 I (fun h8=>?_) (fun h8=>?_))))))))
    ·refine cmp hT 2 I (fun h9=>?_) (fun h9=>?_)
     ·rw[if_pos ⟨by omega,by omega⟩] at hnum;exact fin hT 1 I (th (ifT I (sq (rg (fin hT 3 I (th (rt (rT (rB (rT (rT (rB (rT (ret3 I I I I ⟨I,I,by rw[<-hnum];rfl⟩))))))))))))))
     ·rw[if_neg qo] at hnum;exact fin hT 1 I (th (ifF I (sk (th (sq (rg (ar hT 2 I (i64w qo) (fin hT 3 I (th (rt (rB (rT (rT (rB (rT (ret3 I I I I ⟨I,I,by rw[<-hnum];rfl⟩))))))))))))))))
    ·rw[if_neg qo] at hnum;exact fin hT 4 I (th (ifF I (sk (th (sq (rg (ar hT 2 I (i64w qo) (fin hT 3 I (th (rt (rB (rT (rT (rB (rT (ret3 I I I I ⟨I,I,by rw[<-hnum];rfl⟩))))))))))))))))
   ·rw[if_pos qo] at hnum;exact fin hT 0 I (th (ifF I (sk (bl (th (rg (ar hT 1 I (i64w qo) (fin hT 1 I (again (x:=(i,acc)) (i+1,acc+c.toNat % 128*128 ^ i) ⟨I,I,I,I,trivial⟩ I I ⟨by dsimp only;omega,by dsimp only;omega,hb1.2 qo,hnum⟩ (by dsimp only;omega))))))))))
 ·obtain rfl:i=b.length:=by omega
  exact fin hT 0 I (th (ifF I (ex (xt (xt (xb (th (sq (rg (fin hT 3 I (th (rt (ret3 I I I I ⟨I,I,by rw[<-hnum,List.drop_length];rfl⟩)))))))))))))
def rv(ao:Option Addr)(len cap:Nat)(p:Nat)(e:Int):Value:=.agg #[.slice ao len cap,.int .i64 (p:Nat),.int .i64 e]
theorem endRef{w0:World}{K:PH}{hs:List PH}(ao:Option Addr)(cap:Nat)(b:List UInt8)(p:Nat)(e:Int)(hp:p<=b.length):
  Ct Tryz.prog w0 194 [rv ao b.length cap p e] K hs (fun v K' hs'=>K'=K/\hs'=hs/\v=.int .i64 (rEnd (b.drop p,e))):=by
 refine enter Tryz.func194 qk I I I<|sq (rg (bx hT 0 I fun b1=>fin hT 1 I<|th (sq<|sq (rg<|ldp hT 1 0 I I I (cmp hT 0 I (fun h1=>?_) (fun h1=>?_))))))
 ·refine ldp hT 2 0 I I I<|ldp hT 1 0 I I I (cmp hT 1 I (fun h2=>?_) (fun h2=>?_))
  ·refine fin hT 1 I (th (ifT I (sq (rg (fin hT 1 I (th (rt (rT (WQ.drop ?_)))))))));have hun:rEnd (b.drop p,e)=23:=if_pos ⟨h1,by simp;omega⟩;rw[hun];exact ret1 I I ⟨I,I,I⟩
  ·refine fin hT 1 I (th (ifF I (sk (th (sq (rg (ldp hT 1 0 I I I (fin hT 1 I (th (rt (WQ.drop ?_)))))))))));have hun:rEnd (b.drop p,e)=e:=if_neg (by simp;omega);rw[hun];exact ret1 I I ⟨I,I,I⟩
 ·refine fin hT 8 I (th (ifF I (sk (th (sq (rg (ldp hT 1 0 I I I (fin hT 1 I (th (rt (WQ.drop ?_)))))))))));have hun:rEnd (b.drop p,e)=e:=if_neg (fun h=>h1 h.1);rw[hun];exact ret1 I I ⟨I,I,I⟩
theorem byteRef{w0:World}{K hb:PH}{hs:List PH}(ao:Option Addr)(cap:Nat)(b:List UInt8)(hm:In K hs hb)(x:IsS hb ao b.length cap 1 (bv b))(hl:b.length<1099511627776)(p:Nat)(e:Int)(hp:p<=b.length):
  Ct Tryz.prog w0 190 [rv ao b.length cap p e] K hs
   (fun v K' hs'=>K'=K/\hs'=hs/\∃ p',p'<=b.length/\v=.tuple #[rv ao b.length cap p' (rByte (b.drop p,e)).2.2,.int .u8 ((rByte (b.drop p,e)).1:Nat)]/\(rByte (b.drop p,e)).2.1=b.drop p'):=by
 refine enter Tryz.func190 qk I I I<|sq (rg (bx hT 0 I fun b1=>al hT 0 (.agg #[.slice none 0 0,.int .i64 0,.int .i64 0]) I qk fun b2=>fin hT 1 I<|th (sq<|sq (rg<|ldp hT 1 1 I I I (cmp hT 0 I (fun h1=>?_) (fun h1=>?_))))))
 ·refine ldp hT 2 1 I I I<|ldp hT 1 1 I I I (cmp hT 1 I (fun h2=>?_) (fun h2=>?_))
  ·refine fin hT 1 I<|th (ifT I<|rg (stp hT 1 1 I I I I<|fin hT 0 I (th<|sq (sq<|rg (ldp hT 1 1 I I I<|cmp hT 0 I (fun h3=>?_) (fun h3=>absurd (by decide) h3))))))
   ·refine fin hT 0 I (th (ifT I (sq (rg (ldS hT 0 1 I I qk (stS hT 0 0 I I qk I I (fin hT 1 I (th (rt (rT ?_))))))))));have hd:b.drop p=[]:=List.drop_eq_nil_of_le qo;have hun:rByte (b.drop p,e)=(0,([],20)):=by rw[hd,h1];rfl
    rw[hun];exact retcP 0 2 I I I I qk ⟨I,I,p,hp,I,hd.symm⟩
  ·refine fin hT 1 I<|th (ifF I<|sk (th<|sq (sq<|rg (ldp hT 1 1 I I I<|cmp hT 0 I (fun h4=>absurd h1 h4) (fun h4=>?_)))))
   ·refine fin hT 0 I (th (ifF I (sk (th (sq (rg (ldp hT 1 1 I I I (ldp hT 1 1 I I I ?_))))))));have hlt:p<b.length:=by omega
    refine ix1 hT 0 p I I I x (bv_get hlt) fun a25 hc25=>ld hT 0 I (In.cons (In.cons hm)) hc25 (fin hT 1 I (th (sq (rg (ldp hT 1 1 I I I (ar hT 0 I (i64w qo) (stp hT 1 1 I I I I (fin hT 0 I (th (sq (rg (ldS hT 0 1 I I qk (stS hT 1 0 I I qk I I (fin hT 1 I (th (rt ?_))))))))))))))));have hun:rByte (b.drop p,e)=(b[p].toNat,(b.drop (p+1),0)):=by rw[List.drop_eq_getElem_cons hlt,h1];rfl
    rw[hun];subst h1;exact retcP 0 2 I I I I qk ⟨I,I,p+1,hlt,I,I⟩
 ·refine fin hT 8 I<|th (ifF I<|sk (th<|sq (sq<|rg (ldp hT 1 1 I I I<|cmp hT 0 I (fun h5=>?_) (fun h5=>absurd h1 h5)))))
  ·refine fin hT 0 I (th (ifT I (sq (rg (ldS hT 0 1 I I qk (stS hT 0 0 I I qk I I (fin hT 1 I (th (rt (rT ?_))))))))));have hun:rByte (b.drop p,e)=(0,(b.drop p,e)):=if_neg h1;rw[hun];exact retcP 0 2 I I I I qk ⟨I,I,p,hp,I,I⟩
theorem getUintRef{w0:World}{K hb:PH}{hs:List PH}(ao:Option Addr)(cap:Nat)(b:List UInt8)(hm:In K hs hb)(x:IsS hb ao b.length cap 1 (bv b))(hl:b.length<1099511627776)(p:Nat)(e:Int)(hp:p<=b.length)(most:Nat):
  Ct Tryz.prog w0 191 [rv ao b.length cap p e,.int .u64 (most:Nat)] K hs
   (fun v K' hs'=>K'=K/\hs'=hs/\∃ p',p'<=b.length/\v=.tuple #[rv ao b.length cap p' (rUint most (b.drop p,e)).2.2,.int .u64 ((rUint most (b.drop p,e)).1:Nat)]/\(rUint most (b.drop p,e)).2.1=b.drop p'):=by
 refine enter Tryz.func191 qk I I I<|sq (rg (bx hT 0 I fun b2=>al hT 0 (.agg #[.slice none 0 0,.int .i64 0,.int .i64 0]) I qk fun b4=>fin hT 1 I<|th (sq<|sq (rg<|ldp hT 1 1 I I I (cmp hT 0 I (fun h1=>?_) (fun h1=>?_))))))
 ·refine fin hT 0 I (th (ifT I (sq (rg (ldS hT 0 1 I I qk (stS hT 0 0 I I qk I I (fin hT 1 I (th (rt (rT ?_))))))))));have hun:rUint most (b.drop p,e)=(0,(b.drop p,e)):=if_neg h1;rw[hun];exact retcP 0 2 I I I I qk ⟨I,I,p,hp,I,I⟩
 ·refine fin hT 0 I (th (ifF I (sk (th (sq (rg ?_))))));obtain rfl:e=0:=Decidable.not_not.1 h1;refine ldp hT 1 1 I I I (ldp hT 1 1 I I I (sl hT 0 p (b.length-p) I x I (by simp;omega) qo (ys:=bv (b.drop p)) (by simp only[bv,Nat.mul_one,<-List.map_drop,<-List.map_take];rw[List.take_of_length_le (by simp)]) fun ao18 c18 x18=>?_));have e1:b.length-p=(b.drop p).length:=by simp
  rw[e1] at x18 ⊢;refine cl hT 0 I (numberRef ao18 c18 (b.drop p) (In.cons (In.cons hm)) x18 qo) ?_;rintro v19 K19 hs19 ⟨rfl,rfl,rfl⟩;have hun:rUint most (b.drop p,0)=(let x:=number 0 0 (b.drop p);if x.2.2=0 then (if most<x.1 then (0,(b.drop p,22)) else (x.1,((b.drop p).drop x.2.1,0))) else (0,(b.drop p,x.2.2))):=rfl;obtain ⟨hbd1,hbd2,_⟩:=number_bd (b.drop p) 0 0 qo (by simp);generalize number 0 0 (b.drop p)=N at *;obtain ⟨nn,kk,ee⟩:=N;dsimp only at hun hbd1 hbd2 ⊢;refine fin hT 7 I (th (sq (sq (rg (cmp hT 1 I (fun h2=>?_) (fun h2=>?_))))))
  ·subst h2;rw[if_pos rfl] at hun;refine cmp hT 3 I (fun h3=>?_) (fun h3=>?_)
   ·rw[if_pos qo] at hun;refine fin hT 1 I (th (ifT I (rg (fin hT 1 I (th (sq (sq (rg (cmp hT 1 I (fun h4=>?_) (fun h4=>absurd (by decide) h4))))))))))
    ·refine fin hT 0 I (th (ifT I (sq (rg (stp hT 2 1 I I I I (fin hT 0 I (th (sq (rg (ldS hT 0 1 I I qk (stS hT 0 0 I I qk I I (fin hT 1 I (th (rt (rT ?_)))))))))))))));rw[hun];exact retcP 0 2 I I I I qk ⟨I,I,p,hp,I,I⟩
   ·rw[if_neg qo] at hun;refine fin hT 1 I (th (ifF I (sk (th (sq (sq (rg (cmp hT 1 I (fun h5=>absurd I h5) (fun h5=>?_)))))))))
    ·refine fin hT 0 I (th (ifF I (sk (th (sq (rg (ldp hT 1 1 I I I (ar hT 1 I (v':=.int .i64 (p+kk:Nat)) (by rw[i64w qo];rfl) (stp hT 1 1 rfl rfl rfl rfl (fin hT 0 rfl (th (sq (rg (ldS hT 0 1 rfl rfl qk (stS hT 1 0 rfl rfl qk rfl rfl (fin hT 1 rfl (th (rt ?_))))))))))))))))));rw[hun];have hkk:p+kk<=b.length:=by omega
     exact retcP 0 2 I I I I qk ⟨I,I,p+kk,hkk,I,by rw[List.drop_drop]⟩
  ·rw[if_neg h2] at hun;refine fin hT 5 I (th (ifF I (sk (th (sq (sq (rg (cmp hT 1 I (fun h6=>?_) (fun h6=>absurd h2 h6)))))))))
   ·refine fin hT 0 I (th (ifT I (sq (rg (stp hT 2 1 I I I I (fin hT 0 I (th (sq (rg (ldS hT 0 1 I I qk (stS hT 0 0 I I qk I I (fin hT 1 I (th (rt (rT ?_)))))))))))))));rw[hun];exact retcP 0 2 I I I I qk ⟨I,I,p,hp,I,I⟩
end
section
attribute [local irreducible] Code.wp wpList Calls
theorem getBytesRef{w0:World}{K hb:PH}{hs:List PH}(ao:Option Addr)(cap:Nat)(b:List UInt8)(hm:In K hs hb)(x:IsS hb ao b.length cap 1 (bv b))(hl:b.length<1099511627776)(p:Nat)(e:Int)(hp:p<=b.length)(most:Int)(hmost:most<=9223372036854775807):
  Ct Tryz.prog w0 192 [rv ao b.length cap p e,.int .i64 most] K hs
   (fun v K' hs'=>K'=K/\∃ h',hs'=h'::hs/\∃ p',p'<=b.length/\∃ ao' c',v=.tuple #[rv ao b.length cap p' (rBytes most (b.drop p,e)).2.2,.slice ao' (rBytes most (b.drop p,e)).1.length c']/\(rBytes most (b.drop p,e)).2.1=b.drop p'/\Own h' ao' (rBytes most (b.drop p,e)).1.length c' 5 1 (bv (rBytes most (b.drop p,e)).1)):=by
 refine enter Tryz.func192 qk I I I (sq (rg (bx hT 0 I fun b2=>al hT 0 (.agg #[.slice none 0 0,.int .i64 0,.int .i64 0]) I qk fun b4=>fin hT 1 I (th (sq (rg (ldS hT 0 1 I I qk (ar hT 2 I (v':=.int .u64 (most.toNat:Nat)) (by split <;> rw[u64w qo] <;> congr 1 <;> omega) (cl hT 0 rfl (getUintRef ao cap b (In.cons (In.cons hm)) x hl p e hp most.toNat) ?_)))))))));rintro v14 K14 hs14 ⟨rfl,rfl,p1,hp1,rfl,hd1⟩;have hres:rBytes most (b.drop p,e)=(let x:=rUint most.toNat (b.drop p,e);if x.2.2=0 then (if x.2.1.length<x.1 then ([],(b.drop p,20)) else (x.2.1.take x.1,(x.2.1.drop x.1,0))) else ([],x.2)):=rfl;obtain ⟨hn,_⟩:=rUint_bd most.toNat (b.drop p) e;generalize rUint most.toNat (b.drop p,e)=U at *;obtain ⟨nn,bb,ee⟩:=U;dsimp only at hres hn hd1 ⊢;subst hd1;rw[List.length_drop] at hres;refine al hT 3 (.agg #[.slice none 0 0,.int .i64 0,.int .i64 0]) I qk fun b6=>stS hT 0 0 I I qk I I (fin hT 1 I (th (sq (sq (rg (ldp hT 1 0 I I I (cmp hT 0 I (fun h1=>?_) (fun h1=>?_))))))))
 ·refine fin hT 0 I (th (ifT I (sq (rg (ldS hT 0 0 I I qk (stS hT 0 1 I I qk I I (fin hT 1 I (th (rt (rT (WQ.em (WQ.perm (List.perm_middle (l₁:=[_,_,_])).symm ?_))))))))))));rw[hres,if_neg h1];exact retcP 1 3 I I I I qk ⟨I,En.em,I,p1,hp1,none,0,I,I,Own.nil _ _⟩
 ·obtain rfl:ee=0:=Decidable.not_not.1 h1;rw[if_pos rfl] at hres;refine fin hT 0 I (th (ifF I (sk (th (sq (sq (rg (ldp hT 2 0 I I I (ldp hT 2 0 I I I (ar hT 0 I (v':=.int .i64 (b.length-p1:Nat)) (by rw[i64w qo];congr 1;omega) (ar hT 0 rfl (u64w qo) (cmp hT 0 rfl (fun h2=>?_) (fun h2=>?_)))))))))))))
  ·rw[if_pos qo] at hres;refine fin hT 0 I (th (ifT I (sq (rg (stp hT 1 2 I I I I (fin hT 0 I (th (sq (rg (ldS hT 0 2 I I qk (stS hT 0 1 I I qk I I (fin hT 1 I (th (rt (rT (WQ.em (WQ.perm (List.perm_middle (l₁:=[_,_,_])).symm ?_)))))))))))))))));rw[hres];exact retcP 1 3 I I I I qk ⟨I,En.em,I,p,hp,none,0,I,I,Own.nil _ _⟩
  ·rw[if_neg qo] at hres;refine fin hT 0 I (th (ifF I (sk (th (sq (rg (lit hT 0 #[] I (by decide) qk fun b32=>ldp hT 1 1 I I I (ldp hT 1 1 I I I (ldp hT 1 1 I I I (ar hT 1 I (i64w qo) (ar hT 0 I (v':=.int .i64 (p1+nn:Nat)) (by rw[i64w qo];rfl) (sl hT 0 p1 nn rfl x rfl rfl qo (ys:=bv ((b.drop p1).take nn)) (by simp[bv,List.map_drop,List.map_take]) fun ao42 c42 x42=>app hT 0 0 rfl rfl (Own.ofPt (c:=#[]) (n:=0) (size:=1) (by simp) (by simp[maxLen])) (In.cons (In.cons (In.cons (In.cons hm)))) x42 rfl (by decide) (bv_one _) (by dsimp only;omega) (by simp only[maxLen];omega) fun ao43 c43 g43 o43=>?_))))))))))));have e1:0+nn=((b.drop p1).take nn).length:=by simp;omega
   have e2:(#[]:Array Value).toList++bv ((b.drop p1).take nn)=bv ((b.drop p1).take nn):=rfl;rw[e1,e2] at o43;refine fin hT 1 I (th (sq (rg (ldp hT 1 1 I I I (ar hT 1 I (i64w qo) (ar hT 0 I (v':=.int .i64 (p1+nn:Nat)) (by rw[i64w qo];rfl) (stp hT 1 1 rfl rfl rfl rfl (fin hT 0 rfl (th (sq (rg (ldS hT 0 1 rfl rfl qk (stS hT 1 2 rfl rfl qk rfl rfl (fin hT 1 rfl (th (rt (WQ.perm (List.perm_middle (l₁:=[_,_,_])).symm ?_)))))))))))))))));rw[hres,e1];exact retcP 1 3 I I I I qk ⟨I,g43,I,p1+nn,by omega,ao43,c43,I,by rw[List.drop_drop],o43⟩
theorem un4_drop(q:List UInt8)(i:Nat)(h:i<q.length):un4 (q.drop i)=q[i].toNat+256*un4 (q.drop (i+1)):=by
 rw[List.drop_eq_getElem_cons h,un4]
end
section
attribute [local irreducible] Code.wp wpList Calls
def OutB(o:Option (List UInt8))(hs:List PH)(v:Value)(hs':List PH):Prop:=
 ∃ h ao c,hs'=h::hs/\v=.tuple #[.slice ao (ob o).length c,.int .i64 (ec o)]/\Own h ao (ob o).length c 5 1 (bv (ob o))
theorem outN{o:Option (List UInt8)}{hs:List PH}(h:o=none):OutB o hs (.tuple #[.slice none 0 0,.int .i64 170]) (em::hs):=by subst h;exact ⟨em,none,0,I,I,Own.nil _ _⟩
theorem outS{o:Option (List UInt8)}{hs:List PH}{l:List UInt8}{h:PH}{ao:Option Addr}{c:Nat}(e:o=some l)(x:Own h ao l.length c 5 1 (bv l)):OutB o hs (.tuple #[.slice ao l.length c,.int .i64 0]) (h::hs):=by subst e;exact ⟨h,ao,c,I,I,x⟩
theorem putCmd_no{c:Cmd}(h:¬c.ok):putCmd c=none:=if_neg h
theorem rByte_lt(s:Rd):(rByte s).1<256:=by
 obtain ⟨b,e⟩:=s;unfold rByte;dsimp only
 split
 ·cases b with
  | nil=>decide
  | cons c r=>exact c.toNat_lt
 ·show (0:Nat)<256;omega
theorem rByte_len(s:Rd):(rByte s).2.1.length<=s.1.length:=by
 obtain ⟨b,e⟩:=s;unfold rByte;dsimp only
 split
 ·cases b <;> simp
 ·exact Nat.le_refl _
theorem rUint_len(m:Nat)(s:Rd):(rUint m s).2.1.length<=s.1.length:=(rUint_bd m s.1 s.2).2
theorem rBytes_len(m:Int)(s:Rd):(rBytes m s).1.length<=s.1.length/\(rBytes m s).2.1.length<=s.1.length:=rBytes_bd m s.1 s.2
theorem getCmdR_2{b:List UInt8}(h:(rByte (b,0)).1=2):getCmdR b=(⟨2,(rUint mxU (rByte (b,0)).2).1,(rUint mxU (rUint mxU (rByte (b,0)).2).2).1,(rBytes 96 (rUint mxU (rUint mxU (rByte (b,0)).2).2).2).1,(rUint 1073741824 (rBytes 96 (rUint mxU (rUint mxU (rByte (b,0)).2).2).2).2).1⟩,(rUint 1073741824 (rBytes 96 (rUint mxU (rUint mxU (rByte (b,0)).2).2).2).2).2):=by
 unfold getCmdR;dsimp only;rw[if_neg qo,if_pos (.inl h),if_pos h]
theorem getCmdR_3{b:List UInt8}(h:(rByte (b,0)).1=3):getCmdR b=(⟨3,(rUint mxU (rByte (b,0)).2).1,(rUint mxU (rUint mxU (rByte (b,0)).2).2).1,(rBytes 96 (rUint mxU (rUint mxU (rByte (b,0)).2).2).2).1,0⟩,(rBytes 96 (rUint mxU (rUint mxU (rByte (b,0)).2).2).2).2):=by
 unfold getCmdR;dsimp only;rw[if_neg qo,if_pos (.inr h),if_neg qo]
theorem getCmdR_1{b:List UInt8}(h:(rByte (b,0)).1=1):getCmdR b=(⟨1,0,0,[],0⟩,(rByte (b,0)).2):=by
 unfold getCmdR;dsimp only;rw[if_pos h]
theorem getCmdR_n{b:List UInt8}(h1:¬(rByte (b,0)).1=1)(h2:¬(rByte (b,0)).1=2)(h3:¬(rByte (b,0)).1=3):getCmdR b=(⟨(rByte (b,0)).1,0,0,[],0⟩,((rByte (b,0)).2.1,if (rByte (b,0)).2.2=0 then 170 else (rByte (b,0)).2.2)):=by
 unfold getCmdR;dsimp only;rw[if_neg h1,if_neg qo]
theorem getCmdC{w0:World}{K hb:PH}{hs:List PH}(ao:Option Addr)(cap:Nat)(b:List UInt8)(hm:In K hs hb)(x:IsS hb ao b.length cap 1 (bv b))(hl:b.length<1099511627776):
  Ct Tryz.prog w0 145 [.slice ao b.length cap] K hs (fun v K' hs'=>K'=K/\hs'=hs/\v=.tuple #[.agg ((getCmd b).getD Cmd.zero).v,.int .i64 (ec (getCmd b))]):=by
 refine enter Tryz.func145 qk I I I (sq (rg (al hT 0 (.agg #[.int .i64 0,.int .u64 0,.int .u64 0,.string ⟨#[]⟩,.int .i64 0]) I qk fun b2=>fin hT 1 I (th (sq (rg (cl hT 1 I (readC ao cap b (In.cons hm) x hl) ?_)))))));rintro v7 K7 hs7 ⟨rfl,rb,h,hb',rfl,rfl,rd⟩;refine fin hT 1 I (th (sq (rg (cl hT 1 I (byteC (.inr ⟨0,I⟩) (b,0) rd) ?_))));rintro v9 K9 hs9 ⟨h1,rfl,rfl,rfl,rd1⟩;have hk256:=rByte_lt (b,0);have hl1:=rByte_len (b,0);have hl2:=rUint_len mxU (rByte (b,0)).2;have hl3:=rUint_len mxU (rUint mxU (rByte (b,0)).2).2;have hl4:=(rBytes_len 96 (rUint mxU (rUint mxU (rByte (b,0)).2).2).2).2;dsimp only at hl1 hk256;refine ar hT 0 I (i64w qo) (bd hT 0 (.agg (Cmd.mk ((rByte (b,0)).1:Nat) 0 0 [] 0).v) I (fun w=>by kernel_rfl) (al hT 0 (.agg #[.int .i64 0,.int .u64 0,.int .u64 0,.string ⟨#[]⟩,.int .i64 0]) I qk fun b5=>stS hT 0 0 I I qk I I (fin hT 0 I (th (jn (σ:=Cmd×Rd×PH) (fun s=>[(2,.pointer (some ⟨b2,0,none⟩)),(4,.pointer (some ⟨rb,0,none⟩)),(5,.pointer (some ⟨b5,0,none⟩))]) (fun s=>pt b5 s.1.v 212::s.2.2::hb'::pt b2 Cmd.zero.v 212::hs) (fun s=>(s.1,s.2.1)=getCmdR b/\IsRd rb hb' s.2.1 s.2.2) ?_ ?_)))))
 ·refine sq<|rg (ldp hT 1 0 I I I<|fin hT 0 I (th<|bk (sq<|rg (cmpS hT 0 I fun b17 h17=>fin hT 1 I<|th (ifP h17 I (fun e2=>?_) (fun e2=>?_))))))
  ·exact sk (bl (jx (⟨1,0,0,[],0⟩,(rByte (b,0)).2,h1) ⟨(getCmdR_1 (by have:((rByte (b,0)).1:Int)=1:=e2;omega)).symm,rd1⟩ ⟨rfl,rfl,rfl,trivial⟩ rfl (congrArg (fun k:Int=>pt b5 (Cmd.mk k 0 0 [] 0).v 212::h1::hb'::pt b2 Cmd.zero.v 212::hs) e2)))
  ·refine sq<|sq (rg (cmpS hT 0 I fun b19 h19=>fin hT 1 I<|th (ifP h19 I (fun e4=>?_) (fun e4=>?_))))
   ·refine sk (th (ifPT h19 e4 I (sq (rg (cl hT 1 I (Ct.at 1 I (uintC (.inr ⟨1,I⟩) mxU _ qo rd1)) ?_)))));rintro v22 K22 hs22 ⟨h2,rfl,rfl,rfl,rd2⟩;refine stp hT 1 0 I I I I (fin hT 0 I (th (sq (rg (cl hT 1 I (Ct.at 1 I (uintC (.inr ⟨1,I⟩) mxU _ qo rd2)) ?_)))));rintro v25 K25 hs25 ⟨h3,rfl,rfl,rfl,rd3⟩;refine stp hT 1 0 I I I I (fin hT 0 I (th (sq (rg (cl hT 1 I (Ct.atN 1 I (bytesC (.inr ⟨1,I⟩) 96 qo _ qo rd3)) ?_)))));rintro v28 K28 hs28 ⟨h4,new,rfl,rfl,hx,aox,cx,rfl,rfl,ox,rd4⟩;refine cvs hT 0 _ I (.inr ⟨0,I⟩) ox.isS qk (stp hT 1 1 I I I I (fin hT 0 I (th (WC.drop (sq (rg (ldp hT 1 0 I I I (cmpS hT 0 I fun b33 h33=>fin hT 0 I (th (ifP h33 I (fun e6=>?_) (fun e6=>?_)))))))))))
    ·refine rg (cl hT 1 I (Ct.at 1 I (uintC (.inr ⟨1,I⟩) 1073741824 _ qo rd4)) ?_);rintro v35 K35 hs35 ⟨h5,rfl,rfl,rfl,rd5⟩;have hw30:=rUint_le 1073741824 (rBytes 96 (rUint mxU (rUint mxU (rByte (b,0)).2).2).2).2;exact ar hT 0 I (i64w qo) (stp hT 1 0 I I I I (fin hT 0 I (bl (jx (⟨2,(rUint mxU (rByte (b,0)).2).1,(rUint mxU (rUint mxU (rByte (b,0)).2).2).1,(rBytes 96 (rUint mxU (rUint mxU (rByte (b,0)).2).2).2).1,(rUint 1073741824 (rBytes 96 (rUint mxU (rUint mxU (rByte (b,0)).2).2).2).2).1⟩,(rUint 1073741824 (rBytes 96 (rUint mxU (rUint mxU (rByte (b,0)).2).2).2).2).2,h5) ⟨(getCmdR_2 (by have:((rByte (b,0)).1:Int)=2:=e4;omega)).symm,rd5⟩ ⟨rfl,rfl,rfl,trivial⟩ rfl (congrArg (fun k:Int=>pt b5 (Cmd.mk k (rUint mxU (rByte (b,0)).2).1 (rUint mxU (rUint mxU (rByte (b,0)).2).2).1 (rBytes 96 (rUint mxU (rUint mxU (rByte (b,0)).2).2).2).1 (rUint 1073741824 (rBytes 96 (rUint mxU (rUint mxU (rByte (b,0)).2).2).2).2).1).v 212::h5::hb'::pt b2 Cmd.zero.v 212::hs) e4)))))
    ·refine absurd e4 e6
   ·refine rg (cmpS hT 0 I fun b20 h20=>fin hT 1 I<|th (ifP h20 I (fun e8=>?_) (fun e8=>?_)))
    ·refine sq (rg (cl hT 1 I (Ct.at 1 I (uintC (.inr ⟨1,I⟩) mxU _ qo rd1)) ?_));rintro v22 K22 hs22 ⟨h2,rfl,rfl,rfl,rd2⟩;refine stp hT 1 0 I I I I (fin hT 0 I (th (sq (rg (cl hT 1 I (Ct.at 1 I (uintC (.inr ⟨1,I⟩) mxU _ qo rd2)) ?_)))));rintro v25 K25 hs25 ⟨h3,rfl,rfl,rfl,rd3⟩;refine stp hT 1 0 I I I I (fin hT 0 I (th (sq (rg (cl hT 1 I (Ct.atN 1 I (bytesC (.inr ⟨1,I⟩) 96 qo _ qo rd3)) ?_)))));rintro v28 K28 hs28 ⟨h4,new,rfl,rfl,hx,aox,cx,rfl,rfl,ox,rd4⟩;refine cvs hT 0 _ I (.inr ⟨0,I⟩) ox.isS qk (stp hT 1 1 I I I I (fin hT 0 I (th (WC.drop (sq (rg (ldp hT 1 0 I I I (cmpS hT 0 I fun b33 h33=>fin hT 0 I (th (ifP h33 I (fun e10=>?_) (fun e10=>?_)))))))))))
     ·refine absurd e10 (by rw[show ((rByte (b,0)).1:Int)=3 from e8];decide)
     ·exact sk (bl (jx (⟨3,(rUint mxU (rByte (b,0)).2).1,(rUint mxU (rUint mxU (rByte (b,0)).2).2).1,(rBytes 96 (rUint mxU (rUint mxU (rByte (b,0)).2).2).2).1,0⟩,(rBytes 96 (rUint mxU (rUint mxU (rByte (b,0)).2).2).2).2,h4) ⟨(getCmdR_3 (by have:((rByte (b,0)).1:Int)=3:=e8;omega)).symm,rd4⟩ ⟨rfl,rfl,rfl,trivial⟩ rfl (congrArg (fun k:Int=>pt b5 (Cmd.mk k (rUint mxU (rByte (b,0)).2).1 (rUint mxU (rUint mxU (rByte (b,0)).2).2).1 (rBytes 96 (rUint mxU (rUint mxU (rByte (b,0)).2).2).2).1 0).v 212::h4::hb'::pt b2 Cmd.zero.v 212::hs) e8)))
    ·refine rg (cl hT 1 I (Ct.at 1 I (failC (rByte (b,0)).2 170 rd1)) ?_);rintro v15 K15 hs15 ⟨h2,rfl,rfl,rfl,rd2⟩;exact fin hT 0 I (bl (jx (⟨((rByte (b,0)).1:Nat),0,0,[],0⟩,((rByte (b,0)).2.1,if (rByte (b,0)).2.2=0 then 170 else (rByte (b,0)).2.2),h2) ⟨(getCmdR_n (fun h=>e2 (show ((rByte (b,0)).1:Int)=1 by omega)) (fun h=>e4 (show ((rByte (b,0)).1:Int)=2 by omega)) (fun h=>e8 (show ((rByte (b,0)).1:Int)=3 by omega))).symm,rd2⟩ ⟨I,I,I,trivial⟩ I I))
 ·clear rd rd1;rintro ⟨c,s,h⟩ ⟨hc,rd⟩;dsimp only at hc rd ⊢;refine sq (sq (rg (cl hT 1 I (Ct.keep 1 I (endC s rd)) ?_)));rintro v39 K39 hs39 ⟨rfl,rfl,rfl⟩;refine cmpS hT 0 I fun b40 h40=>?_;have hg:getCmd b=if rEnd s=0 then some c else none:=by rw[getCmd,<-hc]
  refine fin hT 0 I<|th (ifP h40 I (fun e12=>?_) (fun e12=>?_))
  ·exact sq (rg (bd hT 0 (.agg Cmd.zero.v) I (fun w=>by kernel_rfl) (stS hT 0 3 I I qk I I (fin hT 1 I (th (rt (rT (retcP 3 4 I I I I qk ⟨I,I,by rw[hg,if_neg e12];rfl⟩))))))))
  ·exact sk (th (sq (rg (ldS hT 0 0 I I qk (stS hT 0 3 I I qk I I (fin hT 1 I (th (rt (retcP 3 4 I I I I qk ⟨I,I,by rw[hg,if_pos (by simpa using e12)];rfl⟩)))))))))
def uv(l:List Nat):List Value:=l.map fun n=>Value.int .u64 (n:Nat)
theorem uv_get{l:List Nat}{j:Nat}(h:j<l.length):(uv l)[j]?=some (.int .u64 (l[j]:Nat)):=by simp[uv,h]
def us:List Nat->List UInt8
 | []=>[]
 | n::r=>uint n++us r
theorem us_append:∀ (l r:List Nat),us (l++r)=us l++us r
 | [],r=>rfl
 | n::l,r=>by simp[us,us_append l r]
theorem us_len:∀ (l:List Nat),(∀ n∈l,n<18446744073709551616)->(us l).length<=10*l.length
 | [],_=>Nat.le_refl _
 | n::l,h=>by
  have h1:=us_len l (fun x hx=>h x (by simp[hx]));have h2:=uint_le10 (h n (by simp));simp only[us,List.length_append,List.length_cons];omega
theorem uintsRef{w0:World}{K h hl:PH}{R:List PH}(ao:Option Addr)(c1:Nat)(bs:List UInt8)(al:Option Addr)(cl':Nat)(ns:List Nat)(o:Own h ao bs.length c1 5 1 (bv bs))(hm:In K R hl)(x:IsS hl al ns.length cl' 1 (uv ns))
  (hns:∀ n∈ns,n<18446744073709551616) (hb:bs.length<1099511627776) (hl':ns.length<1099511627776):
  Ct Tryz.prog w0 165 [.slice ao bs.length c1,.slice al ns.length cl'] K (h::R)
   (fun v K' hs'=>∃ h',hs'=h'::R/\K'=K/\∃ ao' c',v=.slice ao' (bs++us ns).length c'/\Own h' ao' (bs++us ns).length c' 5 1 (bv (bs++us ns))):=by
 refine enter Tryz.func165 qk I I I (sq (rg (fin hT 1 I (th (sq (sq (rg (fin hT 1 I (th (bk (loop (σ:=Nat×Option Addr×Nat×PH) (fun s=>[(0,.slice s.2.1 (bs++us (ns.take s.1)).length s.2.2.1),(1,.slice al ns.length cl'),(5,.int .i64 (s.1:Nat))]) (fun _=>K) (fun s=>s.2.2.2::R) (fun s=>s.1<=ns.length/\Own s.2.2.2 s.2.1 (bs++us (ns.take s.1)).length s.2.2.1 5 1 (bv (bs++us (ns.take s.1)))) (fun s=>ns.length-s.1) (0,ao,c1,h) (by simpa[us] using o) (by simp only[us,List.take_zero,List.append_nil];exact ⟨I,I,I,trivial⟩) I I ?_)))))))))));rintro ⟨i,ao,c1,h⟩ ⟨hi,o⟩;dsimp only at hi o ⊢;refine sq (sq (rg (cmpS hT 3 I fun b10 h10=>fin hT 0 I (th (ifP h10 I (fun e2=>?_) (fun e2=>?_))))));have hus:=us_len (ns.take i) (fun n hn=>hns n (List.mem_of_mem_take hn));have hlt:(ns.take i).length<=ns.length:=by simp;omega
 ·have hin:i<ns.length:=by omega
  refine sk (th (sq (bk (sq (rg (ix1 hT 2 i I I I x (uv_get hin) fun a15 hc15=>ld hT 0 I (In.cons hm) hc15 (cl hT 0 I (uintRef ns[i] (hns _ (List.getElem_mem hin))) ?_)))))));rintro v17 K17 hs17 ⟨g17,rfl,rfl,ao17,c17,rfl,o17⟩;have hu:=uint_le10 (hns _ (List.getElem_mem hin));refine fin hT 1 I (th (rg (appB hT 2 1 (bs++us (ns.take i)) (uint ns[i]) I I I o (.inr ⟨0,I⟩) o17.isS (by simp only[List.length_append];omega) fun ao20 c20 g20 o20=>?_)));have e:bs++us (ns.take i)++uint ns[i]=bs++us (ns.take (i+1)):=by rw[List.append_assoc,take_succ_get ns i hin,us_append];simp[us]
  rw[e] at o20 ⊢;exact fin hT 1 I (bl (th (WC.drop (rg (ar hT 1 I (i64w qo) (fin hT 1 I (again (x:=(i,ao,c1,h)) (i+1,ao20,c20,g20) ⟨I,I,I,trivial⟩ I I ⟨by omega,o20⟩ (by dsimp only;omega))))))))
 ·refine ex (xt (xt (xb (th (sq (rg ?_))))));obtain rfl:i=ns.length:=by omega
  rw[List.take_of_length_le (Nat.le_refl _)] at o ⊢;exact fin hT 2 I (th (rt (ret1 I I ⟨h,I,I,ao,c1,I,o⟩)))
theorem putCmdRef{w0:World}{K:PH}{hs:List PH}(c:Cmd)(hs1:c.ses<18446744073709551616)(hs2:c.seq<18446744073709551616):
  Ct Tryz.prog w0 193 [.agg c.v] K hs (fun v K' hs'=>K'=K/\OutB (putCmd c) hs v hs'):=by
 refine enter Tryz.func193 qk I I I<|sq (rg (bx hT 0 I fun b1=>fin hT 2 I<|th (sq<|sq (rg<|ldp hT 1 0 I I I (cmpS hT 0 I fun b8 h8=>fin hT 0 I<|th (ifP h8 I (fun e2=>?_) (fun e2=>?_)))))))
 ·refine sq<|sq (rg<|ldp hT 1 0 I I I (cmpS hT 0 I fun b11 h11=>?_))
  refine' bjo hT 1 4 16 [11,12] h11 I I I I I I I (fun _=>?x4) (fun b16 h16=>?_)
  case x4=>
   exact ldp hT 1 0 I I I (cmpS hT 0 I fun b15 h15=>fin hT 1 I<|bjx h15 I I I)
  refine' bjo hT 1 4 21 [16,17] h16 I I I I I I I (fun _=>?x6) (fun b21 h21=>?_)
  case x6=>
   exact ldp hT 1 0 I I I (snS hT 0 I fun b20 h20=>fin hT 1 I<|bjx h20 I I I)
  refine' bjo hT 1 4 26 [21,22] h21 I I I I I I I (fun _=>?x8) (fun b26 h26=>?_)
  case x8=>
   exact ldp hT 1 0 I I I (cmpS hT 0 I fun b25 h25=>fin hT 1 I<|bjx h25 I I I)
  refine fin hT 0 I<|th (ifP h26 I (fun e10=>?_) (fun e10=>?_))
  ·exact sq (rg (fin hT 2 I (th (rt (rT (rT (WQ.drop (WQ.em (ret2 I I I ⟨I,outN (putCmd_no fun ok=>ok.elim (fun ⟨h0,h1,h2,h3,h4⟩=>e10.elim (fun e=>e.elim (fun e=>e.elim (fun e=>e (by rw[h1];rfl)) (fun e=>e (by rw[h2];rfl))) (fun e=>e h3)) (fun e=>e h4)) (fun ⟨h1,_⟩=>by omega))⟩)))))))))
  ·refine sk<|th (sq<|rg (lit hT 0 #[.int .u8 (1:Nat)] I (by decide) qk fun b27=>fin hT 2 I<|th (rt<|rT ?_)))
   have hc:c=⟨1,0,0,[],0⟩:=by
    simp only[not_or,ne_eq,Decidable.not_not] at e10;obtain ⟨⟨⟨h1,h2⟩,h3⟩,h4⟩:=e10;obtain ⟨k,s,q,l,t⟩:=c;dsimp only[Cmd.v] at *
    simp_all
   subst hc;exact WQ.perm (List.Perm.swap _ _ _) (WQ.drop (ret2 I I I ⟨I,outS (by decide) (own_byte b27 1 (by decide))⟩))
 ·refine sk<|th (sq<|sq (rg<|ldp hT 1 0 I I I (cmpS hT 0 I fun b30 h30=>?_)))
  refine' bja hT 1 4 35 [30,31] h30 I I I I I I I (fun _=>?x12) (fun b35 h35=>?_)
  case x12=>
   exact ldp hT 1 0 I I I (cmpS hT 0 I fun b34 h34=>fin hT 1 I<|bjx h34 I I I)
  refine' bjo hT 1 5 41 [35,36] h35 I I I I I I I (fun _=>?x14) (fun b41 h41=>?_)
  case x14=>
   exact ldp hT 1 0 I I I (cmpS hT 1 I fun b40 h40=>fin hT 1 I<|bjx h40 I I I)
  refine' bjo hT 1 4 46 [41,42] h41 I I I I I I I (fun _=>?x16) (fun b46 h46=>?_)
  case x16=>
   exact ldp hT 1 0 I I I (cmpS hT 0 I fun b45 h45=>fin hT 1 I<|bjx h45 I I I)
  refine' bjo hT 1 4 51 [46,47] h46 I I I I I I I (fun _=>?x18) (fun b51 h51=>?_)
  case x18=>
   exact ldp hT 1 0 I I I (cmpS hT 0 I fun b50 h50=>fin hT 1 I<|bjx h50 I I I)
  refine fin hT 0 I<|th (ifP h51 I (fun e20=>?_) (fun e20=>?_))
  ·exact sq (rg (fin hT 2 I (th (rt (rT (WQ.drop (WQ.em (ret2 I I I ⟨I,outN (putCmd_no fun ok=>ok.elim (fun h=>e2 h.1) (fun ⟨h1,h2,h3,h4,h5⟩=>by simp only[ByteArray.size,List.size_toArray] at e20;exact absurd e20 qo))⟩))))))))
  ·refine sk<|th (sq<|sq (rg<|ldp hT 1 0 I I I (cmpS hT 0 I fun b54 h54=>?_)))
   refine' bja hT 1 4 59 [54,55] h54 I I I I I I I (fun _=>?x22) (fun b59 h59=>?_)
   case x22=>
    exact ldp hT 1 0 I I I (cmpS hT 0 I fun b58 h58=>fin hT 1 I<|bjx h58 I I I)
   refine fin hT 0 I<|th (ifP h59 I (fun e24=>?_) (fun e24=>?_))
   ·exact sq<|rg (fin hT 2 I<|th (rt<|rT (WQ.drop<|WQ.em (ret2 I I I ⟨I,outN (putCmd_no fun ok=>ok.elim (fun h=>e2 h.1) (fun ⟨h1,h2,h3,h4,h5⟩=>e24.2<|h5 e24.1))⟩))))
   ·have hw96:c.word.length<=96:=by simp only[ByteArray.size,List.size_toArray] at e20;omega
    refine sk (th (sq (rg ?_)));have hok:c.ok:=.inr ⟨by omega,hw96,by omega,by omega,fun h=>by have:=e24;omega⟩;obtain ⟨t,ht⟩:∃ t:Nat,c.wt=(t:Nat):=Int.eq_ofNat_of_zero_le qo;obtain ⟨k,hk⟩:∃ k:Nat,c.kind=(k:Nat):=Int.eq_ofNat_of_zero_le qo;have hu1:=uint_le10 (n:=c.ses) hs1;have hu2:=uint_le10 (n:=c.seq) hs2;have hu3:=uint_le10 (n:=c.word.length) qo;refine ldp hT 1 0 I I I (ar hT 0 I (v':=.int .u8 (k:Nat)) (by rw[hk,u8w qo]) (lit hT 0 #[.int .u8 (k:Nat)] I (by decide) qk fun b63=>ldp hT 1 1 I I I (ldp hT 1 1 I I I (lit hT 0 #[.int .u64 (c.ses:Nat),.int .u64 (c.seq:Nat)] I (by decide) qk fun b68=>cl hT 0 I (Ct.at 1 I (uintsRef _ _ [UInt8.ofNat k] _ _ [c.ses,c.seq] (own_byte b63 k qo) (.inr ⟨0,I⟩) (isS_pt I I) (by simp;omega) (by simp) (by simp))) ?_))));rintro v69 K69 hs69 ⟨g69,rfl,rfl,ao69,c69,rfl,o69⟩;have hus:=us_len [c.ses,c.seq] (by simp;omega)
    have husl:[c.ses,c.seq].length=2:=rfl;refine fin hT 1 I (th (WC.drop (sq (rg (ldp hT 1 1 I I I (cvb hT 0 I qk fun b72 c72 g72 o72=>cl hT 0 I (putRef _ _ c.word (.inr ⟨0,I⟩) o72 qo) ?_))))));rintro v73 K73 hs73 ⟨g73,rfl,rfl,ao73,c73,rfl,o73⟩;have hpl:=putBytes_length c.word;refine fin hT 1 I (th (WC.perm (List.Perm.swap _ _ _) (WC.drop (sq (rg (appB hT 2 1 ([UInt8.ofNat k]++us [c.ses,c.seq]) (putBytes c.word) I I I o69 (.inr ⟨0,I⟩) o73.isS (by simp only[List.length_append,List.length_singleton];omega) fun ao76 c76 g76 o76=>fin hT 1 rfl (th (WC.drop (sq (sq (rg (ldp hT 1 1 rfl rfl rfl (cmpS hT 0 rfl fun b79 h79=>fin hT 0 rfl (th (ifP h79 rfl (fun e26=>?_) (fun e26=>?_))))))))))))))))
    ·refine rg (ldp hT 2 1 I I I (ar hT 0 I (v':=.int .u64 (t:Nat)) (by rw[ht,u64w qo]) (lit hT 0 #[.int .u64 (t:Nat)] I (by decide) qk fun b84=>cl hT 0 I (Ct.at 1 I (uintsRef _ _ _ _ _ [t] o76 (.inr ⟨0,I⟩) (isS_pt I I) (by simp;omega) (by simp only[List.length_append,List.length_singleton];omega) (by simp))) ?_)));rintro v85 K85 hs85 ⟨g85,rfl,rfl,ao85,c85,rfl,o85⟩;exact fin hT 1 I (th (sq (rg (fin hT 3 I (th (rt (WQ.drop (WQ.perm (List.Perm.swap _ _ _) (WQ.drop (ret2 I I I ⟨I,outS (by (obtain rfl:k=2:=by omega);rw[putCmd,if_pos hok,Cmd.bytes,if_neg qo,if_pos e26,ht];simp[us]) o85⟩))))))))))
    ·exact sk (th (sq (rg (fin hT 3 I (th (rt (WQ.perm (List.Perm.swap _ _ _) (WQ.drop (ret2 I I I ⟨I,outS (by (obtain rfl:k=3:=by omega);rw[putCmd,if_pos hok,Cmd.bytes,if_neg qo,if_neg e26];simp[us]) o76⟩)))))))))
def refCmdA(b:List UInt8):Cmd×Rd:=
 let x:=rByte (b,0)
 if x.1=1 then (⟨1,0,0,[],0⟩,x.2)
 else
  let s:=rUint mxU x.2
  let q:=rUint mxU s.2
  let w:=rBytes 96 q.2
  (⟨x.1,s.1,q.1,w.1,0⟩,w.2)
theorem refCmdR_ne{b:List UInt8}(h:¬(rByte (b,0)).1=2):refCmdR b=refCmdA b:=by
 unfold refCmdR refCmdA;dsimp only
 by_cases h1:(rByte (b,0)).1=1
 ·rw[if_pos h1,if_pos h1]
 ·rw[if_neg h1,if_neg h1,if_neg h]
theorem refCmdR_eq{b:List UInt8}(h:(rByte (b,0)).1=2):refCmdR b=(⟨2,(refCmdA b).1.ses,(refCmdA b).1.seq,(refCmdA b).1.word,(rUint 1073741824 (refCmdA b).2).1⟩,(rUint 1073741824 (refCmdA b).2).2):=by
 unfold refCmdR refCmdA;dsimp only;rw[if_neg qo,if_pos h,if_neg qo]
theorem refCmdB{b:List UInt8}{c:Cmd}{s:Rd}(hc:(c,s)=refCmdA b)(h2:(rByte (b,0)).1=2):((⟨c.kind,c.ses,c.seq,c.word,((rUint 1073741824 s).1:Nat)⟩:Cmd),(rUint 1073741824 s).2)=refCmdR b:=by
 have hk:c.kind=2:=by
  have:=congrArg (fun z=>z.1.kind) hc;dsimp only at this;rw[this];unfold refCmdA;dsimp only;rw[if_neg qo,h2]
  rfl
 rw[refCmdR_eq h2,<-hc];dsimp only;rw[hk]
theorem ec_ob{o:Option (List UInt8)}{b:List UInt8}:(ec o=0/\ob o=b)↔o=some b:=by
 cases o <;> simp[ec,ob]
theorem getCmdRef{w0:World}{K hb:PH}{hs:List PH}(ao:Option Addr)(cap:Nat)(b:List UInt8)(hm:In K hs hb)(x:IsS hb ao b.length cap 1 (bv b))(hl:b.length<1099511627776):
  Ct Tryz.prog w0 183 [.slice ao b.length cap] K hs (fun v K' hs'=>K'=K/\hs'=hs/\v=.tuple #[.agg ((getCmd b).getD Cmd.zero).v,.int .i64 (ec (getCmd b))]):=by
 refine enter Tryz.func183 qk I I I (sq (rg (al hT 0 (.agg #[.int .i64 0,.int .u64 0,.int .u64 0,.string ⟨#[]⟩,.int .i64 0]) I qk fun b2=>fin hT 1 I (th (sq (rg (bd hT 1 (rv ao b.length cap 0 0) I (fun w=>by kernel_rfl) (cl hT 0 I (byteRef ao cap b (In.cons hm) x hl 0 0 (Nat.zero_le _)) ?_))))))));rintro v18 K18 hs18 ⟨rfl,rfl,p1,hp1,rfl,hd1⟩;rw[List.drop_zero] at hd1 ⊢;have hk256:=rByte_lt (b,0);have E1:(b.drop p1,(rByte (b,0)).2.2)=(rByte (b,0)).2:=Prod.ext hd1.symm rfl;refine al hT 3 (.agg #[.slice none 0 0,.int .i64 0,.int .i64 0]) I qk fun b4=>stS hT 0 0 I I qk I I (fin hT 1 I (th (sq (rg (ar hT 1 I (i64w qo) (bd hT 0 (.agg (Cmd.mk ((rByte (b,0)).1:Nat) 0 0 [] 0).v) I (fun w=>by kernel_rfl) (al hT 0 (.agg #[.int .i64 0,.int .u64 0,.int .u64 0,.string ⟨#[]⟩,.int .i64 0]) I qk fun b6=>stS hT 0 0 I I qk I I (fin hT 0 I (th (jn (σ:=Cmd×Nat×Int) (fun s=>[(0,.slice ao b.length cap),(2,.pointer (some ⟨b2,0,none⟩)),(4,.pointer (some ⟨b4,0,none⟩)),(5,.int .u8 ((rByte (b,0)).1:Nat)),(6,.pointer (some ⟨b6,0,none⟩))]) (fun s=>pt b6 s.1.v 212::pt b4 #[.slice ao b.length cap,.int .i64 s.2.1,.int .i64 s.2.2] 253::pt b2 Cmd.zero.v 212::hs) (fun s=>s.2.1<=b.length/\(s.1,(b.drop s.2.1,s.2.2))=refCmdA b) ?_ ?_))))))))))
 ·refine sq<|rg (cmpS hT 1 I fun b25 h25=>fin hT 0 I<|th (ifP h25 I (fun e2=>?_) (fun e2=>?_)))
  ·refine sq (rg (ldS hT 0 1 I I qk (cl hT 0 I (getUintRef ao cap b (In.cons3 hm) x hl p1 _ hp1 mxU) ?_)));rintro v28 K28 hs28 ⟨rfl,rfl,p2,hp2,rfl,hd2⟩;have E2:(b.drop p2,(rUint mxU (b.drop p1,(rByte (b,0)).2.2)).2.2)=(rUint mxU (b.drop p1,(rByte (b,0)).2.2)).2:=Prod.ext hd2.symm rfl;refine al hT 3 (.agg #[.slice none 0 0,.int .i64 0,.int .i64 0]) I qk fun b7=>stS hT 0 0 I I qk I I (fin hT 1 I (th (sq (rg (ldS hT 0 0 I I qk (cl hT 0 I (getUintRef ao cap b (In.cons4 hm) x hl p2 _ hp2 mxU) ?_))))));rintro v33 K33 hs33 ⟨rfl,rfl,p3,hp3,rfl,hd3⟩;have E3:=(Prod.ext hd3.symm rfl:(b.drop p3,(rUint mxU (b.drop p2,(rUint mxU (b.drop p1,(rByte (b,0)).2.2)).2.2)).2.2)=(rUint mxU (b.drop p2,(rUint mxU (b.drop p1,(rByte (b,0)).2.2)).2.2)).2);refine stS hT 3 0 I I qk I I (fin hT 1 I (th (sq (rg (ldS hT 0 0 I I qk (cl hT 0 I (getBytesRef ao cap b (In.cons4 hm) x hl p3 _ hp3 96 qo) ?_))))))
   rintro v38 K38 hs38 ⟨rfl,hy,rfl,p4,hp4,aoy,cy,rfl,hd4,oy⟩;refine stS hT 3 1 I I qk I I (fin hT 1 I (th (sq (rg (stp hT 2 2 I I I I (fin hT 0 I (th (sq (rg (stp hT 2 2 I I I I (fin hT 0 I (th (sq (rg (cvs hT 1 _ I (.inr ⟨0,I⟩) oy.isS qk (stp hT 1 2 I I I I (fin hT 0 I (th (rg (ldS hT 0 1 I I qk (stS hT 0 3 I I qk I I (fin hT 0 I (WQ.drop (WQ.drop ?_))))))))))))))))))))))));exact jx (⟨((rByte (b,0)).1:Nat),_,_,_,0⟩,p4,_) ⟨hp4,(by unfold refCmdA;dsimp only;rw[if_neg (fun h=>e2 (by rw[h];rfl)),<-E1,<-E2,<-E3];exact Prod.ext I (Prod.ext hd4.symm I))⟩ ⟨I,I,I,I,I,trivial⟩ I I
  ·have e2:(rByte (b,0)).1=1:=by omega
   exact sk (jx (⟨((rByte (b,0)).1:Nat),0,0,[],0⟩,p1,_) ⟨hp1,(by unfold refCmdA;dsimp only;rw[if_pos e2,<-E1,e2];rfl)⟩ ⟨rfl,rfl,rfl,rfl,rfl,trivial⟩ rfl rfl)
 ·rintro ⟨c,p,e⟩ ⟨hp,hc⟩;dsimp only at hp hc ⊢;refine jn (σ:=Cmd×Nat×Int) (fun s=>[(0,.slice ao b.length cap),(2,.pointer (some ⟨b2,0,none⟩)),(4,.pointer (some ⟨b4,0,none⟩)),(6,.pointer (some ⟨b6,0,none⟩))]) (fun s=>pt b6 s.1.v 212::pt b4 #[.slice ao b.length cap,.int .i64 s.2.1,.int .i64 s.2.2] 253::pt b2 Cmd.zero.v 212::hs) (fun s=>s.2.1<=b.length/\(s.1,(b.drop s.2.1,s.2.2))=refCmdR b) ?_ ?_
  ·refine sq<|rg (cmpS hT 1 I fun b50 h50=>fin hT 0 I<|th (ifP h50 I (fun e4=>?_) (fun e4=>?_)))
   ·refine sq (rg (ldS hT 0 1 I I qk (cl hT 0 I (getUintRef ao cap b (In.cons3 hm) x hl p _ hp 1073741824) ?_)));rintro v53 K53 hs53 ⟨rfl,rfl,p5,hp5,rfl,hd5⟩;have hw30:=rUint_le 1073741824 (b.drop p,e);exact al hT 3 (.agg #[.slice none 0 0,.int .i64 0,.int .i64 0]) I qk fun b11=>stS hT 0 0 I I qk I I (fin hT 1 I (th (sq (rg (ar hT 1 I (i64w qo) (stp hT 1 1 I I I I (fin hT 0 I (th (rg (ldS hT 0 0 I I qk (stS hT 0 2 I I qk I I (fin hT 0 I (WQ.drop (jx (⟨c.kind,c.ses,c.seq,c.word,((rUint 1073741824 (b.drop p,e)).1:Nat)⟩,p5,(rUint 1073741824 (b.drop p,e)).2.2) ⟨hp5,(by dsimp only;rw[<-hd5];exact refCmdB hc qo)⟩ ⟨I,I,I,I,trivial⟩ I I))))))))))))))
   ·exact sk (jx (c,p,e) ⟨hp,by rw[refCmdR_ne (fun h=>e4 (by rw[h];rfl))];exact hc⟩ ⟨I,I,I,I,trivial⟩ I I)
  ·clear hp hc;rintro ⟨c,p,e⟩ ⟨hp,hc⟩;dsimp only at hp hc ⊢;have hmx:mxU=18446744073709551615:=rfl;have hbd:=refCmd_bd b;rw[<-hc] at hbd;dsimp only at hbd;refine sq (rg (ldS hT 0 0 I I qk (cl hT 0 I (putCmdRef c qo qo) ?_)));rintro v62 K62 hs62 ⟨rfl,g,aog,cg,rfl,rfl,og⟩;refine fin hT 5 I (th (sq (sq (rg (ldS hT 0 2 I I qk (cl hT 0 I (endRef ao cap b p e hp) ?_))))));rintro v66 K66 hs66 ⟨rfl,rfl,rfl⟩;refine cmpS hT 0 I fun b67 h67=>?_
   refine' bjo hT 1 3 71 [67,68] h67 I I I I I I I (fun _=>?x6) (fun b71 h71=>?_)
   case x6=>
    exact cmpS hT 1 I fun b70 h70=>fin hT 1 I<|bjx h70 I I I
   refine' bjo hT 1 6 78 [71,72] h71 I I I I I I I (fun _=>?x8) (fun b78 h78=>?_)
   case x8=>
    exact cvs hT 1 _ I (.inr ⟨0,I⟩) og.isS qk<|cvs hT 1 b I (In.cons4 hm) x qk (snS hT 0 I fun b77 h77=>fin hT 1 I<|bjx h77 I I I)
   have hg:=ref_getCmd b;rw[<-hc] at hg;dsimp only at hg;refine fin hT 0 I (th (ifP h78 I (fun e10=>?_) (fun e10=>?_)))
   ·exact sq (rg (bd hT 0 (.agg Cmd.zero.v) I (fun w=>by kernel_rfl) (stS hT 0 3 I I qk I I (fin hT 1 I (th (rt (rT (retcP 3 4 I I I I qk ⟨I,I,by rw[hg,if_neg (fun h=>by have:=ec_ob.2 h.2;exact e10.elim (fun e=>e.elim (fun e=>e h.1) (fun e=>e this.1)) (fun e=>e this.2))];rfl⟩))))))))
   ·exact sk (th (sq (rg (ldS hT 0 1 I I qk (stS hT 0 3 I I qk I I (fin hT 1 I (th (rt (retcP 3 4 I I I I qk ⟨I,I,by simp only[not_or,ne_eq,Decidable.not_not] at e10;rw[hg,if_pos ⟨e10.1.1,ec_ob.1 ⟨e10.1.2,e10.2⟩⟩];rfl⟩)))))))))
end
end Go.En
