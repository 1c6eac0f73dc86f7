/-
  Part 2 of what the proof needs (texts Ez Cp Ms Tab Cw Cr Cm Ck Du Dx Co Cn Cg Na Ne Ni Zm Ei Ka Ev Kb Kc Kd Ke Ta).
-/
import Derived.KernelRfl
import Derived.Test.YtaifbolghjccjaaGreatRows
import Derived.Test.YtaifbolghjccjaaGreatSk1
set_option linter.unusedSectionVars false
set_option linter.unusedSimpArgs false
set_option linter.unusedVariables false
set_option maxRecDepth 4000
namespace Go.En
open Go.Proofs Go.Proofs.YtaifbolghjccjaaGreat
section
def softOp:Op->Bool
 | .move ..|.assign ..|.pick ..|.nilCheck ..|.extract ..|.fieldAddr ..|.makeFunc ..|.unOp .not ..=>true
 | .call { callee:=.builtin .len,.. }|.call { callee:=.builtin .max,.. }|.call { callee:=.builtin .min,.. }=>true
 | _=>false
def pureA(T:Tab)(ops:Array Oper)(n:Nat):List Oper->Sl->Option (List Oper×Sl)
 | [],l=>some ([],l)
 | o::r,l=>match o.dst with
  | none=>some (o::r,l)
  | some d=>match Nat.blt d n,gOK ops l o.guard with
   | true,some true=>cond (softOp o.op) (match pureOp T l o.op with
    | some v=>pureA T ops n r ((d,v)::l)
    | none=>some (o::r,l)) (some (o::r,l))
   | true,some false=>pureA T ops n r ((d,undef)::l)
   | _,_=>some (o::r,l)
def planA(T:Tab)(ops:Array Oper)(n z:Nat):List Nat->Array Bool->Sl->Option (List Nat×Array Bool×Sl)
 | [],L,l=>some ([],L,l)
 | p::r,L,l=>match Nat.beq (p % 2) 0,Nat.beq (p / 2) z,ops[p / 2]? with
  | true,false,some o=>match o.dst with
   | some d=>match Nat.blt d n,gOK ops l o.guard with
    | true,some true=>cond (softOp o.op) (match pureOp T l o.op with
     | some v=>planA T ops n z r (L.setIfInBounds (p / 2) true) ((d,v)::l)
     | none=>some (p::r,L,l)) (some (p::r,L,l))
    | true,some false=>planA T ops n z r (L.setIfInBounds (p / 2) true) ((d,undef)::l)
    | _,_=>some (p::r,L,l)
   | none=>some (p::r,L,l)
  | _,_,_=>some (p::r,L,l)
section
variable {P:Program} {T:Tab} {w0:World} {ops:Array Oper} {Q:Exit->Act->World->Prop} {rest rest':List Oper} {n:Nat} {l l':Sl} {K K0:PH} {hs A:List PH}
theorem at0{α:Type}{x:α}{l:List α}:(x::l)[0]?=some x:=rfl
theorem at1{α:Type}{a x:α}{l:List α}:(a::x::l)[1]?=some x:=rfl
theorem at2{α:Type}{a b x:α}{l:List α}:(a::b::x::l)[2]?=some x:=rfl
theorem at3{α:Type}{a b c x:α}{l:List α}:(a::b::c::x::l)[3]?=some x:=rfl
theorem at4{α:Type}{a b c d x:α}{l:List α}:(a::b::c::d::x::l)[4]?=some x:=rfl
theorem at5{α:Type}{a b c d e x:α}{l:List α}:(a::b::c::d::e::x::l)[5]?=some x:=rfl
theorem at6{α:Type}{a b c d e f x:α}{l:List α}:(a::b::c::d::e::f::x::l)[6]?=some x:=rfl
theorem at7{α:Type}{a b c d e f g x:α}{l:List α}:(a::b::c::d::e::f::g::x::l)[7]?=some x:=rfl
theorem at8{α:Type}{a b c d e f g h x:α}{l:List α}:(a::b::c::d::e::f::g::h::x::l)[8]?=some x:=rfl
theorem atX{p:Prop}(h:p:=by first|exact at0|exact at1|exact at2|exact at3|exact at4|exact at5|exact at6|exact at7|exact at8):p:=h
theorem WL.all[hT:TabOK P T]:∀ {rest:List Oper} {l:Sl},pureA T ops n rest l=some (rest',l')->WL P w0 ops Q rest' n l' K hs->WL P w0 ops Q rest n l K hs
 | [],l,h,hk=>by
  unfold pureA at h;simp only[Option.some.injEq,Prod.mk.injEq] at h;obtain ⟨rfl,rfl⟩:=h;exact hk
 | o::r,l,h,hk=>by
  have st:some (o::r,l)=some (rest',l')->WL P w0 ops Q (o::r) n l K hs:=fun e=>by
   simp only[Option.some.injEq,Prod.mk.injEq] at e;obtain ⟨rfl,rfl⟩:=e;exact hk
  unfold pureA at h
  split at h
  ·exact st h
  ·rename_i d hd
   split at h
   ·rename_i hb hg;cases hs':softOp o.op with
    | false=>rw[hs'] at h;exact st h
    | true=>
     rw[hs'] at h;simp only[cond_true] at h
     split at h
     ·rename_i v hv;exact WL.pure1 hd hb hg hv (WL.all h hk)
     ·exact st h
   ·rename_i hb hg;exact WL.unwanted hd hb hg (WL.all h hk)
   ·exact st h
theorem ld0[hT:TabOK P T]{i d b off ty:Nat}{v:Value}{c:Array Value}{fr:Nat×Nat}(h0:ldAt T ops n 0 rest l=some (d,⟨b,off,none⟩,rest',l'))(hi:hs[i]?=some (pt b c ty fr))(hv:c[off]?=some v)
  (hk:WL P w0 ops Q rest' n ((d,v)::l') K hs):WL P w0 ops Q rest n l K hs:=ldp _ i h0 hi hv hk
theorem ldS0[hT:TabOK P T]{i d t b ty:Nat}{c:Array Value}{fr:Nat×Nat}(h0:lsAt T ops n 0 rest l=some (d,t,⟨b,0,none⟩,rest',l'))(hi:hs[i]?=some (pt b c ty fr))(hm:aggOK P t c.size=true)
  (hk:WL P w0 ops Q rest' n ((d,.agg c)::l') K hs):WL P w0 ops Q rest n l K hs:=ldS _ i h0 hi hm hk
theorem st0[hT:TabOK P T]{i b off ty:Nat}{v u:Value}{c:Array Value}(h0:stAt T ops n 0 rest l=some (⟨b,off,none⟩,v,rest',l'))(hi:hs[i]?=some (pt b c ty))(hu:c[off]?=some u)(hv:v.oneCell'=true)
  (hk:WL P w0 ops Q rest' n l' K (hs.set i (pt b (c.setIfInBounds off v) ty))):WL P w0 ops Q rest n l K hs:=stp _ i h0 hi hu hv hk
theorem stS0[hT:TabOK P T]{i t b ty:Nat}{c cs:Array Value}(h0:ssAt T ops n 0 rest l=some (t,⟨b,0,none⟩,cs,rest',l'))(hi:hs[i]?=some (pt b c ty))(hsz:(P.info? t).map (·.size)=some cs.size)
  (hf:cs.size=c.size) (h1:cs.toList.all (·.oneCell')=true) (hk:WL P w0 ops Q rest' n l' K (hs.set i (pt b cs ty))):WL P w0 ops Q rest n l K hs:=stS _ i h0 hi hsz hf h1 hk
variable {plan plan':List Nat} {z:Nat} {listed listed':Array Bool}
theorem WA.all[hT:TabOK P T](hsel:Region.noSelect ops=true):∀ {plan:List Nat} {listed:Array Bool} {l:Sl},planA T ops n z plan listed l=some (plan',listed',l')->WA P w0 ops Q K0 A z plan' listed' n l' K hs->WA P w0 ops Q K0 A z plan listed n l K hs
 | [],L,l,h,hk=>by
  unfold planA at h;simp only[Option.some.injEq,Prod.mk.injEq] at h;obtain ⟨rfl,rfl,rfl⟩:=h;exact hk
 | p::r,L,l,h,hk=>by
  have st:some (p::r,L,l)=some (plan',listed',l')->WA P w0 ops Q K0 A z (p::r) L n l K hs:=fun e=>by
   simp only[Option.some.injEq,Prod.mk.injEq] at e;obtain ⟨rfl,rfl,rfl⟩:=e;exact hk
  unfold planA at h
  split at h
  ·rename_i o hp hz ho;have hp2:p=2*(p / 2):=by have:=Nat.eq_of_beq_eq_true hp;omega
   split at h
   ·rename_i d hd
    split at h
    ·rename_i hb hg;cases hs':softOp o.op with
     | false=>rw[hs'] at h;exact st h
     | true=>
      rw[hs'] at h;simp only[cond_true] at h
      split at h
      ·rename_i v hv;rw[hp2];exact WA.pure ho hsel hz hd hb (.inl ⟨hg,hv⟩) (WA.all hsel h hk)
      ·exact st h
    ·rename_i hb hg;rw[hp2];exact WA.pure ho hsel hz hd hb (.inr ⟨hg,I⟩) (WA.all hsel h hk)
    ·exact st h
   ·exact st h
  ·exact st h
theorem dend0[hT:TabOK P T](hsel:Region.noSelect ops=true)(hk:WQ w0 Q .normal n l K hs):WA P w0 ops Q K0 A z [] listed n l K hs:=dend hsel 0 rfl hk
theorem dld0[hT:TabOK P T](hsel:Region.noSelect ops=true){i p d b off ty:Nat}{v:Value}{c:Array Value}{fr:Nat×Nat}(h0:dldwAt T ops n z 0 plan listed l=some (p,d,⟨b,off,none⟩,plan',listed',l'))(hwf:cond (Nat.blt z ops.size) (Region.waitsFor .any ops z (p / 2)) true=true)
  (hi:A[i]?=some (pt b c ty fr)) (hv:c[off]?=some v) (hk:WA P w0 ops Q K0 A z plan' listed' n ((d,v)::l') K hs):WA P w0 ops Q K0 A z plan listed n l K hs:=dldpw hsel _ i h0 hwf hi hv hk
def findP(ops:Array Oper):Nat->Nat->Nat->Option (List Nat)
 | 0,_,_=>none
 | f+1,z,i=>cond (Region.waitsFor .any ops z i) (some []) (match ops[z]? with
  | some o=>(o.after.toList.filter (Region.binds .any)).findSome? (fun e=>(findP ops f e.on i).map (e.on :: ·))
  | none=>none)
theorem dldt0[hT:TabOK P T](hsel:Region.noSelect ops=true){i p d b off ty:Nat}{v:Value}{c:Array Value}{fr:Nat×Nat}(h0:dldwAt T ops n z 0 plan listed l=some (p,d,⟨b,off,none⟩,plan',listed',l'))(hwf:waitsP ops z ((findP ops 9 z (p / 2)).getD []) (p / 2)=true)
  (hi:A[i]?=some (pt b c ty fr)) (hv:c[off]?=some v) (hk:WA P w0 ops Q K0 A z plan' listed' n ((d,v)::l') K hs):WA P w0 ops Q K0 A z plan listed n l K hs:=dldtp _ hsel _ i h0 hwf hi hv hk
theorem dldS0[hT:TabOK P T](hsel:Region.noSelect ops=true){i p d t b ty:Nat}{c:Array Value}{fr:Nat×Nat}(h0:dlsAt T ops n z 0 plan listed l=some (p,d,t,⟨b,0,none⟩,plan',listed',l'))(hwf:cond (Nat.blt z ops.size) (Region.waitsFor .any ops z (p / 2)) true=true)
  (hi:A[i]?=some (pt b c ty fr)) (hm:aggOK P t c.size=true) (hk:WA P w0 ops Q K0 A z plan' listed' n ((d,.agg c)::l') K hs):WA P w0 ops Q K0 A z plan listed n l K hs:=dldS hsel _ i h0 hwf hi hm hk
theorem dact0[hT:TabOK P T](hsel':(Region.noSelect ops && alone ops plan listed)=true){o:Oper}(h0:actAt T ops n z 0 plan listed l=some (o,plan',listed',l'))
  (hk:WL P w0 ops (fun e a w=>planOK .any ops plan' listed'=true->Closed .any ops listed'->aft P w0 ops Q K0 A z plan' listed' e a w) [o] n l' K hs):WA P w0 ops Q K0 A z plan listed n l K hs:=dact hsel' _ h0 hk
inductive Pick (hs:List PH):List Nat->List PH->Prop
 | nil:Pick hs [] []
 | cons {i:Nat} {h:PH} {ix:List Nat} {A:List PH} (e:hs[i]?=some h) (p:Pick hs ix A):Pick hs (i::ix) (h::A)
theorem Pick.sub{ix:List Nat}(p:Pick hs ix A):∀ h∈A,h∈hs:=by
 induction p with
 | nil=>simp
 | cons e p ih=>exact List.forall_mem_cons.2 ⟨List.mem_of_getElem? e,ih⟩
theorem rgm{id:Nat}{o:List Oper}(ix:List Nat)(z:Nat)(pl:List Nat)(h:WA P w0 o.toArray Q K A z pl (Array.replicate o.toArray.size false) n l K hs)(hA:Pick hs ix A:=by first|exact .nil|exact .cons rfl .nil|exact .cons rfl (.cons rfl .nil)|exact .cons rfl (.cons rfl (.cons rfl .nil))|exact .cons rfl (.cons rfl (.cons rfl (.cons rfl .nil)))|exact .cons rfl (.cons rfl (.cons rfl (.cons rfl (.cons rfl .nil))))|exact .cons rfl (.cons rfl (.cons rfl (.cons rfl (.cons rfl (.cons rfl .nil)))))|exact .cons rfl (.cons rfl (.cons rfl (.cons rfl (.cons rfl (.cons rfl (.cons rfl .nil)))))))(hm:P.follows .mixedOrders=true:=by kernel_rfl)
  (hq:(planOK .any o.toArray pl (Array.replicate o.toArray.size false) && Nat.beq pl.length o.toArray.size)=true:=by kernel_rfl):WC P w0 (.region id o.toArray true) Q n l K hs:=rga A z pl hA.sub hm hq h
theorem rgmX{r:Option Nat}{ds:List Deferred}{id:Nat}{o:List Oper}(ix:List Nat)(z:Nat)(pl:List Nat)(h:WA P w0 o.toArray (adj ds Q) K A z pl (Array.replicate o.toArray.size false) n l K hs)(hA:Pick hs ix A:=by first|exact .nil|exact .cons rfl .nil|exact .cons rfl (.cons rfl .nil)|exact .cons rfl (.cons rfl (.cons rfl .nil))|exact .cons rfl (.cons rfl (.cons rfl (.cons rfl .nil)))|exact .cons rfl (.cons rfl (.cons rfl (.cons rfl (.cons rfl .nil))))|exact .cons rfl (.cons rfl (.cons rfl (.cons rfl (.cons rfl (.cons rfl .nil)))))|exact .cons rfl (.cons rfl (.cons rfl (.cons rfl (.cons rfl (.cons rfl (.cons rfl .nil)))))))(hm:P.follows .mixedOrders=true:=by kernel_rfl)
  (hq:(planOK .any o.toArray pl (Array.replicate o.toArray.size false) && Nat.beq pl.length o.toArray.size)=true:=by kernel_rfl):WX P w0 r ds (.region id o.toArray true) Q n l K hs:=rgaX A z pl hA.sub hm hq h
inductive SetAt:Nat->PH->List PH->List PH->Prop
 | here {x y:PH} {l:List PH} (e:y=x):SetAt 0 x (y::l) (x::l)
 | there {i:Nat} {x a:PH} {l l':List PH} (s:SetAt i x l l'):SetAt (i+1) x (a::l) (a::l')
theorem SetAt.eq{i:Nat}{x:PH}{l l':List PH}(s:SetAt i x l l'):l=l':=by
 induction s with
 | here e=>rw[e]
 | there s ih=>rw[ih]
theorem WL.h{hs':List PH}(i:Nat)(x:PH)(hk:WL P w0 ops Q rest n l K hs')(s:SetAt i x hs hs':=by first|exact .here rfl|exact .there (.here rfl)|exact .there (.there (.here rfl))|exact .there (.there (.there (.here rfl)))|exact .there (.there (.there (.there (.here rfl))))|exact .there (.there (.there (.there (.there (.here rfl)))))|exact .there (.there (.there (.there (.there (.there (.here rfl))))))|exact .there (.there (.there (.there (.there (.there (.there (.here rfl)))))))|exact .there (.there (.there (.there (.there (.there (.there (.there (.here rfl))))))))|exact .there (.there (.there (.there (.there (.there (.there (.there (.there (.here rfl)))))))))|exact .there (.there (.there (.there (.there (.there (.there (.there (.there (.there (.here rfl))))))))))|exact .there (.there (.there (.there (.there (.there (.there (.there (.there (.there (.there (.here rfl)))))))))))|exact .there (.there (.there (.there (.there (.there (.there (.there (.there (.there (.there (.there (.here rfl))))))))))))):WL P w0 ops Q rest n l K hs:=by
 rw[s.eq];exact hk
theorem ent{f:FuncId}{fn:Func}{c:Code}{args:List Value}{R:Value->PH->List PH->Prop}(hf:P.funcs[f]?=some fn)(h:WC P w0 c (bodyPost P fn (endR w0 R)) n (params 0 args) K hs)(hcal:callable P f=true:=by kernel_rfl)(hb:fn.body=some c:=by exact rfl)(hn:fn.ntmps=n:=by exact rfl)(hl:Nat.ble args.length n=true:=by exact rfl):
  Ct P w0 f args K hs R:=enter hf hcal hb hn hl h
theorem entX{f:FuncId}{fn:Func}{c:Code}{args:List Value}{R:Value->PH->List PH->Prop}(hf:P.funcs[f]?=some fn)(h:WX P w0 none [] c (bodyPostM (fz none) 0 P fn (endR w0 R)) n (params 0 args) K hs)(hcal:callable P f=true:=by kernel_rfl)(hb:fn.body=some c:=by exact rfl)(hn:fn.ntmps=n:=by exact rfl)(hl:Nat.ble args.length n=true:=by exact rfl):
  Ct P w0 f args K hs R:=enterX hf hcal hb hn hl h
theorem isL(h:WL P w0 ops Q rest n l K hs):WL P w0 ops Q rest n l K hs:=h
theorem isA(h:WA P w0 ops Q K0 A z plan listed n l K hs):WA P w0 ops Q K0 A z plan listed n l K hs:=h
theorem isC{c:Code}(h:WC P w0 c Q n l K hs):WC P w0 c Q n l K hs:=h
theorem isQ{e:Exit}(h:WQ w0 Q e n l K hs):WQ w0 Q e n l K hs:=h
theorem isX{r:Option Nat}{ds:List Deferred}{c:Code}(h:WX P w0 r ds c Q n l K hs):WX P w0 r ds c Q n l K hs:=h
theorem isY{ds:List Deferred}{e:Exit}(h:WQX ds w0 Q e n l K hs):WQX ds w0 Q e n l K hs:=h
theorem au{G G':Prop}(x:G')(h:G'->G:=by (intro x;(repeat (first|((with_reducible refine isL ?_);first|with_reducible refine dnext (.inl qk) ?_|with_reducible refine dnx (by simp) rfl ?_|(refine WL.all rfl ?_;first|with_reducible refine nl ?_|refine ld0 rfl (by exact atX) (by exact rfl) ?_|refine st0 rfl (by exact atX) (by exact rfl) (by exact rfl) ?_|refine ldS0 rfl (by exact atX) qk ?_|refine stS0 rfl (by exact atX) qk (by exact rfl) (by exact rfl) ?_))|((with_reducible refine isQ ?_);with_reducible first|refine th ?_|refine nxX ?_|refine bl ?_|refine rT ?_|refine rB ?_|refine xt ?_|refine xb ?_|refine xn rfl ?_)|((with_reducible refine isC ?_);first|with_reducible refine sq ?_|with_reducible refine rg ?_|with_reducible refine sk ?_|with_reducible refine bk ?_|with_reducible refine rt ?_|with_reducible refine ex ?_|refine ifT rfl ?_|refine ifF rfl ?_)|((with_reducible refine isA ?_);refine WA.all qk I ?_;first|with_reducible refine dend0 qk ?_|refine dld0 qk rfl qk (by exact atX) (by exact rfl) ?_|refine dact0 qk rfl ?_|refine dldS0 qk rfl qk (by exact atX) qk ?_|refine dldt0 qk rfl qk (by exact atX) (by exact rfl) ?_)|((with_reducible refine isY ?_);with_reducible first|refine thX ?_|refine blX ?_|refine rTX ?_|refine rBX ?_|refine xtX ?_|refine xbX ?_|refine xnX rfl ?_)|((with_reducible refine isX ?_);first|with_reducible refine sqX ?_|with_reducible refine rgX ?_|with_reducible refine skX ?_|with_reducible refine bkX ?_|with_reducible refine rtX ?_|with_reducible refine exX ?_|refine ifTX rfl ?_|refine ifFX rfl ?_)));exact x)):G:=h x
theorem entA{G':Prop}{f:FuncId}{fn:Func}{c:Code}{args:List Value}{R:Value->PH->List PH->Prop}(hf:P.funcs[f]?=some fn)(x:G')(hcal:callable P f=true:=by kernel_rfl)(hb:fn.body=some c:=by exact rfl)(hn:fn.ntmps=n:=by exact rfl)(hl:Nat.ble args.length n=true:=by exact rfl)(h:G'->WC P w0 c (bodyPost P fn (endR w0 R)) n (params 0 args) K hs:=by (intro x;exact au x)):
  Ct P w0 f args K hs R:=enter hf hcal hb hn hl (h x)
end
end
section
theorem number_back:∀ (b:List UInt8) (i acc:Nat),i<=9->(number i acc b).2.2=0->∃ (m:Nat) (r:List UInt8),b=uint m++r/\(number i acc b).1=acc+m*128 ^ i/\(number i acc b).2.1=i+(uint m).length/\(0<i->0<m)
 | [],i,acc,hi,h=>by simp[number] at h
 | c::r,i,acc,hi,h=>by
  have hc:=c.toNat_lt;rw[number_cons] at h ⊢
  by_cases h1:i=9/\1<c.toNat
  ·rw[if_pos h1] at h;simp at h
  ·rw[if_neg h1] at h ⊢
   by_cases h2:128<=c.toNat
   ·rw[if_pos h2] at h ⊢;obtain ⟨m,r',hb,hn,hk,hp⟩:=number_back r (i+1) (acc+c.toNat % 128*128 ^ i) qo h;have hm:=hp qo;refine ⟨c.toNat % 128+128*m,r',?_,?_,?_,fun _=>by omega⟩
    ·rw[uint_ge qo,show (c.toNat % 128+128*m) / 128=m from by omega,show (c.toNat % 128+128*m) % 128+128=c.toNat from by omega,hb]
     simp
    ·grind
    ·rw[hk,uint_ge (n:=c.toNat % 128+128*m) qo,show (c.toNat % 128+128*m) / 128=m from by omega,List.length_cons];omega
   ·rw[if_neg h2] at h ⊢
    by_cases h3:c.toNat=0/\0<i
    ·rw[if_pos h3] at h;simp at h
    ·rw[if_neg h3] at h ⊢;refine ⟨c.toNat,r,?_,?_,?_,fun _=>by omega⟩
     all_goals simp_all [uint_lt,Nat.mod_eq_of_lt]
theorem rUint_ok{m:Nat}{b:List UInt8}(h:(rUint m (b,0)).2.2=0):b=uint (rUint m (b,0)).1++(rUint m (b,0)).2.1/\(rUint m (b,0)).1<=m:=by
 unfold rUint at h ⊢;simp only[if_true] at h ⊢
 by_cases h1:(number 0 0 b).2.2=0
 ·rw[if_pos h1] at h ⊢
  by_cases h2:m<(number 0 0 b).1
  ·rw[if_pos h2] at h;simp at h
  ·rw[if_neg h2];obtain ⟨k,r,hb,hn,hk,_⟩:=number_back b 0 0 qo h1
   simp_all
 ·rw[if_neg h1] at h;exact absurd h h1
theorem number_uint:∀ (k m i acc:Nat) (r:List UInt8),m<128 ^ k->i<=9->(0<i->0<m)->acc+m*128 ^ i<18446744073709551616->number i acc (uint m++r)=(acc+m*128 ^ i,i+(uint m).length,0)
 | 0,m,i,acc,r,hk,hi,hp,hb=>by
  have:m=0:=by omega
  subst this;rw[uint_lt qo];have:¬0<i:=fun h=>by omega
  obtain rfl:i=0:=by omega
  rfl
 | k+1,m,i,acc,r,hk,hi,hp,hb=>by
  have h9:i=9->m<=1:=fun h=>by grind
  by_cases hm:m<128
  ·rw[uint_lt hm];have e:(UInt8.ofNat m).toNat=m:=UInt8.toNat_ofNat_of_lt' (Nat.lt_of_lt_of_le (m:=256) qo (by decide));simp only[List.singleton_append,number_cons,e,List.length_singleton]
   grind
  ·rw[uint_ge hm];have e:(UInt8.ofNat (m % 128+128)).toNat=m % 128+128:=UInt8.toNat_ofNat_of_lt' (Nat.lt_of_lt_of_le (m:=256) qo (by decide));simp only[List.cons_append,number_cons,e,List.length_cons]
   have hi9:i<9:=by
    omega
   rw[if_neg qo,if_pos qo,show (m % 128+128) % 128=m % 128 from by omega];have hdiv:m=m % 128+128*(m / 128):=by omega
   have hsum:acc+m % 128*128 ^ i+m / 128*128 ^ (i+1)=acc+m*128 ^ i:=by
    grind
   rw[number_uint k (m / 128) (i+1) (acc+m % 128*128 ^ i) r qo qo (fun _=>by omega) (by rw[hsum];exact hb),hsum]
   grind
theorem rUint_uint{m n:Nat}(r:List UInt8)(hn:n<18446744073709551616)(hm:n<=m):rUint m (uint n++r,0)=(n,(r,0)):=by
 have h:=number_uint 10 n 0 0 r qo qo (fun h=>by omega) qo
 simp_all [rUint]
theorem rBytes_put{most:Int}{x:List UInt8}(r:List UInt8)(hx:x.length<18446744073709551616)(hm:(x.length:Int)<=most):rBytes most (putBytes x++r,0)=(x,(r,0)):=by
 have h:=rUint_uint (m:=most.toNat) (n:=x.length) (x++r) hx qo
 simp_all [rBytes,putBytes]
def un4:List UInt8->Nat
 | []=>0
 | c::r=>c.toNat+256*un4 r
theorem rBytes_bd(m:Int)(b:List UInt8)(e:Int):(rBytes m (b,e)).1.length<=b.length/\(rBytes m (b,e)).2.1.length<=b.length:=by
 have h:=(rUint_bd m.toNat b e).2
 grind [rBytes]
theorem un4_lt:∀ (l:List UInt8) (k:Nat),l.length<=k->un4 l<256 ^ k
 | [],k,_=>by simp[Nat.pow_pos,un4]
 | c::l,0,h=>by simp at h
 | c::l,k+1,h=>by
  have:=un4_lt l k (by simpa using h);have hc:=c.toNat_lt;rw[un4,Nat.pow_succ];omega
end
section
theorem rByte_fin{b:List UInt8}{e:Int}(h:(rByte (b,e)).2.2=0):e=0/\∃ c:UInt8,b=c::(rByte (b,e)).2.1/\(rByte (b,e)).1=c.toNat:=by
 unfold rByte at h ⊢
 grind
theorem rUint_fin{m:Nat}{b:List UInt8}{e:Int}(h:(rUint m (b,e)).2.2=0):e=0/\b=uint (rUint m (b,e)).1++(rUint m (b,e)).2.1/\(rUint m (b,e)).1<=m:=by
 by_cases he:e=0
 ·subst he;exact ⟨I,rUint_ok h⟩
 simp_all [rUint]
theorem rBytes_fin{m:Int}{b:List UInt8}{e:Int}(h:(rBytes m (b,e)).2.2=0):e=0/\b=putBytes (rBytes m (b,e)).1++(rBytes m (b,e)).2.1/\(rBytes m (b,e)).1.length<=m.toNat:=by
 unfold rBytes at h ⊢;dsimp only at h ⊢
 by_cases h1:(rUint m.toNat (b,e)).2.2=0
 ·obtain ⟨he,hb,hm⟩:=rUint_fin h1;rw[if_pos h1] at h ⊢
  by_cases h2:(rUint m.toNat (b,e)).2.1.length<(rUint m.toNat (b,e)).1
  ·rw[if_pos h2] at h;simp at h
  ·rw[if_neg h2]
   grind [List.take_append_drop,putBytes]
 ·rw[if_neg h1] at h;exact absurd h h1
theorem rByte_cons(c:UInt8)(r:List UInt8):rByte (c::r,0)=(c.toNat,(r,0)):=rfl
theorem rEnd_fin{b:List UInt8}{e:Int}:rEnd (b,e)=0↔e=0/\b=[]:=by
 show (if e=0/\0<b.length then (23:Int) else e)=0↔_
 grind
structure Cmd where
 kind:Int
 ses:Nat
 seq:Nat
 word:List UInt8
 wt:Int
 deriving DecidableEq
def Cmd.ok(c:Cmd):Prop:=(c.kind=1/\c.ses=0/\c.seq=0/\c.word=[]/\c.wt=0)\/((c.kind=2\/c.kind=3)/\c.word.length<=96/\0<=c.wt/\c.wt<=1073741824/\(c.kind=3->c.wt=0))
instance (c:Cmd):Decidable c.ok:=by unfold Cmd.ok;infer_instance
def Cmd.bytes(c:Cmd):List UInt8:=
 if c.kind=1 then [1] else if c.kind=2 then 2::(uint c.ses++(uint c.seq++(putBytes c.word++uint c.wt.toNat))) else 3::(uint c.ses++(uint c.seq++putBytes c.word))
def putCmd(c:Cmd):Option (List UInt8):=if c.ok then some c.bytes else none
def mxU:Nat:=18446744073709551615
def getCmdR(b:List UInt8):Cmd×Rd:=
 let x:=rByte (b,0)
 if x.1=1 then (⟨1,0,0,[],0⟩,x.2)
 else if x.1=2\/x.1=3 then
  let s:=rUint mxU x.2
  let q:=rUint mxU s.2
  let w:=rBytes 96 q.2
  if x.1=2 then (let t:=rUint 1073741824 w.2;(⟨2,s.1,q.1,w.1,t.1⟩,t.2)) else (⟨3,s.1,q.1,w.1,0⟩,w.2)
 else (⟨x.1,0,0,[],0⟩,(x.2.1,if x.2.2=0 then 170 else x.2.2))
def getCmd(b:List UInt8):Option Cmd:=if rEnd (getCmdR b).2=0 then some (getCmdR b).1 else none
theorem get_put{c:Cmd}{b:List UInt8}(h1:c.ses<=mxU)(h2:c.seq<=mxU)(h:putCmd c=some b):getCmd b=some c:=by
 unfold putCmd at h
 by_cases hok:c.ok
 ·rw[if_pos hok] at h;simp only[Option.some.injEq] at h;subst h;obtain ⟨kind,ses,seq,word,wt⟩:=c;dsimp only at h1 h2;have hmx:mxU=18446744073709551615:=rfl;rcases hok with ⟨rfl,rfl,rfl,rfl,rfl⟩|⟨rfl|rfl,hw,h0,hm,h3⟩
  ·rfl
  ·dsimp only at hw h0 hm h3;obtain ⟨t,rfl⟩:=Int.eq_ofNat_of_zero_le h0;have e:(Cmd.mk 2 ses seq word t).bytes=2::(uint ses++(uint seq++(putBytes word++(uint t++[])))):=by simp[Cmd.bytes]
   rw[e];unfold getCmd getCmdR;rw[rByte_cons]
   simp only[show (2:UInt8).toNat=2 from rfl,rUint_uint (m:=mxU) _ (show ses<18446744073709551616 by omega) h1,rUint_uint (m:=mxU) _ (show seq<18446744073709551616 by omega) h2,rBytes_put (most:=96) _ (show word.length<18446744073709551616 by omega) qo,
    rUint_uint (m:=1073741824) (n:=t) [] qo qo]
   simp[rEnd]
  ·dsimp only at hw h0 hm h3;obtain rfl:=h3 rfl;have e:(Cmd.mk 3 ses seq word 0).bytes=3::(uint ses++(uint seq++(putBytes word++[]))):=by simp[Cmd.bytes]
   rw[e];unfold getCmd getCmdR;rw[rByte_cons];simp only[show (3:UInt8).toNat=3 from rfl,rUint_uint (m:=mxU) _ (show ses<18446744073709551616 by omega) h1,rUint_uint (m:=mxU) _ (show seq<18446744073709551616 by omega) h2,rBytes_put (most:=96) [] (show word.length<18446744073709551616 by omega) qo];simp[rEnd]
 ·rw[if_neg hok] at h;cases h
theorem put_get{c:Cmd}{b:List UInt8}(h:getCmd b=some c):putCmd c=some b/\c.ses<=mxU/\c.seq<=mxU:=by
 unfold getCmd at h
 split at h
 ·rename_i hend;simp only[Option.some.injEq] at h;unfold getCmdR at h hend;dsimp only at h hend
  split at h
  ·rename_i h1;rw[if_pos h1] at hend;subst h;obtain ⟨e1,e2⟩:=rEnd_fin.1 hend;obtain ⟨_,c,hb,hc⟩:=rByte_fin e1;rw[e2] at hb;rw[h1] at hc;have:c=1:=UInt8.toNat_inj.1 (by rw[<-hc];rfl);subst this;subst hb;exact ⟨I,Nat.zero_le _,Nat.zero_le _⟩
  ·rename_i h1;rw[if_neg h1] at hend
   split at h
   ·rename_i h2;rw[if_pos h2] at hend
    split at h
    ·rename_i h3;rw[if_pos h3] at hend;subst h;obtain ⟨e1,e2⟩:=rEnd_fin.1 hend;obtain ⟨f1,hb1,hm1⟩:=rUint_fin e1;obtain ⟨f2,hb2,hm2⟩:=rBytes_fin f1;obtain ⟨f3,hb3,hm3⟩:=rUint_fin f2;obtain ⟨f4,hb4,hm4⟩:=rUint_fin f3;obtain ⟨_,c,hb,hc⟩:=rByte_fin f4;have:c=2:=UInt8.toNat_inj.1 (by rw[<-hc,h3];rfl);subst this;refine ⟨?_,hm4,hm3⟩;have hw:(rBytes 96 (rUint mxU (rUint mxU (rByte (b,0)).2).2).2).1.length<=96:=hm2;have ht:(rUint 1073741824 (rBytes 96 (rUint mxU (rUint mxU (rByte (b,0)).2).2).2).2).1<=1073741824:=hm1;unfold putCmd;rw[if_pos (.inr ⟨.inl rfl,hw,by simp,by dsimp only;omega,fun h=>by cases h⟩)];simp only[Option.some.injEq];rw[e2,List.append_nil] at hb1;have e:∀ (s q:Nat) (w:List UInt8) (t:Nat),(Cmd.mk 2 s q w t).bytes=2::(uint s++(uint q++(putBytes w++uint t))):=fun s q w t=>by rfl
     grind
    ·rename_i h3;rw[if_neg h3] at hend;subst h;obtain ⟨e1,e2⟩:=rEnd_fin.1 hend;obtain ⟨f2,hb2,hm2⟩:=rBytes_fin e1;obtain ⟨f3,hb3,hm3⟩:=rUint_fin f2;obtain ⟨f4,hb4,hm4⟩:=rUint_fin f3;obtain ⟨_,c,hb,hc⟩:=rByte_fin f4;have h2':=h2.resolve_left h3;have:c=3:=UInt8.toNat_inj.1 (by rw[<-hc];exact h2');subst this;refine ⟨?_,hm4,hm3⟩;have hw:(rBytes 96 (rUint mxU (rUint mxU (rByte (b,0)).2).2).2).1.length<=96:=hm2;unfold putCmd;rw[if_pos (.inr ⟨.inr rfl,hw,Int.le_refl _,by simp,fun _=>rfl⟩)]
     grind [Cmd.bytes]
   ·rename_i h2;rw[if_neg h2] at hend
    grind [rEnd_fin]
 ·cases h
def refCmdR(b:List UInt8):Cmd×Rd:=
 let x:=rByte (b,0)
 if x.1=1 then (⟨1,0,0,[],0⟩,x.2)
 else
  let s:=rUint mxU x.2
  let q:=rUint mxU s.2
  let w:=rBytes 96 q.2
  if x.1=2 then (let t:=rUint 1073741824 w.2;(⟨2,s.1,q.1,w.1,t.1⟩,t.2)) else (⟨x.1,s.1,q.1,w.1,0⟩,w.2)
theorem rUint_le(m:Nat)(s:Rd):(rUint m s).1<=m:=by
 grind [rUint]
theorem refCmd_bd(b:List UInt8):(refCmdR b).1.ses<=mxU/\(refCmdR b).1.seq<=mxU:=by
 unfold refCmdR;dsimp only
 split
 ·simp
 grind [rUint_le]
theorem ref_getCmd(b:List UInt8):getCmd b=if rEnd (refCmdR b).2=0/\putCmd (refCmdR b).1=some b then some (refCmdR b).1 else none:=by
 by_cases h:rEnd (refCmdR b).2=0/\putCmd (refCmdR b).1=some b
 ·rw[if_pos h]
  grind [get_put,refCmd_bd]
 ·rw[if_neg h];cases hg:getCmd b with
  | none=>rfl
  | some c=>
   refine (h ?_).elim;obtain ⟨h1,_,_⟩:=put_get hg;unfold getCmd at hg
   split at hg
   ·rename_i hend;simp only[Option.some.injEq] at hg
    have hk:c.kind=1\/c.kind=2\/c.kind=3:=by
     unfold putCmd at h1
     split at h1
     ·rename_i hok;rcases hok with ⟨hk,_⟩|⟨hk,_⟩
      all_goals omega
     ·cases h1
    grind [refCmdR,getCmdR]
   ·cases hg
def ec{α:Type}:Option α->Int
 | some _=>0
 | none=>170
def ob(o:Option (List UInt8)):List UInt8:=o.getD []
def Cmd.zero:Cmd:=⟨0,0,0,[],0⟩
def Cmd.v(c:Cmd):Array Value:=#[.int .i64 c.kind,.int .u64 (c.ses:Nat),.int .u64 (c.seq:Nat),.string ⟨c.word.toArray⟩,.int .i64 c.wt]
theorem ec_zero{α:Type}{o:Option α}:ec o=0↔o.isSome=true:=by cases o <;> simp[ec]
theorem Cmd.bytes_length(c:Cmd)(h1:c.ses<=mxU)(h2:c.seq<=mxU)(h3:c.word.length<=96)(h4:c.wt<=1073741824):c.bytes.length<=200:=by
 have hmx:mxU=18446744073709551615:=rfl
 grind [uint_le10,Cmd.bytes,putBytes]
def confOK(last:Int):List Int->Prop
 | []=>True
 | v::r=>last<v/\v<7/\confOK v r
instance:∀ (last:Int) (l:List Int),Decidable (confOK last l)
 | _,[]=>.isTrue trivial
 | last,v::r=>by
  have:=instDecidableConfOK v r;unfold confOK
  infer_instance
def vbits:List Int->Nat
 | []=>0
 | v::r=>2 ^ v.toNat+vbits r
def putConf(l:List Int):Option (List UInt8):=if l≠[]/\confOK (-1) l then some [UInt8.ofNat (vbits l)] else none
def voters(n:Nat)(k:Nat):List Int:=((List.range k).filter (fun v=>decide (n / 2 ^ v % 2=1))).map Int.ofNat
def getConf:List UInt8->Option (List Int)
 | [c]=>if c.toNat=0\/128<=c.toNat then none else some (voters c.toNat 7)
 | _=>none
theorem voters_succ(n k:Nat):voters n (k+1)=voters n k++if n / 2 ^ k % 2=1 then [(k:Int)] else []:=by
 unfold voters;rw[List.range_succ,List.filter_append,List.map_append]
 grind
theorem voters_len(n:Nat):∀ k,(voters n k).length<=k
 | 0=>by simp[voters]
 | k+1=>by
  rw[voters_succ,List.length_append];have:=voters_len n k
  split <;> simp <;> omega
theorem confOK_len:∀ (l:List Int) (last:Int),confOK last l -> -1<=last->last<=6->(l.length:Int)<=6-last
 | [],_,_,_,_=>by simp;omega
 | v::r,last,h,h1,h2=>by
  obtain ⟨h3,h4,h5⟩:=h;have:=confOK_len r v h5 qo qo;simp only[List.length_cons];omega
theorem confOK_mem:∀ (l:List Int) (last:Int),confOK last l -> -1<=last->∀ v∈l,0<=v/\v<7
 | [],_,_,_=>by simp
 | v::r,last,h,h1=>by
  obtain ⟨h3,h4,h5⟩:=h;intro u hu;simp only[List.mem_cons] at hu;rcases hu with rfl|hu
  ·omega
  ·exact confOK_mem r v h5 qo u hu
def subs:Nat->List (List Int)
 | 0=>[[]]
 | m+1=>subs m++(subs m).map (fun l=>(6-(m:Int))::l)
theorem subs_mem:∀ (m:Nat) (l:List Int) (last:Int),confOK last l->6-(m:Int)<=last->l∈subs m
 | 0,[],_,_,_=>by simp[subs]
 | 0,v::r,last,h,hm=>by obtain ⟨h1,h2,_⟩:=h;omega
 | m+1,[],last,h,hm=>by
  have:[]∈subs m:=subs_mem m [] 6 trivial qo;simp[subs,this]
 | m+1,v::r,last,h,hm=>by
  obtain ⟨h1,h2,h3⟩:=h
  by_cases hv:v=6-(m:Int)
  ·have:=subs_mem m r v h3 qo
   simp_all [subs]
  ·have:=subs_mem m (v::r) (v-1) ⟨by omega,h2,h3⟩ qo
   simp_all [subs]
theorem subs_bits:∀ l∈subs 7,vbits l<128/\voters (vbits l) 7=l/\(l≠[]->0<vbits l):=by decide +kernel
theorem conf_bits{l:List Int}(h:confOK (-1) l):vbits l<128/\voters (vbits l) 7=l/\(l≠[]->0<vbits l):=subs_bits l (subs_mem 7 l (-1) h (by decide))
theorem or_add(x v:Nat)(hv:v<7)(hx:x<2 ^ v):Value.int .u8 (IntKind.u8.wrap (BitVec.ofInt 8 ((x:Nat):Int) ||| BitVec.ofInt 8 ((2 ^ v:Nat):Int)).toNat)=.int .u8 (x+2 ^ v:Nat):=by
 have hp:2 ^ v<=2 ^ 6:=Nat.pow_le_pow_right qo qo
 have e:(BitVec.ofInt 8 ((x:Nat):Int) ||| BitVec.ofInt 8 ((2 ^ v:Nat):Int)).toNat=x+2 ^ v:=by
  rw[BitVec.toNat_or,BitVec.ofInt_natCast,BitVec.ofInt_natCast,BitVec.toNat_ofNat,BitVec.toNat_ofNat,Nat.mod_eq_of_lt qo,Nat.mod_eq_of_lt qo,Nat.or_comm];have:=Nat.two_pow_add_eq_or_of_lt hx 1
  grind
 rw[e,u8m,Nat.mod_eq_of_lt qo]
theorem shl1(v:Nat)(hv:v<7):Value.int .u8 (IntKind.u8.wrap (1*2 ^ (min ((v:Nat):Int).toNat IntKind.u8.bits)))=.int .u8 (2 ^ v:Nat):=by
 obtain rfl|rfl|rfl|rfl|rfl|rfl|rfl:v=0\/v=1\/v=2\/v=3\/v=4\/v=5\/v=6:=by omega
 all_goals rfl
theorem shrN(x v:Nat)(hv:v<7):Value.int .u8 (((x:Nat):Int).fdiv (2 ^ (min ((v:Nat):Int).toNat IntKind.u8.bits)))=.int .u8 (x / 2 ^ v:Nat):=by
 have:min ((v:Nat):Int).toNat IntKind.u8.bits=v:=by
  have:IntKind.u8.bits=8:=rfl;omega
 grind
theorem and1N(x:Nat)(hx:x<256):Value.int .u8 (IntKind.u8.wrap (BitVec.ofInt 8 ((x:Nat):Int) &&& BitVec.ofInt 8 1).toNat)=.int .u8 (x % 2:Nat):=by
 grind [u8m]
theorem confOK_split:∀ (l r:List Int) (last:Int),confOK last (l++r)↔confOK last l/\confOK (l.getLastD last) r
 | [],r,last=>by simp[confOK]
 | v::l,r,last=>by
  show (last<v/\v<7/\confOK v (l++r))↔(last<v/\v<7/\confOK v l)/\confOK ((v::l).getLastD last) r;rw[confOK_split l r v]
  grind
theorem bits_append:∀ l r:List Int,vbits (l++r)=vbits l+vbits r
 | [],r=>by simp[vbits]
 | v::l,r=>by simp[vbits,bits_append l r];omega
theorem bits_lt:∀ (l:List Int) (last:Int),confOK last l -> -1<=last->vbits l+2 ^ (last+1).toNat<=2 ^ (l.getLastD last+1).toNat
 | [],last,_,_=>by simp[vbits]
 | v::l,last,h,h1=>by
  obtain ⟨h2,h3,h4⟩:=h;have:=bits_lt l v h4 qo;have e:(v::l).getLastD last=l.getLastD v:=by cases l <;> simp[List.getLastD]
  rw[e];have h5:2 ^ (last+1).toNat<=2 ^ v.toNat:=Nat.pow_le_pow_right (by decide) qo
  have h6:2 ^ (v+1).toNat=2*2 ^ v.toNat:=by
   rw[show (v+1).toNat=v.toNat+1 from by omega,Nat.pow_succ];omega
  simp only[vbits];omega
def iv(l:List Int):List Value:=l.map fun n=>Value.int .i64 n
theorem iv_get{l:List Int}{j:Nat}(h:j<l.length):(iv l)[j]?=some (.int .i64 l[j]):=by simp[iv,h]
theorem iv_getD{l:List Int}{j:Nat}(h:j<l.length):(iv l)[j]?=some (.int .i64 (l.getD j 0)):=by simp[iv,h,List.getD]
theorem iv_append(l r:List Int):iv (l++r)=iv l++iv r:=by simp[iv]
theorem iv_one(l:List Int):∀ u∈iv l,u.oneCell'=true:=by
 intro u hu;obtain ⟨b,_,rfl⟩:=List.mem_map.1 hu
 rfl
theorem last_take_succ(l:List Int)(i:Nat)(h:i<l.length)(d:Int):(l.take (i+1)).getLastD d=l[i]:=by
 grind
structure Ent where
 idx:Nat
 term:Nat
 kind:Int
 data:List UInt8
 deriving DecidableEq
def heldP(kind:Int)(data:List UInt8):Prop:=(kind=0/\data=[])\/(kind=1/\(getCmd data).isSome=true)\/(kind=2/\(getConf data).isSome=true)
instance (k:Int) (d:List UInt8):Decidable (heldP k d):=by unfold heldP;infer_instance
def Ent.ok(e:Ent):Prop:=e.idx≠0/\e.term≠0/\heldP e.kind e.data
instance (e:Ent):Decidable e.ok:=by unfold Ent.ok;infer_instance
def Ent.bytes(e:Ent):List UInt8:=uint e.idx++(uint e.term++(UInt8.ofNat e.kind.toNat::putBytes e.data))
def putEnt(e:Ent):Option (List UInt8):=if e.ok then some e.bytes else none
def getEntR(b:List UInt8):Ent×Rd:=
 let i:=rUint mxU (b,0)
 let t:=rUint mxU i.2
 let k:=rByte t.2
 let d:=rBytes 512 k.2
 (⟨i.1,t.1,(k.1:Nat),d.1⟩,d.2)
def getEnt(b:List UInt8):Option Ent:=if rEnd (getEntR b).2=0/\(getEntR b).1.ok then some (getEntR b).1 else none
theorem getCmd_len{b:List UInt8}{c:Cmd}(h:getCmd b=some c):b.length<=200:=by
 obtain ⟨h1,h2,h3⟩:=put_get h;unfold putCmd at h1
 split at h1
 ·rename_i hok;simp only[Option.some.injEq] at h1;rw[<-h1];rcases hok with ⟨h,_,_,hw,_⟩|⟨_,hw,h0,hm,_⟩
  ·rw[Cmd.bytes,if_pos h];simp
  ·exact Cmd.bytes_length c h2 h3 hw hm
 ·cases h1
theorem held_len{k:Int}{d:List UInt8}(h:heldP k d):d.length<=200:=by
 rcases h with ⟨_,rfl⟩|⟨_,h⟩|⟨_,h⟩
 ·simp
 ·grind [Option.isSome_iff_exists,getCmd_len]
 ·obtain ⟨c,hc⟩:=Option.isSome_iff_exists.1 h;unfold getConf at hc
  split at hc
  ·simp
  ·cases hc
theorem held_kind{k:Int}{d:List UInt8}(h:heldP k d):k=0\/k=1\/k=2:=by
 rcases h with ⟨h,_⟩|⟨h,_⟩|⟨h,_⟩
 all_goals omega
theorem Ent.bytes_length(e:Ent)(h:e.ok)(h1:e.idx<=mxU)(h2:e.term<=mxU):e.bytes.length<=250:=by
 have hmx:mxU=18446744073709551615:=rfl;have e1:=uint_le10 (n:=e.idx) qo;have e2:=uint_le10 (n:=e.term) qo;have e3:=held_len h.2.2
 grind [uint_le10,Ent.bytes,putBytes]
theorem getEntR_bd(b:List UInt8):(getEntR b).1.idx<=mxU/\(getEntR b).1.term<=mxU:=⟨rUint_le _ _,rUint_le _ _⟩
theorem putEnt_get{e:Ent}{b:List UInt8}(h:getEnt b=some e):putEnt e=some b/\e.idx<=mxU/\e.term<=mxU:=by
 unfold getEnt at h
 split at h
 ·rename_i hc;obtain ⟨hend,hok⟩:=hc;simp only[Option.some.injEq] at h;have hbd:=getEntR_bd b;rw[h] at hok hbd;refine ⟨?_,hbd⟩;obtain ⟨e1,e2⟩:=rEnd_fin.1 hend;unfold getEntR at h;have e1:(rBytes 512 (rByte (rUint mxU (rUint mxU (b,0)).2).2).2).2.2=0:=e1;have e2:(rBytes 512 (rByte (rUint mxU (rUint mxU (b,0)).2).2).2).2.1=[]:=e2;dsimp only at h;obtain ⟨f1,hb1,_⟩:=rBytes_fin e1;obtain ⟨f2,c,hb2,hc2⟩:=rByte_fin f1;obtain ⟨f3,hb3,_⟩:=rUint_fin f2;obtain ⟨f4,hb4,_⟩:=rUint_fin f3;unfold putEnt;rw[if_pos hok];simp only[Option.some.injEq];rw[e2,List.append_nil] at hb1
  grind [Int.toNat_natCast,UInt8.ofNat_toNat,Ent.bytes]
 ·cases h
def Ent.zero:Ent:=⟨0,0,0,[]⟩
def Ent.v(e:Ent)(ao:Option Addr)(cap:Nat):Array Value:=#[.int .u64 (e.idx:Nat),.int .u64 (e.term:Nat),.int .i64 e.kind,.slice ao e.data.length cap]
structure Msg where
 kind:Int
 frm:Int
 to:Int
 term:Nat
 idx:Nat
 lt:Nat
 com:Nat
 rnd:Nat
 good:Bool
 ents:List Ent
 off:Int
 whole:Int
 vot:List Int
 data:List UInt8
 deriving DecidableEq
inductive Fld where
 | idx|lt|com|rnd|off|whole|good|ents|vot|data
 deriving DecidableEq
def fieldsOf(k:Int):List Fld:=
 if k=1 then [.idx,.lt] else if k=2 then [.good] else if k=3 then [.idx,.lt,.com,.rnd,.ents] else if k=4 then [.good,.idx,.rnd]
 else if k=5 then [.idx,.lt,.off,.whole,.vot,.data] else if k=6 then [.idx,.off] else []
def u64of(x:Int):Nat:=(x % 18446744073709551616).toNat
def entsOK(at':Nat):Nat->List Ent->Prop
 | _,[]=>True
 | i,e::r=>e.ok/\e.idx=(at'+i+1) % 18446744073709551616/\at'<=e.idx/\entsOK at' (i+1) r
instance (at':Nat):∀ (i:Nat) (l:List Ent),Decidable (entsOK at' i l)
 | _,[]=>.isTrue trivial
 | i,e::r=>by
  have:=instDecidableEntsOK at' (i+1) r;unfold entsOK
  infer_instance
def entsBytes:List Ent->List UInt8
 | []=>[]
 | e::r=>putBytes e.bytes++entsBytes r
def Fld.pok(m:Msg):Fld->Prop
 | .idx|.lt|.com|.rnd|.good=>True
 | .off=>0<=m.off/\m.off<=2097152
 | .whole=>0<=m.whole/\m.whole<=2097152
 | .ents=>entsOK m.idx 0 m.ents/\m.ents.length<=8
 | .vot=>(putConf m.vot).isSome=true
 | .data=>m.data.length<=256/\m.off<=IntKind.i64.wrap (m.whole-m.data.length)
instance (m:Msg) (f:Fld):Decidable (f.pok m):=by cases f <;> unfold Fld.pok <;> infer_instance
def Fld.pby(m:Msg):Fld->List UInt8
 | .idx=>uint m.idx
 | .lt=>uint m.lt
 | .com=>uint m.com
 | .rnd=>uint m.rnd
 | .good=>[if m.good then 1 else 0]
 | .off=>uint (u64of m.off)
 | .whole=>uint (u64of m.whole)
 | .ents=>uint m.ents.length++entsBytes m.ents
 | .vot=>ob (putConf m.vot)
 | .data=>putBytes m.data
def Fld.clr(m:Msg):Fld->Msg
 | .idx=>{ m with idx:=0 }
 | .lt=>{ m with lt:=0 }
 | .com=>{ m with com:=0 }
 | .rnd=>{ m with rnd:=0 }
 | .good=>{ m with good:=false }
 | .off=>{ m with off:=0 }
 | .whole=>{ m with whole:=0 }
 | .ents=>{ m with ents:=[] }
 | .vot=>{ m with vot:=[] }
 | .data=>{ m with data:=[] }
def rFail(c:Int)(s:Rd):Rd:=(s.1,if s.2=0 then c else s.2)
def getEnts:Nat->Rd->List Ent->Rd×List Ent
 | 0,s,l=>(s,l)
 | n+1,s,l=>getEnts n (rFail (ec (getEnt (rBytes 512 s).1)) (rBytes 512 s).2) (l++[(getEnt (rBytes 512 s).1).getD Ent.zero])
def Fld.get(s:Rd)(m:Msg):Fld->Rd×Msg
 | .idx=>((rUint mxU s).2,{ m with idx:=(rUint mxU s).1 })
 | .lt=>((rUint mxU s).2,{ m with lt:=(rUint mxU s).1 })
 | .com=>((rUint mxU s).2,{ m with com:=(rUint mxU s).1 })
 | .rnd=>((rUint mxU s).2,{ m with rnd:=(rUint mxU s).1 })
 | .off=>((rUint 2097152 s).2,{ m with off:=((rUint 2097152 s).1:Nat) })
 | .whole=>((rUint 2097152 s).2,{ m with whole:=((rUint 2097152 s).1:Nat) })
 | .good=>(if 1<(rByte s).1 then rFail 170 (rByte s).2 else (rByte s).2,{ m with good:=decide ((rByte s).1=1) })
 | .ents=>((getEnts (rUint 8 s).1 (rUint 8 s).2 m.ents).1,{ m with ents:=(getEnts (rUint 8 s).1 (rUint 8 s).2 m.ents).2 })
 | .vot=>(rFail (ec (getConf [UInt8.ofNat (rByte s).1])) (rByte s).2,{ m with vot:=(getConf [UInt8.ofNat (rByte s).1]).getD [] })
 | .data=>((rBytes 256 s).2,{ m with data:=(rBytes 256 s).1 })
def clrAll:List Fld->Msg->Msg
 | [],m=>m
 | f::r,m=>clrAll r (f.clr m)
def pbyAll(m:Msg):List Fld->List UInt8
 | []=>[]
 | f::r=>f.pby m++pbyAll m r
def bareP(m:Msg):Prop:=m.idx=0/\m.lt=0/\m.com=0/\m.rnd=0/\m.good=false/\m.off=0/\m.whole=0/\m.ents=[]/\m.vot=[]/\m.data=[]
instance (m:Msg):Decidable (bareP m):=by unfold bareP;infer_instance
def placedP(n:Int):Prop:=0<=n/\n<7
instance (n:Int):Decidable (placedP n):=by unfold placedP;infer_instance
def hdr(m:Msg):List UInt8:=UInt8.ofNat m.kind.toNat::UInt8.ofNat m.frm.toNat::UInt8.ofNat m.to.toNat::uint m.term
def Msg.pre(m:Msg):Prop:=fieldsOf m.kind≠[]/\placedP m.frm/\placedP m.to/\m.frm≠m.to/\m.term≠0
instance (m:Msg):Decidable m.pre:=by unfold Msg.pre;infer_instance
def Msg.ok(m:Msg):Prop:=m.pre/\(∀ f∈fieldsOf m.kind,f.pok m)/\bareP (clrAll (fieldsOf m.kind) m)
instance (m:Msg):Decidable m.ok:=by unfold Msg.ok;infer_instance
def Msg.body(m:Msg):List UInt8:=hdr m++pbyAll m (fieldsOf m.kind)
def enc(m:Msg):Option (List UInt8):=if m.ok then some (sealed m.body) else none
def Msg.zero:Msg:=⟨0,0,0,0,0,0,0,0,false,[],0,0,[],[]⟩
structure Msg.bd (m:Msg):Prop where
 term:m.term<=mxU
 idx:m.idx<=mxU
 lt:m.lt<=mxU
 com:m.com<=mxU
 rnd:m.rnd<=mxU
 off : -9223372036854775808<=m.off/\m.off<=9223372036854775807
 whole : -9223372036854775808<=m.whole/\m.whole<=9223372036854775807
 ents:∀ e∈m.ents,e.idx<=mxU/\e.term<=mxU/\e.data.length<=4194304
 entsL:m.ents.length<=4194304
 vot:∀ v∈m.vot,-9223372036854775808<=v/\v<=9223372036854775807
 votL:m.vot.length<=4194304
 dataL:m.data.length<=4194304
theorem voters_mem(n:Nat):∀ k,k<=7->∀ v∈voters n k,0<=v/\v<7:=by
 intro k hk v hv;unfold voters at hv
 grind
theorem getConf_mem(x:List UInt8):((getConf x).getD []).length<=7/\∀ v∈(getConf x).getD [],0<=v/\v<7:=by
 unfold getConf
 split
 ·split
  ·simp
  ·exact ⟨voters_len _ _,voters_mem _ 7 (Nat.le_refl _)⟩
 ·simp
end
section
def T:Tab:={
 kinds:=[(1,.fn),(2,.int .i64),(3,.int .i64),(4,.bool),(5,.int .u8),(6,.int .u8),(9,.str),(10,.str),(11,.str),(12,.int .u64),(15,.ptr),(16,.ptr),(17,.ptr),(21,.int .i32),(22,.slice),(23,.ptr),(24,.ptr),(25,.ptr),(27,.fn),(28,.fn),(29,.int .u64),(30,.slice),(31,.slice),(32,.slice),(37,.int .i64),(38,.fn),(39,.slice),(40,.fn),(41,.fn),(42,.fn),(43,.fn),(44,.fn),(49,.fn),(53,.fn),(54,.fn),(55,.fn),(57,.fn),(58,.fn),(59,.fn),(60,.fn),(63,.slice),(64,.ptr),(65,.fn),(66,.fn),(67,.slice),(68,.slice),(69,.slice),(70,.map),(71,.slice),(76,.fn),(81,.fn),(86,.fn),(87,.fn),(88,.fn),(89,.fn),(91,.fn),(95,.fn),(96,.fn),(97,.fn),(98,.fn),(108,.fn),(109,.fn),(110,.fn),(113,.fn),(115,.fn),(116,.ptr),(117,.ptr),(120,.fn),(121,.fn),(122,.fn),(123,.fn),(124,.map),(127,.slice),(128,.fn),(129,.map),(130,.fn),(131,.fn),(132,.fn),(133,.fn),(134,.slice),(138,.fn),(139,.fn),(141,.fn),(142,.fn),(143,.fn),(145,.fn),(146,.fn),(147,.fn),(148,.fn),(149,.fn),(150,.fn),(151,.fn),(153,.fn),(154,.fn),(155,.fn),(156,.fn),(157,.fn),(158,.fn),(160,.fn),(161,.fn),(162,.fn),(164,.fn),(166,.fn),(167,.fn),(168,.fn),(169,.fn),(170,.fn),(171,.fn),(172,.fn),(173,.fn),(174,.fn),(175,.fn),(176,.fn),(180,.fn),(181,.ptr),(182,.fn),(183,.fn),(184,.fn),(185,.fn),(187,.fn),(188,.ptr),(189,.slice),(190,.slice),(194,.fn),(195,.fn),(198,.fn),(199,.fn),(200,.fn),(201,.fn),(203,.fn),(204,.fn),(205,.fn),(206,.fn),(207,.slice),(208,.fn),(209,.fn),(210,.fn),(211,.fn),(212,.fn),(215,.ptr),(216,.fn),(217,.fn),(218,.fn),(220,.fn),(221,.fn),(222,.fn),(224,.fn),(225,.ptr),(226,.fn),(227,.fn),(228,.ptr),(229,.fn),(230,.fn),(231,.fn),(232,.fn),(233,.fn),(234,.fn),(235,.fn),(236,.fn),(237,.fn),(238,.fn),(239,.fn),(240,.fn),(241,.fn),(242,.fn),(243,.fn),(244,.int .u64),(246,.fn),(247,.fn),(251,.fn),(253,.fn),(254,.fn),(257,.fn),(259,.ptr),(260,.fn),(261,.fn),(262,.fn),(263,.fn),(264,.fn),(265,.fn),(266,.int .u32),(267,.fn),(268,.fn),(269,.fn),(270,.fn),(271,.fn),(272,.fn),(273,.fn),(274,.fn),(275,.fn),(276,.fn),(277,.fn),(278,.fn),(279,.fn),(280,.int .i64),(282,.fn),(283,.fn),(284,.fn),(285,.fn),(286,.fn),(287,.fn),(288,.fn),(289,.fn),(290,.ptr),(291,.ptr),(294,.fn),(295,.fn),(299,.fn),(301,.fn),(303,.fn),(304,.fn),(305,.fn),(306,.fn),(307,.fn),(308,.fn),(309,.fn),(310,.int .u64),(311,.fn),(312,.fn),(313,.fn),(314,.fn),(315,.fn),(316,.ptr),(318,.fn),(319,.fn),(320,.fn),(326,.int .u8),(327,.int .u8),(328,.fn),(329,.ptr),(330,.int .i32),(331,.int .i32)],
 flds:=[(448,0),(449,1),(450,2),(451,3),(512,0),(513,1),(514,2),(515,3),(832,0),(833,1),(896,0),(897,1),(1152,0),(1216,0),(2112,0),(2113,1),(2114,2),(2115,3),(2116,4),(2117,5),(2118,6),(2119,7),(2120,8),(2121,9),(2122,10),(2123,11),(2124,12),(2125,13),(2176,0),(2177,1),(2178,2),(2179,3),(2180,4),(2181,5),(2182,6),(2183,7),(2184,8),(2185,9),(2186,10),(2187,11),(2188,12),(2189,13),(2240,0),(2241,1),(2242,2),(2243,3),(2304,0),(2305,1),(2306,2),(2307,3),(2880,0),(2944,0),(3008,0),(3009,1),(3010,2),(3011,3),(3072,0),(3073,1),(3074,2),(3075,3),(3200,0),(3201,1),(3202,2),(3203,3),(3264,0),(3265,1),(3266,2),(3267,3),(3904,0),(3905,1),(3968,0),(3969,1),(4608,0),(4609,1),(4610,2),(4611,3),(4612,4),(4613,5),(4614,6),(4615,7),(4616,8),(4617,9),(4672,0),(4673,1),(4674,2),(4675,3),(4676,4),(4677,5),(4678,6),(4679,7),(4680,8),(4681,9),(4736,0),(4737,1),(4800,0),(4801,1),(4928,0),(4929,1),(4930,2),(4992,0),(4993,1),(4994,2),(5056,0),(5057,1),(5058,2),(5059,3),(5060,4),(5120,0),(5121,1),(5122,2),(5123,3),(5124,4),(5248,0),(5249,1),(5250,2),(5251,3),(5252,4),(5253,5),(5312,0),(5313,1),(5314,2),(5315,3),(5316,4),(5317,5),(5376,0),(5377,1),(5378,2),(5440,0),(5441,1),(5442,2),(5888,0),(5889,1),(5890,2),(5891,3),(5892,4),(5952,0),(5953,1),(5954,2),(5955,3),(5956,4),(6336,0),(6337,1),(6338,2),(6339,3),(6340,4),(6400,0),(6401,1),(6402,2),(6403,3),(6404,4),(6528,0),(6529,1),(6592,0),(6593,1),(6720,0),(6721,1),(6722,2),(6723,3),(6724,4),(6725,5),(6726,6),(6727,7),(6728,8),(6729,9),(6730,10),(6731,45),(6732,50),(6733,51),(6784,0),(6785,1),(6786,2),(6787,3),(6788,4),(6789,5),(6790,6),(6791,7),(6792,8),(6793,9),(6794,10),(6795,45),(6796,50),(6797,51),(7104,0),(7105,1),(7168,0),(7169,1),(7552,0),(7553,1),(7554,2),(7555,3),(7556,4),(7557,6),(7558,10),(7559,11),(7560,12),(7561,13),(7616,0),(7617,1),(7618,2),(7619,3),(7620,4),(7621,6),(7622,10),(7623,11),(7624,12),(7625,13),(8000,0),(8001,1),(8002,2),(8003,3),(8004,4),(8064,0),(8065,1),(8066,2),(8067,3),(8068,4),(8640,0),(8641,1),(8704,0),(8705,1),(11328,0),(11329,1),(11330,2),(11331,3),(11392,0),(11393,1),(11394,2),(11395,3),(12224,0),(12225,1),(12226,2),(12227,3),(12228,4),(12229,5),(12230,6),(12288,0),(12289,1),(12290,2),(12291,3),(12292,4),(12293,5),(12294,6),(12544,0),(12545,1),(12608,0),(12609,1),(13632,0),(13633,1),(13634,2),(13696,0),(13697,1),(13698,2),(15872,0),(15873,1),(15936,0),(15937,1),(16320,0),(16321,4),(16384,0),(16385,4),(18688,0),(18689,2),(18690,3),(18752,0),(18753,2),(18754,3),(18944,0),(18945,1),(18946,2),(19008,0),(19009,1),(19010,2),(20544,0),(20545,1),(20546,2),(20547,3),(20608,0),(20609,1),(20610,2),(20611,3),(21248,0),(21249,1),(21250,2),(21251,3),(21252,4),(21253,5),(21254,6),(21255,7),(21256,8),(21257,9),(21258,10),(21312,0),(21313,1),(21314,2),(21315,3),(21316,4),(21317,5),(21318,6),(21319,7),(21320,8),(21321,9),(21322,10)],
 sls:=[(22,⟨36,17,184,.agg #[.int .i64 0,.int .i64 0,.int .u64 0,.int .i64 0,.int .i64 0,.int .i64 0,.int .u64 0,.int .u64 0,.int .u64 0,.int .u64 0,.int .u64 0,.bool false,.slice none 0 0,.int .i64 0,.int .i64 0,.slice none 0 0,.slice none 0 0]⟩),
  (30,⟨51,4,48,.agg #[.int .u64 0,.int .u64 0,.int .i64 0,.slice none 0 0]⟩),
  (31,⟨3,1,8,.int .i64 0⟩),
  (32,⟨5,1,1,.int .u8 0⟩),
  (39,⟨34,14,160,.agg #[.int .i64 0,.int .i64 0,.int .i64 0,.int .u64 0,.int .u64 0,.int .u64 0,.int .u64 0,.int .u64 0,.bool false,.slice none 0 0,.int .i64 0,.int .i64 0,.slice none 0 0,.slice none 0 0]⟩),
  (63,⟨80,5,56,.agg #[.int .i64 0,.int .i64 0,.int .i64 0,.int .u64 0,.slice none 0 0]⟩),
  (67,⟨85,3,24,.agg #[.pointer none,.pointer none,.pointer none]⟩),
  (68,⟨75,2,16,.agg #[.int .u64 0,.int .i64 0]⟩),
  (69,⟨78,3,24,.agg #[.int .i64 0,.int .i64 0,.int .u64 0]⟩),
  (71,⟨83,6,48,.agg #[.int .i64 0,.int .u64 0,.int .u64 0,.int .u64 0,.int .u64 0,.int .u64 0]⟩),
  (127,⟨29,1,8,.int .u64 0⟩),
  (134,⟨9,1,16,.string ⟨#[]⟩⟩),
  (189,⟨32,1,24,.slice none 0 0⟩),
  (190,⟨197,2,16,.agg #[.int .u64 0,.int .u64 0]⟩),
  (207,⟨214,3,24,.agg #[.nilFunc,.nilFunc,.nilFunc]⟩)] }
instance hT:TabOK Tryz.prog T where
 kinds:=by kernel_rfl
 flds:=by kernel_rfl
 sls:=by kernel_rfl
end
section
attribute [local irreducible] Code.wp wpList Calls
theorem putUint{w0:World}{K h:PH}{R:List PH}(ao:Option Addr)(c1:Nat)(bs:List UInt8)(n:Nat)(o:Own h ao bs.length c1 5 1 (bv bs))(hn:n<18446744073709551616)(hb:bs.length<1099511627776):
  Ct Tryz.prog w0 132 [.slice ao bs.length c1,.int .u64 (n:Nat)] K (h::R)
   (fun v K' hs'=>∃ h',hs'=h'::R/\K'=K/\∃ ao' c',v=.slice ao' (bs++uint n).length c'/\Own h' ao' (bs++uint n).length c' 5 1 (bv (bs++uint n))):=by
 refine entA Tryz.func132 ?_
 refine loop (σ:=List UInt8×Nat×Option Addr×Nat×PH) (fun x=>[(0,.slice x.2.2.1 x.1.length x.2.2.2.1),(1,.int .u64 (x.2.1:Nat)),(4,.slice none 0 0)]) (fun _=>K) (fun x=>x.2.2.2.2::R)
  (fun x=>Own x.2.2.2.2 x.2.2.1 x.1.length x.2.2.2.1 5 1 (bv x.1)/\x.1++uint x.2.1=bs++uint n/\x.2.1<18446744073709551616) (fun x=>x.2.1) (bs,n,ao,c1,h) ⟨o,rfl,hn⟩ ⟨rfl,rfl,rfl,trivial⟩ rfl rfl ?_
 rintro ⟨bs',m,ao',c',h'⟩ ⟨o',heq,hm⟩;dsimp only at o' heq hm ⊢
 have hbs:bs'.length<=bs.length+10:=by
  have h1:=congrArg List.length heq;have h2:=uint_le10 hn;simp at h1;omega
 refine sq<|sq (rg<|cmp 1 I (fun h1=>?_) (fun h1=>?_))
 ·refine au ?_;refine ar 2 I (u8m m) (ar 0 I (v':=.int .u8 (m % 128+128:Nat)) (u8or128 m) (lit 0 #[.int .u8 (m % 128+128:Nat)] I (by decide) qk fun b=>app 0 1 I I o' (.inr ⟨0,I⟩) (isS_byte b (m % 128+128) qo) I (by decide) (bv_one _) (by simp;omega) (by simp[maxLen];omega) fun ao2 c2 h2 o2=>au ?_));refine ar 1 I (v':=.int .u64 (m / 128:Nat)) (u64shr7 m) (fin 1 I (bl (WQ.drop ?_)));rw[<-bv_append] at o2;have e1:(bs'++[UInt8.ofNat (m % 128+128)]).length=bs'.length+1:=by simp
  rw[<-e1] at o2;have e2:=uint_ge (n:=m) qo
  exact again (x:=(bs',m,ao',c',h')) (bs'++[UInt8.ofNat (m % 128+128)],m / 128,ao2,c2,h2) ⟨by rw[<-e1];rfl,rfl,rfl,trivial⟩ rfl rfl
   ⟨o2,by simp only[List.append_assoc,List.singleton_append];rw[<-e2];exact heq,by dsimp only;omega⟩ (by dsimp only;omega)
 ·refine fin 0 I (th (ifF I (ex (xt (xt (xb (th (sq (rg ?_)))))) )));have hlt:m<128:=by omega
  refine ar 2 I (u8m m) (lit 0 #[.int .u8 (m % 256:Nat)] I (by decide) qk fun b=>app 0 1 I I o' (.inr ⟨0,I⟩) (isS_byte b (m % 256) qo) I (by decide) (bv_one _) (by simp;omega) (by simp[maxLen];omega) fun ao2 c2 h2 o2=>fin 1 rfl (th (WC.drop (rt ?_))));rw[<-bv_append] at o2;have e1:m % 256=m:=by omega
  have e2:bs'++[UInt8.ofNat (m % 256)]=bs++uint n:=by rw[e1,<-heq,uint_lt hlt]
  have e3:bs'.length+1=(bs++uint n).length:=by rw[<-e2];simp
  rw[e2,e3] at o2;exact ret1 I (by rw[<-e3];rfl) ⟨h2,rfl,rfl,ao2,c2,rfl,o2⟩
theorem sumC{w0:World}{K hb:PH}{hs:List PH}(ao:Option Addr)(cap:Nat)(b:List UInt8)(hm:In K hs hb)(x:IsS hb ao b.length cap 1 (bv b))(hl:b.length<1099511627776):
  Ct Tryz.prog w0 192 [.slice ao b.length cap] K hs (fun v K' hs'=>K'=K/\hs'=hs/\v=.int .u32 ((crc b).toNat:Nat)):=by
 refine entA Tryz.func192 ?_
 refine loop (σ:=Nat) (fun j=>[(6,.slice ao b.length cap),(7,.int .i64 (b.length:Nat)),(8,.int .i64 (j:Nat)),(3,.int .u32 ((crcRaw 4294967295#32 (b.take j)).toNat:Nat))]) (fun _=>K) (fun _=>hs) (fun j=>j<=b.length) (fun j=>b.length-j)
  0 (Nat.zero_le _) ⟨rfl,rfl,rfl,rfl,trivial⟩ rfl rfl ?_
 intro j hj;refine sq (rg (cmp 0 I (fun h1=>?_) (fun h1=>?_)))
 ·have hlt:j<b.length:=by omega
  refine au ?_;refine ix1 0 j I I I x (bv_get hlt) fun a10 hc10=>ld 0 I hm hc10 (au ?_);refine ar 2 I (u32ofByte _) (ar 0 I (u32xor _ _) (au ?_))
  refine loop (σ:=Nat) (fun i=>[(16,.int .i64 (i:Nat)),(3,.int .u32 ((crcBits i (crcRaw 4294967295#32 (b.take j) ^^^ BitVec.ofNat 32 b[j].toNat)).toNat:Nat)),(6,.slice ao b.length cap),(7,.int .i64 (b.length:Nat)),(8,.int .i64 (j:Nat))]) (fun _=>K) (fun _=>hs) (fun i=>i<=8) (fun i=>8-i)
   0 (Nat.zero_le _) ⟨rfl,rfl,rfl,rfl,rfl,trivial⟩ rfl rfl ?_
  intro i hi;refine sq (rg (cmp 0 I (fun h2=>?_) (fun h2=>?_)))
  ·refine au ?_;refine ar 1 I (u32shr1 _) (ar 1 I (u32and1 _) (ar 0 I (u32neg _) (ar 0 I (u32andP _) (ar 0 I (u32xor _ _) (au ?_)))));refine ar 0 I (i64w qo) (fin 1 I ?_);exact again (x:=i) (i+1) ⟨I,by rw[crcBits_succ];rfl,rfl,rfl,rfl,trivial⟩ rfl rfl qo qo
  ·obtain rfl:i=8:=by omega
   refine au ?_;refine ar 0 I (i64w qo) (fin 1 I ?_);exact again (x:=j) (j+1) ⟨I,I,I,by rw[take_succ_get b j hlt,crcRaw_snoc];rfl,trivial⟩ rfl rfl qo qo
 ·obtain rfl:j=b.length:=by omega
  refine au ?_;refine ar 1 I (u32not _) (au ?_);exact ret1 I I ⟨I,I,by rw[List.take_length];rfl⟩
end
section
attribute [local irreducible] Code.wp wpList Calls
theorem cloneB{w0:World}{K hb:PH}{hs:List PH}(ao:Option Addr)(cap:Nat)(b:List UInt8)(hm:In K hs hb)(x:IsS hb ao b.length cap 1 (bv b))(hl:b.length<1099511627776):
  Ct Tryz.prog w0 46 [.slice ao b.length cap] K hs
   (fun v K' hs'=>K'=K/\∃ h' ao' c',hs'=h'::hs/\v=.slice ao' b.length c'/\Own h' ao' b.length c' 5 1 (bv b)):=by
 refine entA Tryz.func46 ?_;refine cb 1 I (fun h1=>?_) (fun h1=>?_)
 ·have hao:ao=none:=by simpa using h1
  subst hao
  have hb0:b=[]:=by
   cases b with
   | nil=>rfl
   | cons c r=>obtain ⟨a,ha,_⟩:=x.2.2 0 _ (by rfl);cases ha
  subst hb0;exact fin 0 I (th (ifT I (sq (rg (fin 1 I (th (rt (rT (WQ.em (ret1 I I ⟨I,em,none,0,I,I,Own.nil _ _⟩))))))))))
 ·refine au ?_;refine lit 0 #[] I (by decide) qk fun b5=>app 1 0 I I (Own.ofPt (c:=#[]) (n:=0) (by simp) (by simp[maxLen])) (In.cons hm) x I (by decide) (bv_one _) (by simp;omega) (by simp[maxLen];omega) fun ao7 c7 g7 o7=>au ?_;have e:0+b.length=b.length:=Nat.zero_add _;rw[e] at o7;exact ret1 I (by rw[e];rfl) ⟨rfl,g7,ao7,c7,rfl,rfl,o7⟩
theorem numberC{w0:World}{K hb:PH}{hs:List PH}(ao:Option Addr)(cap:Nat)(b:List UInt8)(hm:In K hs hb)(x:IsS hb ao b.length cap 1 (bv b))(hl:b.length<1099511627776):
  Ct Tryz.prog w0 170 [.slice ao b.length cap] K hs
   (fun v K' hs'=>K'=K/\hs'=hs/\v=.tuple #[.int .u64 ((number 0 0 b).1:Nat),.int .i64 ((number 0 0 b).2.1:Nat),.int .i64 (number 0 0 b).2.2]):=by
 refine entA Tryz.func170 ?_
 refine loop (σ:=Nat×Nat) (fun s=>[(5,.int .u64 (s.2:Nat)),(8,.slice ao b.length cap),(9,.int .i64 (b.length:Nat)),(10,.int .i64 (s.1:Nat))]) (fun _=>K) (fun _=>hs)
  (fun s=>s.1<=b.length/\s.1<=9/\s.2<128 ^ s.1/\number s.1 s.2 (b.drop s.1)=number 0 0 b) (fun s=>b.length-s.1) (0,0) ⟨Nat.zero_le _,by omega,by simp,rfl⟩ ⟨rfl,rfl,rfl,rfl,trivial⟩ rfl rfl ?_
 rintro ⟨i,acc⟩ ⟨hi,hi9,hacc,hnum⟩;dsimp only at hi hi9 hacc hnum ⊢;refine sq (rg (cmp 0 I (fun h1=>?_) (fun h1=>?_)))
 ·have hlt:i<b.length:=by omega
  have hd:b.drop i=b[i]::b.drop (i+1):=List.drop_eq_getElem_cons hlt;rw[hd] at hnum;have hc:=b[i].toNat_lt;generalize hcc:b[i]=c at *;have hm128:c.toNat % 128<128:=Nat.mod_lt _ (by decide);rw[number_cons] at hnum;refine au ?_;refine ix1 1 i I I I x (by rw[bv_get hlt,hcc]) fun a13 hc13=>ld 0 I hm hc13 (au ?_);refine cmp 1 I (fun h2=>?_) (fun h2=>?_)
  ·refine cmp 2 I (fun h3=>?_) (fun h3=>?_)
   ·rw[if_pos ⟨by omega,by omega⟩] at hnum;refine au ?_;exact ret3 I I I I ⟨I,I,by rw[<-hnum];rfl⟩
   ·rw[if_neg qo,if_neg qo] at hnum;have hb1:=mul_pow_lt hi9 hacc hm128 qo;refine au ?_;refine ar 2 I (u8and127 _) (ar 0 I (u64w qo) (ar 1 I (i64w qo) (shf 0 I qo (.inl ⟨I,u64shl7 _ _ hi9 qo⟩) (ar 0 I (u64or _ _ _ hacc hb1.1) (au ?_)))));refine cmp 1 I (fun h4=>absurd h4 qo) (fun h4=>au ?_);refine cmp 1 I (fun h5=>?_) (fun h5=>?_)
    ·refine cmp 2 I (fun h6=>?_) (fun h6=>absurd h6 qo);rw[if_pos ⟨by omega,by omega⟩] at hnum;refine au ?_;exact ret3 I I I I ⟨I,I,by rw[<-hnum];rfl⟩
    ·rw[if_neg qo] at hnum;refine au ?_;refine ar 2 I (i64w qo) (au ?_);exact ret3 I I I I ⟨I,I,by rw[<-hnum];rfl⟩
  ·rw[if_neg qo] at hnum;have hb1:=mul_pow_lt hi9 hacc hm128 qo;refine au ?_;refine ar 2 I (u8and127 _) (ar 0 I (u64w qo) (ar 1 I (i64w qo) (shf 0 I qo (.inl ⟨I,u64shl7 _ _ hi9 qo⟩) (ar 0 I (u64or _ _ _ hacc hb1.1) (au ?_)))));refine cmp 1 I (fun h7=>?_) (fun h7=>?_)
   ·rw[if_pos qo] at hnum;refine au ?_;exact ar 0 I (i64w qo) (fin 1 I (again (x:=(i,acc)) (i+1,acc+c.toNat % 128*128 ^ i) ⟨I,I,I,I,trivial⟩ I I ⟨by dsimp only;omega,by omega,hb1.2 qo,hnum⟩ (by dsimp only;omega)))
   ·rw[if_neg qo] at hnum;refine au ?_;refine cmp 1 I (fun h8=>?_) (fun h8=>?_)
    ·refine cmp 2 I (fun h9=>?_) (fun h9=>?_)
     ·rw[if_pos ⟨by omega,by omega⟩] at hnum;refine au ?_;exact ret3 I I I I ⟨I,I,by rw[<-hnum];rfl⟩
     ·rw[if_neg qo] at hnum;refine au ?_;refine ar 2 I (i64w qo) (au ?_);exact ret3 I I I I ⟨I,I,by rw[<-hnum];rfl⟩
    ·rw[if_neg qo] at hnum;refine au ?_;refine ar 2 I (i64w qo) (au ?_);exact ret3 I I I I ⟨I,I,by rw[<-hnum];rfl⟩
 ·obtain rfl:i=b.length:=by omega
  refine au ?_;exact ret3 I I I I ⟨I,I,by rw[<-hnum,List.drop_length];rfl⟩
end
section
attribute [local irreducible] Code.wp wpList Calls
def IsRd(rb:Nat)(hb:PH)(s:Rd)(h:PH):Prop:=∃ ao cap,h=pt rb #[.slice ao s.1.length cap,.int .i64 s.2] 249/\IsS hb ao s.1.length cap 1 (bv s.1)
section
variable {w0:World} {K hb h:PH} {R:List PH} {rb:Nat}
theorem endC(s:Rd)(r:IsRd rb hb s h):Ct Tryz.prog w0 106 [.pointer (some ⟨rb,0,none⟩)] K (h::R) (fun v K' hs'=>K'=K/\hs'=h::R/\v=.int .i64 (rEnd s)):=by
 obtain ⟨ao,cap,rfl,x⟩:=r;obtain ⟨b,e⟩:=s;refine entA Tryz.func106 ?_;refine cmp 0 I (fun h1=>?_) (fun h1=>?_)
 ·refine au ?_;refine cmp 1 I (fun h2=>?_) (fun h2=>?_)
  ·refine au ?_;exact ret1 I I ⟨I,I,by simp_all [rEnd]⟩
  ·refine au ?_;exact ret1 I I ⟨I,I,by simp_all [rEnd]⟩
 ·refine au ?_;exact ret1 I I ⟨I,I,by rw[rEnd,if_neg (fun h=>h1 h.1)];rfl⟩
theorem failC(s:Rd)(e:Int)(r:IsRd rb hb s h):Ct Tryz.prog w0 152 [.pointer (some ⟨rb,0,none⟩),.int .i64 e] K (h::R)
  (fun v K' hs'=>∃ h',hs'=h'::R/\K'=K/\v=.tuple #[]/\IsRd rb hb (s.1,if s.2=0 then e else s.2) h'):=by
 obtain ⟨ao,cap,rfl,x⟩:=r;obtain ⟨b,e0⟩:=s;refine entA Tryz.func152 ?_;refine cmp 0 I (fun h1=>?_) (fun h1=>?_)
 ·refine au ?_;exact end0 I ⟨_,I,I,I,ao,cap,by rw[if_pos h1];rfl,x⟩
 ·refine au ?_;exact end0 I ⟨_,I,I,I,ao,cap,by rw[if_neg h1],x⟩
theorem byteC(hm:In K R hb)(s:Rd)(r:IsRd rb hb s h):Ct Tryz.prog w0 108 [.pointer (some ⟨rb,0,none⟩)] K (h::R)
  (fun v K' hs'=>∃ h',hs'=h'::R/\K'=K/\v=.int .u8 ((rByte s).1:Nat)/\IsRd rb hb (rByte s).2 h'):=by
 obtain ⟨ao,cap,rfl,x⟩:=r;obtain ⟨b,e⟩:=s;refine entA Tryz.func108 ?_;refine cmp 0 I (fun h1=>?_) (fun h1=>?_)
 ·dsimp only at h1;refine au ?_;refine cmp 1 I (fun h2=>?_) (fun h2=>?_)
  ·dsimp only at h2;have hb0:b=[]:=List.eq_nil_of_length_eq_zero qo;subst hb0;refine au ?_;exact ret1 I I ⟨_,I,I,by simp[rByte,h1],ao,cap,by simp[rByte,h1],by simpa[rByte,h1] using x⟩
  ·cases b with
   | nil=>exact absurd rfl h2
   | cons c r=>
    have hv:(rByte (c::r,e))=(c.toNat,(r,0)):=by simp[rByte,h1]
    refine au ?_;refine cmp 0 I (fun h3=>absurd h1 h3) (fun h3=>au ?_);refine ix1 0 0 I I I x (by rfl) fun a31 hc31=>ld 0 I (In.cons hm) hc31 (au ?_);refine sl 0 1 r.length I x I (by simp;omega) (by simp;omega) (ys:=bv r) (by simp[List.take_of_length_le,bv]) fun ao38 c38 x38=>au ?_;rw[hv];exact ret1 I I ⟨_,I,I,I,ao38,c38,by rw[h1];rfl,x38⟩
 ·dsimp only at h1;have hv:(rByte (b,e))=(0,(b,e)):=by simp[rByte,h1]
  refine au ?_;refine cmp 0 I (fun h4=>au ?_) (fun h4=>absurd h1 h4);rw[hv];exact ret1 I I ⟨_,I,I,I,ao,cap,I,x⟩
theorem uintC(hm:In K R hb)(most:Nat)(s:Rd)(hl:s.1.length<1099511627776)(r:IsRd rb hb s h):Ct Tryz.prog w0 105 [.pointer (some ⟨rb,0,none⟩),.int .u64 (most:Nat)] K (h::R)
  (fun v K' hs'=>∃ h',hs'=h'::R/\K'=K/\v=.int .u64 ((rUint most s).1:Nat)/\IsRd rb hb (rUint most s).2 h'):=by
 obtain ⟨ao,cap,rfl,x⟩:=r;obtain ⟨b,e⟩:=s;refine entA Tryz.func105 ?_;refine cmp 0 I (fun h1=>?_) (fun h1=>?_)
 ·dsimp only at h1;have hv:rUint most (b,e)=(0,(b,e)):=by simp[rUint,h1]
  refine au ?_;rw[hv];exact ret1 I I ⟨_,I,I,I,ao,cap,I,x⟩
 ·dsimp only at h1 hl x;have he:e=0:=by omega
  subst he;refine au ?_;refine cl 0 I (numberC ao cap b (In.cons hm) x hl) ?_;rintro v18 K18 hs18 ⟨rfl,rfl,rfl⟩;have hbd:=number_bd b 0 0 qo qo;have hun:rUint most (b,0)=if (number 0 0 b).2.2=0 then (if most<(number 0 0 b).1 then (0,(b,22)) else ((number 0 0 b).1,(b.drop (number 0 0 b).2.1,0))) else (0,(b,(number 0 0 b).2.2)):=by simp[rUint]
  generalize number 0 0 b=N at *;obtain ⟨nn,kk,ee⟩:=N;dsimp only at hun hbd ⊢;refine au ?_;refine cmp 1 I (fun h2=>?_) (fun h2=>?_)
  ·subst h2;rw[if_pos rfl] at hun;refine cmp 3 I (fun h3=>?_) (fun h3=>?_)
   ·rw[if_pos qo] at hun;refine au ?_;refine cmp 1 I (fun h4=>au ?_) (fun h4=>absurd (by decide) h4);rw[hun];exact ret1 I I ⟨_,I,I,I,ao,cap,I,x⟩
   ·rw[if_neg qo] at hun;refine au ?_;refine cmp 1 I (fun h5=>absurd I h5) (fun h5=>au ?_);refine sl 1 kk (b.length-kk) I x I (by simp;omega) qo (ys:=bv (b.drop kk)) (by simp[List.take_of_length_le,bv]) fun ao41 c41 x41=>au ?_;rw[hun];have e1:b.length-kk=(b.drop kk).length:=by simp
    rw[e1] at x41;exact ret1 I I ⟨_,I,I,I,ao41,c41,by rw[e1];rfl,x41⟩
  ·rw[if_neg h2] at hun;refine au ?_;refine cmp 1 I (fun h6=>au ?_) (fun h6=>absurd h2 h6);rw[hun];exact ret1 I I ⟨_,I,I,I,ao,cap,I,x⟩
theorem bytesC(hm:In K R hb)(most:Int)(hmost:most<=9223372036854775807)(s:Rd)(hl:s.1.length<1099511627776)(r:IsRd rb hb s h):Ct Tryz.prog w0 151 [.pointer (some ⟨rb,0,none⟩),.int .i64 most] K (h::R)
  (fun v K' hs'=>∃ h' new,hs'=new++h'::R/\K'=K/\∃ hx ao' c',new=[hx]/\v=.slice ao' (rBytes most s).1.length c'/\Own hx ao' (rBytes most s).1.length c' 5 1 (bv (rBytes most s).1)/\IsRd rb hb (rBytes most s).2 h'):=by
 obtain ⟨ao,cap,rfl,x⟩:=r;obtain ⟨b,e⟩:=s;dsimp only at hl x ⊢;refine entA Tryz.func151 ?_;refine ar 3 I (v':=.int .u64 (most.toNat:Nat)) (by grind [u64w]) (cl 0 I (uintC hm most.toNat (b,e) hl ⟨ao,cap,I,x⟩) ?_);rintro v16 K16 hs16 ⟨h',rfl,rfl,rfl,ao',cap',rfl,x'⟩;have hres:rBytes most (b,e)=(let x:=rUint most.toNat (b,e);if x.2.2=0 then (if x.2.1.length<x.1 then ([],(b,20)) else (x.2.1.take x.1,(x.2.1.drop x.1,0))) else ([],x.2)):=rfl;obtain ⟨hn,hb'⟩:=rUint_bd most.toNat b e;generalize rUint most.toNat (b,e)=U at *;obtain ⟨nn,b',e'⟩:=U;dsimp only at hres x' hb' hn ⊢;refine au ?_;refine cmp 0 I (fun h1=>?_) (fun h1=>?_)
 ·subst h1;rw[if_pos rfl] at hres;refine au ?_;refine ar 1 I (u64w qo) (cmp 0 I (fun h2=>?_) (fun h2=>?_))
  ·rw[if_pos qo] at hres;refine au ?_;refine cmp 0 I (fun h3=>fin 0 I (th (ifT I (sq (rg (fin 1 I (th (rt (rT (WQ.em ?_)))))))))) (fun h3=>absurd (by decide) h3);rw[hres];exact ret1 I I ⟨_,[em],I,I,em,none,0,I,I,Own.nil _ _,ao,cap,I,x⟩
  ·rw[if_neg qo] at hres;refine au ?_;refine cmp 0 I (fun h4=>absurd I h4) (fun h4=>au ?_);have hle:nn<=b'.length:=by omega
   have e1:(b'.take nn).length=nn:=by simp;omega
   have e2:(b'.drop nn).length=b'.length-nn:=by simp
   refine sl 1 0 nn I x' I (by simp) qo (ys:=bv (b'.take nn)) (by simp[bv]) fun ao49 c49 x49=>?_;have hcl:=fun K hs hm=>cloneB (w0:=w0) (K:=K) (hb:=hb) (hs:=hs) ao49 c49 (b'.take nn) hm (isS_of x49 e1.symm rfl) (by simp;omega);rw[e1] at hcl;refine cl 0 I (hcl _ _ (In.cons hm)) ?_;rintro v50 K50 hs50 ⟨rfl,hx,aox,cx,rfl,rfl,ox⟩;refine au ?_;refine sl 1 nn (b'.drop nn).length I x' I (by rw[e2];simp;omega) qo (ys:=bv (b'.drop nn)) (by simp[List.take_of_length_le,bv]) fun ao57 c57 x57=>au ?_;rw[hres];exact ret1 I I ⟨_,[hx],I,I,hx,aox,cx,I,by rw[e1],by rw[e1];exact ox,ao57,c57,I,x57⟩
 ·rw[if_neg h1] at hres;refine au ?_;refine cmp 0 I (fun h5=>fin 0 I (th (ifT I (sq (rg (fin 1 I (th (rt (rT (WQ.em ?_)))))))))) (fun h5=>absurd h1 h5);rw[hres];exact ret1 I I ⟨_,[em],I,I,em,none,0,I,I,Own.nil _ _,ao',cap',I,x'⟩
end
theorem readC{w0:World}{K hb:PH}{hs:List PH}(ao:Option Addr)(cap:Nat)(b:List UInt8)(hm:In K hs hb)(x:IsS hb ao b.length cap 1 (bv b))(hl:b.length<1099511627776):
  Ct Tryz.prog w0 103 [.slice ao b.length cap] K hs
   (fun v K' hs'=>K'=K/\∃ rb h' hb',hs'=h'::hb'::hs/\v=.pointer (some ⟨rb,0,none⟩)/\IsRd rb hb' (b,0) h'):=by
 refine entA Tryz.func103 ?_;refine cl 1 I (cloneB ao cap b hm x hl) ?_;rintro v4 K4 hs4 ⟨rfl,hx,aox,cx,rfl,rfl,ox⟩;refine bd 0 (.agg #[.slice aox b.length cx,.int .i64 0]) I (fun w=>by kernel_rfl) (bx 0 I fun b6=>au ?_);exact ret1 I I ⟨I,b6,_,hx,I,I,aox,cx,I,ox.isS⟩
end
section
attribute [local irreducible] Code.wp wpList Calls
theorem putBytesC{w0:World}{K h hb:PH}{R:List PH}(ao:Option Addr)(c1:Nat)(bs:List UInt8)(ao2:Option Addr)(c2:Nat)(x:List UInt8)(o:Own h ao bs.length c1 5 1 (bv bs))(hm:In K R hb)(xs:IsS hb ao2 x.length c2 1 (bv x))
  (hb1:bs.length<549755813888) (hb2:x.length<549755813888):
  Ct Tryz.prog w0 193 [.slice ao bs.length c1,.slice ao2 x.length c2] K (h::R)
   (fun v K' hs'=>∃ h',hs'=h'::R/\K'=K/\∃ ao' c',v=.slice ao' (bs++putBytes x).length c'/\Own h' ao' (bs++putBytes x).length c' 5 1 (bv (bs++putBytes x))):=by
 have hu:=uint_le10 (n:=x.length) qo;refine entA Tryz.func193 ?_;refine ar 3 I (u64w qo) (cl 0 I (putUint ao c1 bs x.length o qo qo) ?_);rintro v9 K9 hs9 ⟨h',rfl,rfl,ao',c',rfl,o'⟩;have e1:(bs++uint x.length).length+x.length=(bs++putBytes x).length:=by simp[putBytes_length];omega
 refine app 1 0 I I o' (In.cons hm) xs I (by decide) (bv_one _) (by simp;omega) (by simp[maxLen];omega) fun ao11 c11 g11 o11=>au ?_;have e2:bv (bs++uint x.length)++bv x=bv (bs++putBytes x):=by rw[<-bv_append,List.append_assoc];rfl
 rw[e2,e1] at o11;exact ret1 I (by rw[e1];rfl) ⟨g11,rfl,rfl,ao11,c11,rfl,o11⟩
theorem sealC{w0:World}{K hb:PH}{hs:List PH}(ao:Option Addr)(cap:Nat)(b:List UInt8)(hm:In K hs hb)(x:IsS hb ao b.length cap 1 (bv b))(hl:b.length<1099511627776):
  Ct Tryz.prog w0 134 [.slice ao b.length cap] K hs
   (fun v K' hs'=>K'=K/\∃ h',hs'=h'::hs/\(2097152<b.length/\v=.tuple #[.slice none 0 0,.int .i64 22] \/
    b.length<=2097152/\∃ ao' c',v=.tuple #[.slice ao' (sealed b).length c',.int .i64 0]/\Own h' ao' (sealed b).length c' 5 1 (bv (sealed b)))):=by
 refine entA Tryz.func134 ?_;refine cmp 2 I (fun h1=>?_) (fun h1=>?_)
 ·exact fin 0 I<|th (ifT I<|sq (rg<|fin 2 I (th<|rt (rT<|WQ.em (ret2 I I I ⟨I,em,I,.inl ⟨by omega,I⟩⟩)))))
 ·refine au ?_;refine cl 1 I (sumC ao cap b hm x hl) ?_;rintro v9 K9 hs9 ⟨rfl,rfl,rfl⟩;refine fin 1 I (th (sq (rg (WL.em (cl 1 I (putBytesC none 0 [] ao cap b (Own.nil _ _) hm x (by simp) qo) ?_)))));rintro v11 K11 hs11 ⟨h',rfl,rfl,ao',c',rfl,o'⟩;have hs32:=(crc b).isLt;have hpl:=putBytes_length b;have hu:=uint_le10 (n:=b.length) qo;have hse:sealed b=putBytes b++le4 (crc b).toNat:=rfl;rw[List.nil_append] at o' ⊢;generalize (crc b).toNat=s at *;refine ar 1 I (u8m s) (ar 1 I (u32shrN s 8 (by decide)) (ar 0 I (u8m _) (ar 1 I (u32shrN s 16 (by decide)) (ar 0 I (u8m _) (ar 1 I (u32shrN s 24 (by decide)) (ar 0 I (u8m _) (lit 0 #[.int .u8 (s % 256:Nat),.int .u8 (s / 2 ^ 8 % 256:Nat),.int .u8 (s / 2 ^ 16 % 256:Nat),.int .u8 (s / 2 ^ 24 % 256:Nat)] I (by decide) qk fun b23=>?_)))))));have e1:(putBytes b).length+4=(sealed b).length:=by rw[hse];simp[le4]
  have x4:IsS (pt b23 #[.int .u8 (s % 256:Nat),.int .u8 (s / 2 ^ 8 % 256:Nat),.int .u8 (s / 2 ^ 16 % 256:Nat),.int .u8 (s / 2 ^ 24 % 256:Nat)] 5) (some ⟨b23,0,none⟩) 4 4 1 (bv (le4 s)):=by
   rw[<-le4_cells];exact (Own.ofPt (n:=4) (size:=1) (by simp) (by simp[maxLen])).isS
  refine app 0 1 I I o' (.inr ⟨0,I⟩) x4 I (by decide) (bv_one _) (by dsimp only;omega) (by simp only[maxLen];omega) fun ao24 c24 g24 o24=>?_;rw[<-bv_append,<-hse,e1] at o24;refine fin 2 I (th (WC.drop (rt ?_)));exact ret2 I I I ⟨I,g24,I,.inr ⟨by omega,ao24,c24,by rw[e1],o24⟩⟩
end
section
attribute [local irreducible] Code.wp wpList Calls
theorem own_of{h:PH}{ao:Option Addr}{n n' cap e size:Nat}{xs ys:List Value}(x:Own h ao n cap e size xs)(h1:n=n')(h2:xs=ys):Own h ao n' cap e size ys:=by subst h1;subst h2;exact x
theorem own_byte(b m:Nat)(h:m<256):Own (pt b #[.int .u8 (m:Nat)] 5) (some ⟨b,0,none⟩) 1 1 5 1 (bv [UInt8.ofNat m]):=
 own_of (Own.ofPt (n:=1) (size:=1) (by simp) (by simp[maxLen])) rfl (by simp[bv,byteV h])
theorem u_rem(k:IntKind)(n m:Nat):Value.int k (((n:Nat):Int).tmod ((m:Nat):Int))=.int k ((n % m:Nat):Int):=by rfl
theorem u64quo(n m:Nat)(h:n<18446744073709551616):Value.int .u64 (IntKind.u64.wrap (((n:Nat):Int).tdiv ((m:Nat):Int)))=.int .u64 (n / m:Nat):=by
 rw[<-Int.ofNat_tdiv];have:=Nat.div_le_self n m
 grind [u64w]
theorem isS_pt{b n ty:Nat}{c:Array Value}{fr:Nat×Nat}{xs:List Value}(h1:c.toList=xs)(h2:c.size=n):IsS (pt b c ty fr) (some ⟨b,0,none⟩) n n 1 xs:=by
 subst h1;refine ⟨by simpa using h2,Nat.le_refl _,fun j u hu=>⟨_,I,?_⟩⟩
 simp_all [add_mk,Cell.pt]
theorem uintRef{w0:World}{K:PH}:∀ (n:Nat) {hs:List PH},n<18446744073709551616 ->
  Ct Tryz.prog w0 150 [.int .u64 (n:Nat)] K hs
   (fun v K' hs'=>∃ h',hs'=h'::hs/\K'=K/\∃ ao' c',v=.slice ao' (uint n).length c'/\Own h' ao' (uint n).length c' 5 1 (bv (uint n))):=by
 intro n
 induction n using Nat.strongRecOn with
 | ind n ih=>
 intro hs hn;refine enter Tryz.func150 qk I I I (sq (rg (fin 1 I (th (sq (sq (rg (cmp 1 I (fun h1=>?_) (fun h1=>?_)))))))))
 ·refine fin 0 I (th (ifT I (sq (rg (ar 1 I (u8w qo) (lit 0 #[.int .u8 (n:Nat)] I (by decide) qk fun b8=>fin 1 I (th (rt (rT ?_)))))))));rw[uint_lt qo];exact ret1 I I ⟨_,I,I,_,_,I,own_byte b8 n qo⟩
 ·refine fin 0 I (th (ifF I (sk (th (sq (rg (ar 1 I (u_rem .u64 n 128) (ar 0 I (u8w qo) (ar 0 I (v':=.int .u8 (n % 128+128:Nat)) (by rw[u8w qo];rfl) (lit 0 #[.int .u8 (n % 128+128:Nat)] rfl (by decide) qk fun b13=>fin 1 rfl (th (sq (rg (ar 2 rfl (u64quo n 128 hn) (cl 0 rfl (ih (n / 128) qo qo) ?_)))))))))))))));rintro v17 K17 hs17 ⟨h',rfl,rfl,ao',c',rfl,o'⟩;have hu:=uint_le10 (n:=n / 128) qo;refine app 0 1 I I (own_byte b13 (n % 128+128) qo) (.inr ⟨0,I⟩) o'.isS I (by decide) (bv_one _) (by dsimp only;omega) (by simp only[maxLen];omega) fun ao18 c18 g18 o18=>fin 1 rfl (th (WC.drop (rt ?_)));rw[<-bv_append] at o18;have e1:1+(uint (n / 128)).length=(uint n).length:=by rw[uint_ge (n:=n) qo];simp;omega
  have e2:[UInt8.ofNat (n % 128+128)]++uint (n / 128)=uint n:=by rw[uint_ge (n:=n) qo];rfl
  rw[e1,e2] at o18;exact ret1 I I ⟨g18,I,I,ao18,c18,by rw[e1],o18⟩
theorem putRef{w0:World}{K hb:PH}{hs:List PH}(ao:Option Addr)(cap:Nat)(x:List UInt8)(hm:In K hs hb)(xs:IsS hb ao x.length cap 1 (bv x))(hl:x.length<1099511627776):
  Ct Tryz.prog w0 81 [.slice ao x.length cap] K hs
   (fun v K' hs'=>∃ h',hs'=h'::hs/\K'=K/\∃ ao' c',v=.slice ao' (putBytes x).length c'/\Own h' ao' (putBytes x).length c' 5 1 (bv (putBytes x))):=by
 refine enter Tryz.func81 qk I I I (sq (rg (fin 1 I (th (sq (rg (ar 2 I (u64w qo) (cl 0 I (uintRef x.length qo) ?_))))))));rintro v7 K7 hs7 ⟨h',rfl,rfl,ao',c',rfl,o'⟩;have hu:=uint_le10 (n:=x.length) qo;refine fin 1 I (th (sq (rg (app 2 0 I I o' (In.cons hm) xs I (by decide) (bv_one _) (by dsimp only;omega) (by simp only[maxLen];omega) fun ao10 c10 g10 o10=>fin 1 rfl (th (rt ?_))))));rw[<-bv_append] at o10;have e1:=putBytes_length x;rw[<-e1] at o10;exact ret1 I I ⟨g10,I,I,ao10,c10,by rw[e1],o10⟩
end
section
attribute [local irreducible] Code.wp wpList Calls
theorem u64mulN(a b:Nat)(h:a*b<18446744073709551616):Value.int .u64 (IntKind.u64.wrap (((a:Nat):Int)*((b:Nat):Int)))=.int .u64 (a*b:Nat):=by
 rw[<-Int.natCast_mul];exact u64w qo
theorem u64addN(a b:Nat)(h:a+b<18446744073709551616):Value.int .u64 (IntKind.u64.wrap (((a:Nat):Int)+((b:Nat):Int)))=.int .u64 (a+b:Nat):=by
 rw[<-Int.natCast_add];exact u64w qo
theorem u64mul128(i:Nat)(h:i<9):Value.int .u64 (IntKind.u64.wrap (((128 ^ i:Nat):Int)*128))=.int .u64 ((128 ^ (i+1):Nat):Int):=by
 have h1:128 ^ (i+1)<=128 ^ 9:=Nat.pow_le_pow_right (by decide) qo;rw[pow9] at h1;have h2:=u64mulN (128 ^ i) 128 (by rw[<-Nat.pow_succ];omega);rw[Nat.pow_succ];exact h2
theorem numberRef{w0:World}{K hb:PH}{hs:List PH}(ao:Option Addr)(cap:Nat)(b:List UInt8)(hm:In K hs hb)(x:IsS hb ao b.length cap 1 (bv b))(hl:b.length<1099511627776):
  Ct Tryz.prog w0 269 [.slice ao b.length cap] K hs
   (fun v K' hs'=>K'=K/\hs'=hs/\v=.tuple #[.int .u64 ((number 0 0 b).1:Nat),.int .i64 ((number 0 0 b).2.1:Nat),.int .i64 (number 0 0 b).2.2]):=by
 refine enter Tryz.func269 qk I I I (sq (rg (fin 3 I (th (sq (rg (fin 1 I (th (sq (rg (fin 1 I (th (sq (sq (rg (fin 1 I (th (bk (loop (σ:=Nat×Nat) (fun s=>[(0,.slice ao b.length cap),(5,.int .u64 (s.2:Nat)),(6,.int .u64 (128 ^ s.1:Nat)),(7,.int .i64 (s.1:Nat))]) (fun _=>K) (fun _=>hs) (fun s=>s.1<=b.length/\s.1<=9/\s.2<128 ^ s.1/\number s.1 s.2 (b.drop s.1)=number 0 0 b) (fun s=>b.length-s.1) (0,0) ⟨Nat.zero_le _,by omega,by simp,I⟩ ⟨I,I,I,I,trivial⟩ I I ?_)))))))))))))))))));rintro ⟨i,acc⟩ ⟨hi,hi9,hacc,hnum⟩;dsimp only at hi hi9 hacc hnum ⊢;refine sq (sq (rg (cmp 3 I (fun h1=>?_) (fun h1=>?_))))
 ·have hlt:i<b.length:=by omega
  have hd:b.drop i=b[i]::b.drop (i+1):=List.drop_eq_getElem_cons hlt;rw[hd] at hnum;have hc:=b[i].toNat_lt;generalize hcc:b[i]=c at *;have hm128:c.toNat % 128<128:=Nat.mod_lt _ (by decide);rw[number_cons] at hnum;refine fin 0 I (th (ifT I (sk (th (sq (bk (sq (sq (rg (cmp 1 I (fun h2=>?_) (fun h2=>?_)))))))))))
  ·refine ix1 3 i I I I x (by rw[bv_get hlt,hcc]) fun a19 hc19=>ld 0 I hm hc19<|cmp 0 I (fun h3=>?_) (fun h3=>?_)
   ·rw[if_pos ⟨by omega,by omega⟩] at hnum;refine fin 1 I (th (ifT I (sq (rg (fin 3 I (th (rt (rT (rB (rT (rT (rB (rT ?_)))))))))))));exact ret3 I I I I ⟨I,I,by rw[<-hnum];rfl⟩
   ·rw[if_neg qo,if_neg qo] at hnum;have hb1:=mul_pow_lt hi9 hacc hm128 qo;refine fin 1 I (th (ifF I (sk (th (sq (rg (ix1 3 i I I I x (by rw[bv_get hlt,hcc]) fun a26 hc26=>ld 0 I hm hc26 (ar 0 I (u_rem .u8 _ 128) (ar 0 I (u64w qo) (ar 1 I (u64mulN _ _ qo) (ar 0 I (u64addN _ _ hb1.1) (fin 1 I (th (sq (rg (ar 1 I I (fin 1 I (th (sq (rg (ix1 2 i I I I x (by rw[bv_get hlt,hcc]) fun a37 hc37=>ld 0 I hm hc37 (cmp 0 I (fun h4=>?_) (fun h4=>absurd h4 qo)))))))))))))))))))))))
    ·refine fin 0 I<|th (ifT I<|sq (sq<|rg (ix1 2 i I I I x (by rw[bv_get hlt,hcc]) fun a42 hc42=>ld 0 I hm hc42<|cmp 0 I (fun h5=>?_) (fun h5=>?_))))
     ·refine cmp 2 I (fun h6=>?_) (fun h6=>absurd h6 qo)
      ·rw[if_pos ⟨by omega,by omega⟩] at hnum;refine fin 1 I (th (ifT I (sq (rg (fin 3 I (th (rt (rT (rB (rT (rT (rB (rT ?_)))))))))))));exact ret3 I I I I ⟨I,I,by rw[<-hnum];rfl⟩
     ·rw[if_neg qo] at hnum;refine fin 4 I (th (ifF I (sk (th (sq (rg (ar 2 I (i64w qo) (fin 3 I (th (rt (rB (rT (rT (rB (rT ?_)))))))))))))));exact ret3 I I I I ⟨I,I,by rw[<-hnum];rfl⟩
  ·rw[if_neg qo] at hnum;have hb1:=mul_pow_lt hi9 hacc hm128 qo;refine fin 7 I (th (ifF I (sk (th (sq (rg (ix1 3 i I I I x (by rw[bv_get hlt,hcc]) fun a26 hc26=>ld 0 I hm hc26 (ar 0 I (u_rem .u8 _ 128) (ar 0 I (u64w qo) (ar 1 I (u64mulN _ _ qo) (ar 0 I (u64addN _ _ hb1.1) (fin 1 I (th (sq (rg (ar 1 I (u64mul128 i qo) (fin 1 I (th (sq (rg (ix1 2 i I I I x (by rw[bv_get hlt,hcc]) fun a37 hc37=>ld 0 I hm hc37 (cmp 0 I (fun h7=>?_) (fun h7=>?_)))))))))))))))))))))))
   ·rw[if_neg qo] at hnum;refine fin 0 I (th (ifT I (sq (sq (rg (ix1 2 i I I I x (by rw[bv_get hlt,hcc]) fun a42 hc42=>ld 0 I hm hc42 (cmp 0 I (fun h8=>?_) (fun h8=>?_))))))))
    ·refine cmp 2 I (fun h9=>?_) (fun h9=>?_)
     ·rw[if_pos ⟨by omega,by omega⟩] at hnum;refine fin 1 I (th (ifT I (sq (rg (fin 3 I (th (rt (rT (rB (rT (rT (rB (rT ?_)))))))))))));exact ret3 I I I I ⟨I,I,by rw[<-hnum];rfl⟩
     ·rw[if_neg qo] at hnum;refine fin 1 I (th (ifF I (sk (th (sq (rg (ar 2 I (i64w qo) (fin 3 I (th (rt (rB (rT (rT (rB (rT ?_)))))))))))))));exact ret3 I I I I ⟨I,I,by rw[<-hnum];rfl⟩
    ·rw[if_neg qo] at hnum;refine fin 4 I (th (ifF I (sk (th (sq (rg (ar 2 I (i64w qo) (fin 3 I (th (rt (rB (rT (rT (rB (rT ?_)))))))))))))));exact ret3 I I I I ⟨I,I,by rw[<-hnum];rfl⟩
   ·rw[if_pos qo] at hnum;exact fin 0 I (th (ifF I (sk (bl (th (rg (ar 1 I (i64w qo) (fin 1 I (again (x:=(i,acc)) (i+1,acc+c.toNat % 128*128 ^ i) ⟨I,I,I,I,trivial⟩ I I ⟨by dsimp only;omega,by dsimp only;omega,hb1.2 qo,hnum⟩ (by dsimp only;omega))))))))))
 ·obtain rfl:i=b.length:=by omega
  refine fin 0 I (th (ifF I (ex (xt (xt (xb (th (sq (rg (fin 3 I (th (rt ?_))))))))))));exact ret3 I I I I ⟨I,I,by rw[<-hnum,List.drop_length];rfl⟩
def rv(ao:Option Addr)(len cap:Nat)(p:Nat)(e:Int):Value:=.agg #[.slice ao len cap,.int .i64 (p:Nat),.int .i64 e]
theorem endRef{w0:World}{K:PH}{hs:List PH}(ao:Option Addr)(cap:Nat)(b:List UInt8)(p:Nat)(e:Int)(hp:p<=b.length):
  Ct Tryz.prog w0 253 [rv ao b.length cap p e] K hs (fun v K' hs'=>K'=K/\hs'=hs/\v=.int .i64 (rEnd (b.drop p,e))):=by
 refine enter Tryz.func253 qk I I I<|sq (rg (bx 0 I fun b1=>fin 1 I<|th (sq<|sq (rg<|ldp 1 0 I I I (cmp 0 I (fun h1=>?_) (fun h1=>?_))))))
 ·refine ldp 2 0 I I I<|ldp 1 0 I I I (cmp 1 I (fun h2=>?_) (fun h2=>?_))
  ·refine fin 1 I (th (ifT I (sq (rg (fin 1 I (th (rt (rT (WQ.drop ?_)))))))));have hun:rEnd (b.drop p,e)=23:=if_pos ⟨h1,by simp;omega⟩;rw[hun];exact ret1 I I ⟨I,I,I⟩
  ·refine fin 1 I (th (ifF I (sk (th (sq (rg (ldp 1 0 I I I (fin 1 I (th (rt (WQ.drop ?_)))))))))));have hun:rEnd (b.drop p,e)=e:=if_neg (by simp;omega);rw[hun];exact ret1 I I ⟨I,I,I⟩
 ·refine fin 8 I (th (ifF I (sk (th (sq (rg (ldp 1 0 I I I (fin 1 I (th (rt (WQ.drop ?_)))))))))));have hun:rEnd (b.drop p,e)=e:=if_neg (fun h=>h1 h.1);rw[hun];exact ret1 I I ⟨I,I,I⟩
theorem byteRef{w0:World}{K hb:PH}{hs:List PH}(ao:Option Addr)(cap:Nat)(b:List UInt8)(hm:In K hs hb)(x:IsS hb ao b.length cap 1 (bv b))(hl:b.length<1099511627776)(p:Nat)(e:Int)(hp:p<=b.length):
  Ct Tryz.prog w0 250 [rv ao b.length cap p e] K hs
   (fun v K' hs'=>K'=K/\hs'=hs/\∃ p',p'<=b.length/\v=.tuple #[rv ao b.length cap p' (rByte (b.drop p,e)).2.2,.int .u8 ((rByte (b.drop p,e)).1:Nat)]/\(rByte (b.drop p,e)).2.1=b.drop p'):=by
 refine enter Tryz.func250 qk I I I<|sq (rg (bx 0 I fun b1=>al 0 (.agg #[.slice none 0 0,.int .i64 0,.int .i64 0]) I qk fun b2=>fin 1 I<|th (sq<|sq (rg<|ldp 1 1 I I I (cmp 0 I (fun h1=>?_) (fun h1=>?_))))))
 ·refine ldp 2 1 I I I<|ldp 1 1 I I I (cmp 1 I (fun h2=>?_) (fun h2=>?_))
  ·refine fin 1 I<|th (ifT I<|rg (stp 1 1 I I I I<|fin 0 I (th<|sq (sq<|rg (ldp 1 1 I I I<|cmp 0 I (fun h3=>?_) (fun h3=>absurd (by decide) h3))))))
   ·refine fin 0 I (th (ifT I (sq (rg (ldS 0 1 I I qk ?_)))));refine stS 0 0 I I qk I I ?_;refine fin 1 I (th (rt (rT ?_)));have hd:b.drop p=[]:=List.drop_eq_nil_of_le qo;have hun:rByte (b.drop p,e)=(0,([],20)):=by rw[hd,h1];rfl
    rw[hun];exact retcP 0 2 I I I I qk ⟨I,I,p,hp,I,hd.symm⟩
  ·refine fin 1 I<|th (ifF I<|sk (th<|sq (sq<|rg (ldp 1 1 I I I<|cmp 0 I (fun h4=>absurd h1 h4) (fun h4=>?_)))))
   ·refine fin 0 I (th (ifF I (sk (th (sq (rg (ldp 1 1 I I I (ldp 1 1 I I I ?_))))))));have hlt:p<b.length:=by omega
    refine ix1 0 p I I I x (bv_get hlt) fun a25 hc25=>ld 0 I (In.cons (In.cons hm)) hc25 (fin 1 I (th (sq (rg (ldp 1 1 I I I (ar 0 I (i64w qo) (stp 1 1 I I I I (fin 0 I (th (sq (rg (ldS 0 1 I I qk ?_))))))))))));refine stS 1 0 I I qk I I ?_;refine fin 1 I (th (rt ?_));have hun:rByte (b.drop p,e)=(b[p].toNat,(b.drop (p+1),0)):=by rw[List.drop_eq_getElem_cons hlt,h1];rfl
    rw[hun];subst h1;exact retcP 0 2 I I I I qk ⟨I,I,p+1,hlt,I,I⟩
 ·refine fin 8 I<|th (ifF I<|sk (th<|sq (sq<|rg (ldp 1 1 I I I<|cmp 0 I (fun h5=>?_) (fun h5=>absurd h1 h5)))))
  ·refine fin 0 I (th (ifT I (sq (rg (ldS 0 1 I I qk ?_)))));refine stS 0 0 I I qk I I ?_;refine fin 1 I (th (rt (rT ?_)));have hun:rByte (b.drop p,e)=(0,(b.drop p,e)):=if_neg h1;rw[hun];exact retcP 0 2 I I I I qk ⟨I,I,p,hp,I,I⟩
theorem getUintRef{w0:World}{K hb:PH}{hs:List PH}(ao:Option Addr)(cap:Nat)(b:List UInt8)(hm:In K hs hb)(x:IsS hb ao b.length cap 1 (bv b))(hl:b.length<1099511627776)(p:Nat)(e:Int)(hp:p<=b.length)(most:Nat):
  Ct Tryz.prog w0 251 [rv ao b.length cap p e,.int .u64 (most:Nat)] K hs
   (fun v K' hs'=>K'=K/\hs'=hs/\∃ p',p'<=b.length/\v=.tuple #[rv ao b.length cap p' (rUint most (b.drop p,e)).2.2,.int .u64 ((rUint most (b.drop p,e)).1:Nat)]/\(rUint most (b.drop p,e)).2.1=b.drop p'):=by
 refine enter Tryz.func251 qk I I I<|sq (rg (bx 0 I fun b2=>al 0 (.agg #[.slice none 0 0,.int .i64 0,.int .i64 0]) I qk fun b4=>fin 1 I<|th (sq<|sq (rg<|ldp 1 1 I I I (cmp 0 I (fun h1=>?_) (fun h1=>?_))))))
 ·refine fin 0 I (th (ifT I (sq (rg (ldS 0 1 I I qk ?_)))));refine stS 0 0 I I qk I I ?_;refine fin 1 I (th (rt (rT ?_)));have hun:rUint most (b.drop p,e)=(0,(b.drop p,e)):=if_neg h1;rw[hun];exact retcP 0 2 I I I I qk ⟨I,I,p,hp,I,I⟩
 ·refine fin 0 I (th (ifF I (sk (th (sq (rg ?_))))));obtain rfl:e=0:=Decidable.not_not.1 h1;refine ldp 1 1 I I I (ldp 1 1 I I I (sl 0 p (b.length-p) I x I (by simp;omega) qo (ys:=bv (b.drop p)) (by simp only[bv,Nat.mul_one,<-List.map_drop,<-List.map_take];rw[List.take_of_length_le (by simp)]) fun ao18 c18 x18=>?_));have e1:b.length-p=(b.drop p).length:=by simp
  rw[e1] at x18 ⊢;refine cl 0 I (numberRef ao18 c18 (b.drop p) (In.cons (In.cons hm)) x18 qo) ?_;rintro v19 K19 hs19 ⟨rfl,rfl,rfl⟩;have hun:rUint most (b.drop p,0)=(let x:=number 0 0 (b.drop p);if x.2.2=0 then (if most<x.1 then (0,(b.drop p,22)) else (x.1,((b.drop p).drop x.2.1,0))) else (0,(b.drop p,x.2.2))):=rfl;obtain ⟨hbd1,hbd2,_⟩:=number_bd (b.drop p) 0 0 qo (by simp);generalize number 0 0 (b.drop p)=N at *;obtain ⟨nn,kk,ee⟩:=N;dsimp only at hun hbd1 hbd2 ⊢;refine fin 7 I (th (sq (sq (rg (cmp 1 I (fun h2=>?_) (fun h2=>?_))))))
  ·subst h2;rw[if_pos rfl] at hun;refine cmp 3 I (fun h3=>?_) (fun h3=>?_)
   ·rw[if_pos qo] at hun;refine fin 1 I (th (ifT I (rg (fin 1 I (th (sq (sq (rg (cmp 1 I (fun h4=>?_) (fun h4=>absurd (by decide) h4))))))))))
    ·refine fin 0 I (th (ifT I (sq (rg (stp 2 1 I I I I (fin 0 I (th (sq (rg (ldS 0 1 I I qk ?_))))))))));refine stS 0 0 I I qk I I ?_;refine fin 1 I (th (rt (rT ?_)));rw[hun];exact retcP 0 2 I I I I qk ⟨I,I,p,hp,I,I⟩
   ·rw[if_neg qo] at hun;refine fin 1 I (th (ifF I (sk (th (sq (sq (rg (cmp 1 I (fun h5=>absurd I h5) (fun h5=>?_)))))))))
    ·refine fin 0 I (th (ifF I (sk (th (sq (rg (ldp 1 1 I I I (ar 1 I (v':=.int .i64 (p+kk:Nat)) (by rw[i64w qo];rfl) (stp 1 1 rfl rfl rfl rfl (fin 0 rfl (th (sq (rg (ldS 0 1 rfl rfl qk ?_))))))))))))));refine stS 1 0 I I qk I I ?_;refine fin 1 I (th (rt ?_));rw[hun];have hkk:p+kk<=b.length:=by omega
     exact retcP 0 2 I I I I qk ⟨I,I,p+kk,hkk,I,by rw[List.drop_drop]⟩
  ·rw[if_neg h2] at hun;refine fin 5 I (th (ifF I (sk (th (sq (sq (rg (cmp 1 I (fun h6=>?_) (fun h6=>absurd h2 h6)))))))))
   ·refine fin 0 I (th (ifT I (sq (rg (stp 2 1 I I I I (fin 0 I (th (sq (rg (ldS 0 1 I I qk ?_))))))))));refine stS 0 0 I I qk I I ?_;refine fin 1 I (th (rt (rT ?_)));rw[hun];exact retcP 0 2 I I I I qk ⟨I,I,p,hp,I,I⟩
end
section
attribute [local irreducible] Code.wp wpList Calls
theorem getBytesRef{w0:World}{K hb:PH}{hs:List PH}(ao:Option Addr)(cap:Nat)(b:List UInt8)(hm:In K hs hb)(x:IsS hb ao b.length cap 1 (bv b))(hl:b.length<1099511627776)(p:Nat)(e:Int)(hp:p<=b.length)(most:Int)(hmost:most<=9223372036854775807):
  Ct Tryz.prog w0 252 [rv ao b.length cap p e,.int .i64 most] K hs
   (fun v K' hs'=>K'=K/\∃ h',hs'=h'::hs/\∃ p',p'<=b.length/\∃ ao' c',v=.tuple #[rv ao b.length cap p' (rBytes most (b.drop p,e)).2.2,.slice ao' (rBytes most (b.drop p,e)).1.length c']/\(rBytes most (b.drop p,e)).2.1=b.drop p'/\Own h' ao' (rBytes most (b.drop p,e)).1.length c' 5 1 (bv (rBytes most (b.drop p,e)).1)):=by
 refine enter Tryz.func252 qk I I I (sq (rg (bx 0 I fun b2=>al 0 (.agg #[.slice none 0 0,.int .i64 0,.int .i64 0]) I qk fun b4=>fin 1 I (th (sq (rg (ldS 0 1 I I qk (ar 2 I (v':=.int .u64 (most.toNat:Nat)) (by split <;> rw[u64w qo] <;> congr 1 <;> omega) (cl 0 rfl (getUintRef ao cap b (In.cons (In.cons hm)) x hl p e hp most.toNat) ?_)))))))));rintro v14 K14 hs14 ⟨rfl,rfl,p1,hp1,rfl,hd1⟩;have hres:rBytes most (b.drop p,e)=(let x:=rUint most.toNat (b.drop p,e);if x.2.2=0 then (if x.2.1.length<x.1 then ([],(b.drop p,20)) else (x.2.1.take x.1,(x.2.1.drop x.1,0))) else ([],x.2)):=rfl;obtain ⟨hn,_⟩:=rUint_bd most.toNat (b.drop p) e;generalize rUint most.toNat (b.drop p,e)=U at *;obtain ⟨nn,bb,ee⟩:=U;dsimp only at hres hn hd1 ⊢;subst hd1;rw[List.length_drop] at hres;refine al 3 (.agg #[.slice none 0 0,.int .i64 0,.int .i64 0]) I qk fun b6=>?_;refine stS 0 0 I I qk I I ?_
 refine fin 1 I<|th (sq<|sq (rg<|ldp 1 0 I I I (cmp 0 I (fun h1=>?_) (fun h1=>?_))))
 ·refine fin 0 I (th (ifT I (sq (rg (ldS 0 0 I I qk ?_)))));refine stS 0 1 I I qk I I ?_;refine fin 1 I (th (rt (rT (WQ.em (WQ.perm (List.perm_middle (l₁:=[_,_,_])).symm ?_)))));rw[hres,if_neg h1];exact retcP 1 3 I I I I qk ⟨I,En.em,I,p1,hp1,none,0,I,I,Own.nil _ _⟩
 ·obtain rfl:ee=0:=Decidable.not_not.1 h1;rw[if_pos rfl] at hres;refine fin 0 I (th (ifF I (sk (th (sq (sq (rg (ldp 2 0 I I I (ldp 2 0 I I I (ar 0 I (v':=.int .i64 (b.length-p1:Nat)) (by rw[i64w qo];congr 1;omega) (ar 0 rfl (u64w qo) (cmp 0 rfl (fun h2=>?_) (fun h2=>?_)))))))))))))
  ·rw[if_pos qo] at hres;refine fin 0 I (th (ifT I (sq (rg (stp 1 2 I I I I (fin 0 I (th (sq (rg (ldS 0 2 I I qk ?_))))))))));refine stS 0 1 I I qk I I ?_;refine fin 1 I (th (rt (rT (WQ.em (WQ.perm (List.perm_middle (l₁:=[_,_,_])).symm ?_)))));rw[hres];exact retcP 1 3 I I I I qk ⟨I,En.em,I,p,hp,none,0,I,I,Own.nil _ _⟩
  ·rw[if_neg qo] at hres;refine fin 0 I (th (ifF I (sk (th (sq (rg (lit 0 #[] I (by decide) qk fun b32=>ldp 1 1 I I I (ldp 1 1 I I I (ldp 1 1 I I I (ar 1 I (i64w qo) (ar 0 I (v':=.int .i64 (p1+nn:Nat)) (by rw[i64w qo];rfl) (sl 0 p1 nn rfl x rfl rfl qo (ys:=bv ((b.drop p1).take nn)) (by simp[bv,List.map_drop,List.map_take]) fun ao42 c42 x42=>app 0 0 rfl rfl (Own.ofPt (c:=#[]) (n:=0) (size:=1) (by simp) (by simp[maxLen])) (In.cons (In.cons (In.cons (In.cons hm)))) x42 rfl (by decide) (bv_one _) (by dsimp only;omega) (by simp only[maxLen];omega) fun ao43 c43 g43 o43=>?_))))))))))));have e1:0+nn=((b.drop p1).take nn).length:=by simp;omega
   have e2:(#[]:Array Value).toList++bv ((b.drop p1).take nn)=bv ((b.drop p1).take nn):=rfl;rw[e1,e2] at o43;refine fin 1 I (th (sq (rg (ldp 1 1 I I I (ar 1 I (i64w qo) (ar 0 I (v':=.int .i64 (p1+nn:Nat)) (by rw[i64w qo];rfl) (stp 1 1 rfl rfl rfl rfl (fin 0 rfl (th (sq (rg (ldS 0 1 rfl rfl qk ?_))))))))))));refine stS 1 2 I I qk I I ?_;refine fin 1 I (th (rt (WQ.perm (List.perm_middle (l₁:=[_,_,_])).symm ?_)));rw[hres,e1];exact retcP 1 3 I I I I qk ⟨I,g43,I,p1+nn,by omega,ao43,c43,I,by rw[List.drop_drop],o43⟩
theorem un4_drop(q:List UInt8)(i:Nat)(h:i<q.length):un4 (q.drop i)=q[i].toNat+256*un4 (q.drop (i+1)):=by
 rw[List.drop_eq_getElem_cons h,un4]
end
section
attribute [local irreducible] Code.wp wpList Calls
def OutB(o:Option (List UInt8))(hs:List PH)(v:Value)(hs':List PH):Prop:=
 ∃ h ao c,hs'=h::hs/\v=.tuple #[.slice ao (ob o).length c,.int .i64 (ec o)]/\Own h ao (ob o).length c 5 1 (bv (ob o))
theorem outN{o:Option (List UInt8)}{hs:List PH}(h:o=none):OutB o hs (.tuple #[.slice none 0 0,.int .i64 170]) (em::hs):=by subst h;exact ⟨em,none,0,I,I,Own.nil _ _⟩
theorem outS{o:Option (List UInt8)}{hs:List PH}{l:List UInt8}{h:PH}{ao:Option Addr}{c:Nat}(e:o=some l)(x:Own h ao l.length c 5 1 (bv l)):OutB o hs (.tuple #[.slice ao l.length c,.int .i64 0]) (h::hs):=by subst e;exact ⟨h,ao,c,I,I,x⟩
theorem putCmd_no{c:Cmd}(h:¬c.ok):putCmd c=none:=if_neg h
theorem rByte_lt(s:Rd):(rByte s).1<256:=by
 obtain ⟨b,e⟩:=s;unfold rByte;dsimp only
 split
 ·cases b with
  | nil=>decide
  | cons c r=>exact c.toNat_lt
 omega
theorem rByte_len(s:Rd):(rByte s).2.1.length<=s.1.length:=by
 obtain ⟨b,e⟩:=s;unfold rByte
 grind
theorem rUint_len(m:Nat)(s:Rd):(rUint m s).2.1.length<=s.1.length:=(rUint_bd m s.1 s.2).2
theorem rBytes_len(m:Int)(s:Rd):(rBytes m s).1.length<=s.1.length/\(rBytes m s).2.1.length<=s.1.length:=rBytes_bd m s.1 s.2
theorem getCmdR_2{b:List UInt8}(h:(rByte (b,0)).1=2):getCmdR b=(⟨2,(rUint mxU (rByte (b,0)).2).1,(rUint mxU (rUint mxU (rByte (b,0)).2).2).1,(rBytes 96 (rUint mxU (rUint mxU (rByte (b,0)).2).2).2).1,(rUint 1073741824 (rBytes 96 (rUint mxU (rUint mxU (rByte (b,0)).2).2).2).2).1⟩,(rUint 1073741824 (rBytes 96 (rUint mxU (rUint mxU (rByte (b,0)).2).2).2).2).2):=by
 simp_all [getCmdR]
theorem getCmdR_3{b:List UInt8}(h:(rByte (b,0)).1=3):getCmdR b=(⟨3,(rUint mxU (rByte (b,0)).2).1,(rUint mxU (rUint mxU (rByte (b,0)).2).2).1,(rBytes 96 (rUint mxU (rUint mxU (rByte (b,0)).2).2).2).1,0⟩,(rBytes 96 (rUint mxU (rUint mxU (rByte (b,0)).2).2).2).2):=by
 simp_all [getCmdR]
theorem getCmdR_1{b:List UInt8}(h:(rByte (b,0)).1=1):getCmdR b=(⟨1,0,0,[],0⟩,(rByte (b,0)).2):=by
 unfold getCmdR;dsimp only;rw[if_pos h]
theorem getCmdR_n{b:List UInt8}(h1:¬(rByte (b,0)).1=1)(h2:¬(rByte (b,0)).1=2)(h3:¬(rByte (b,0)).1=3):getCmdR b=(⟨(rByte (b,0)).1,0,0,[],0⟩,((rByte (b,0)).2.1,if (rByte (b,0)).2.2=0 then 170 else (rByte (b,0)).2.2)):=by
 simp_all [getCmdR]
theorem getCmdC{w0:World}{K hb:PH}{hs:List PH}(ao:Option Addr)(cap:Nat)(b:List UInt8)(hm:In K hs hb)(x:IsS hb ao b.length cap 1 (bv b))(hl:b.length<1099511627776):
  Ct Tryz.prog w0 82 [.slice ao b.length cap] K hs (fun v K' hs'=>K'=K/\hs'=hs/\v=.tuple #[.agg ((getCmd b).getD Cmd.zero).v,.int .i64 (ec (getCmd b))]):=by
 refine ent Tryz.func82 ?_;refine sq (rg (al 0 (.agg #[.int .i64 0,.int .u64 0,.int .u64 0,.string ⟨#[]⟩,.int .i64 0]) I qk fun b2=>au ?_));refine cl 1 I (readC ao cap b (In.cons hm) x hl) ?_;rintro v7 K7 hs7 ⟨rfl,rb,h,hb',rfl,rfl,rd⟩;refine au ?_;refine cl 1 I (byteC (.inr ⟨0,I⟩) (b,0) rd) ?_;rintro v9 K9 hs9 ⟨h1,rfl,rfl,rfl,rd1⟩;have hk256:=rByte_lt (b,0);have hl1:=rByte_len (b,0);have hl2:=rUint_len mxU (rByte (b,0)).2;have hl3:=rUint_len mxU (rUint mxU (rByte (b,0)).2).2;have hl4:=(rBytes_len 96 (rUint mxU (rUint mxU (rByte (b,0)).2).2).2).2;dsimp only at hl1 hk256;refine ar 0 I (i64w (x:=(((rByte (b,0)).1:Nat):Int)) qo) ?_
 skip
 refine bd 0 (.agg (Cmd.mk ((rByte (b,0)).1:Nat) 0 0 [] 0).v) I (fun w=>by kernel_rfl) ?_
 skip
 refine al 0 (.agg #[.int .i64 0,.int .u64 0,.int .u64 0,.string ⟨#[]⟩,.int .i64 0]) I qk fun b5=>?_;refine stS 0 0 I I qk I I ?_;refine fin 0 I (th (jn (σ:=Cmd×Rd×PH) (fun s=>[(2,.pointer (some ⟨b2,0,none⟩)),(4,.pointer (some ⟨rb,0,none⟩)),(5,.pointer (some ⟨b5,0,none⟩))]) (fun s=>pt b5 s.1.v 93::s.2.2::hb'::pt b2 Cmd.zero.v 93::hs) (fun s=>(s.1,s.2.1)=getCmdR b/\IsRd rb hb' s.2.1 s.2.2) ?_ ?_))
 ·refine au ?_;refine cmpS 0 I fun b17 h17=>fin 1 I (th (ifP h17 I (fun e2=>?_) (fun e2=>?_)))
  ·refine sk (bl ?_);exact jx (⟨1,0,0,[],0⟩,(rByte (b,0)).2,h1) ⟨(getCmdR_1 (by grind)).symm,rd1⟩ ⟨I,I,I,trivial⟩ I (congrArg (fun k:Int=>pt b5 (Cmd.mk k 0 0 [] 0).v 93::h1::hb'::pt b2 Cmd.zero.v 93::hs) e2)
  ·refine sq<|sq (rg (cmpS 0 I fun b19 h19=>fin 1 I<|th (ifP h19 I (fun e4=>?_) (fun e4=>?_))))
   ·refine sk (th (ifPT h19 e4 I (sq (rg (cl 1 I (Ct.at 1 I (uintC (.inr ⟨1,I⟩) mxU _ qo rd1)) ?_)))));rintro v22 K22 hs22 ⟨h2,rfl,rfl,rfl,rd2⟩;refine au ?_;refine cl 1 I (Ct.at 1 I (uintC (.inr ⟨1,I⟩) mxU _ qo rd2)) ?_;rintro v25 K25 hs25 ⟨h3,rfl,rfl,rfl,rd3⟩;refine au ?_;refine cl 1 I (Ct.atN 1 I (bytesC (.inr ⟨1,I⟩) 96 qo _ qo rd3)) ?_;rintro v28 K28 hs28 ⟨h4,new,rfl,rfl,hx,aox,cx,rfl,rfl,ox,rd4⟩;refine cvs 0 _ I (.inr ⟨0,I⟩) ox.isS qk (stp 1 1 I I I I (fin 0 I (th (WC.drop (sq (rg (au ?_)))))));refine cmpS 0 I fun b33 h33=>fin 0 I (th (ifP h33 I (fun e6=>?_) (fun e6=>?_)))
    ·refine rg (cl 1 I (Ct.at 1 I (uintC (.inr ⟨1,I⟩) 1073741824 _ qo rd4)) ?_);rintro v35 K35 hs35 ⟨h5,rfl,rfl,rfl,rd5⟩;have hw30:=rUint_le 1073741824 (rBytes 96 (rUint mxU (rUint mxU (rByte (b,0)).2).2).2).2;refine ar 0 I (i64w qo) (stp 1 0 I I I I (fin 0 I (bl ?_)));exact jx (⟨2,(rUint mxU (rByte (b,0)).2).1,(rUint mxU (rUint mxU (rByte (b,0)).2).2).1,(rBytes 96 (rUint mxU (rUint mxU (rByte (b,0)).2).2).2).1,(rUint 1073741824 (rBytes 96 (rUint mxU (rUint mxU (rByte (b,0)).2).2).2).2).1⟩,(rUint 1073741824 (rBytes 96 (rUint mxU (rUint mxU (rByte (b,0)).2).2).2).2).2,h5) ⟨(getCmdR_2 (by grind)).symm,rd5⟩ ⟨I,I,I,trivial⟩ I (congrArg (fun k:Int=>pt b5 (Cmd.mk k (rUint mxU (rByte (b,0)).2).1 (rUint mxU (rUint mxU (rByte (b,0)).2).2).1 (rBytes 96 (rUint mxU (rUint mxU (rByte (b,0)).2).2).2).1 (rUint 1073741824 (rBytes 96 (rUint mxU (rUint mxU (rByte (b,0)).2).2).2).2).1).v 93::h5::hb'::pt b2 Cmd.zero.v 93::hs) e4)
    ·refine absurd e4 e6
   ·refine rg (cmpS 0 I fun b20 h20=>fin 1 I<|th (ifP h20 I (fun e8=>?_) (fun e8=>?_)))
    ·refine sq (rg (cl 1 I (Ct.at 1 I (uintC (.inr ⟨1,I⟩) mxU _ qo rd1)) ?_));rintro v22 K22 hs22 ⟨h2,rfl,rfl,rfl,rd2⟩;refine au ?_;refine cl 1 I (Ct.at 1 I (uintC (.inr ⟨1,I⟩) mxU _ qo rd2)) ?_;rintro v25 K25 hs25 ⟨h3,rfl,rfl,rfl,rd3⟩;refine au ?_;refine cl 1 I (Ct.atN 1 I (bytesC (.inr ⟨1,I⟩) 96 qo _ qo rd3)) ?_;rintro v28 K28 hs28 ⟨h4,new,rfl,rfl,hx,aox,cx,rfl,rfl,ox,rd4⟩;refine cvs 0 _ I (.inr ⟨0,I⟩) ox.isS qk (stp 1 1 I I I I (fin 0 I (th (WC.drop (sq (rg (au ?_)))))));refine cmpS 0 I fun b33 h33=>fin 0 I (th (ifP h33 I (fun e10=>?_) (fun e10=>?_)))
     ·refine absurd e10 qo
     ·refine sk (bl ?_);exact jx (⟨3,(rUint mxU (rByte (b,0)).2).1,(rUint mxU (rUint mxU (rByte (b,0)).2).2).1,(rBytes 96 (rUint mxU (rUint mxU (rByte (b,0)).2).2).2).1,0⟩,(rBytes 96 (rUint mxU (rUint mxU (rByte (b,0)).2).2).2).2,h4) ⟨(getCmdR_3 (by grind)).symm,rd4⟩ ⟨I,I,I,trivial⟩ I (congrArg (fun k:Int=>pt b5 (Cmd.mk k (rUint mxU (rByte (b,0)).2).1 (rUint mxU (rUint mxU (rByte (b,0)).2).2).1 (rBytes 96 (rUint mxU (rUint mxU (rByte (b,0)).2).2).2).1 0).v 93::h4::hb'::pt b2 Cmd.zero.v 93::hs) e8)
    ·refine rg (cl 1 I (Ct.at 1 I (failC (rByte (b,0)).2 170 rd1)) ?_);rintro v15 K15 hs15 ⟨h2,rfl,rfl,rfl,rd2⟩;exact fin 0 I (bl (jx (⟨((rByte (b,0)).1:Nat),0,0,[],0⟩,((rByte (b,0)).2.1,if (rByte (b,0)).2.2=0 then 170 else (rByte (b,0)).2.2),h2) ⟨(getCmdR_n (fun h=>e2 (show ((rByte (b,0)).1:Int)=1 by omega)) (fun h=>e4 (show ((rByte (b,0)).1:Int)=2 by omega)) (fun h=>e8 (show ((rByte (b,0)).1:Int)=3 by omega))).symm,rd2⟩ ⟨I,I,I,trivial⟩ I I))
 ·clear rd rd1;rintro ⟨c,s,h⟩ ⟨hc,rd⟩;dsimp only at hc rd ⊢;refine sq (sq (rg (cl 1 I (Ct.keep 1 I (endC s rd)) ?_)));rintro v39 K39 hs39 ⟨rfl,rfl,rfl⟩;refine cmpS 0 I fun b40 h40=>?_;have hg:getCmd b=if rEnd s=0 then some c else none:=by rw[getCmd,<-hc]
  refine fin 0 I<|th (ifP h40 I (fun e12=>?_) (fun e12=>?_))
  ·refine sq (rg (bd 0 (.agg Cmd.zero.v) I (fun w=>by kernel_rfl) ?_));refine stS 0 3 I I qk I I ?_;refine fin 1 I (th (rt (rT ?_)));exact retcP 3 4 I I I I qk ⟨I,I,by rw[hg,if_neg e12];rfl⟩
  ·refine sk (th (sq (rg (ldS 0 0 I I qk ?_))));refine stS 0 3 I I qk I I ?_;refine fin 1 I (th (rt ?_));exact retcP 3 4 I I I I qk ⟨I,I,by rw[hg,if_pos qo];rfl⟩
def uv(l:List Nat):List Value:=l.map fun n=>Value.int .u64 (n:Nat)
theorem uv_get{l:List Nat}{j:Nat}(h:j<l.length):(uv l)[j]?=some (.int .u64 (l[j]:Nat)):=by simp[uv,h]
def us:List Nat->List UInt8
 | []=>[]
 | n::r=>uint n++us r
theorem us_append:∀ (l r:List Nat),us (l++r)=us l++us r
 | [],r=>rfl
 | n::l,r=>by simp[us_append,us]
theorem us_len:∀ (l:List Nat),(∀ n∈l,n<18446744073709551616)->(us l).length<=10*l.length
 | [],_=>Nat.le_refl _
 | n::l,h=>by
  have h1:=us_len l (fun x hx=>h x (by simp[hx]));have h2:=uint_le10 (h n (by simp));simp only[us,List.length_append,List.length_cons];omega
theorem uintsRef{w0:World}{K h hl:PH}{R:List PH}(ao:Option Addr)(c1:Nat)(bs:List UInt8)(al:Option Addr)(cl':Nat)(ns:List Nat)(o:Own h ao bs.length c1 5 1 (bv bs))(hm:In K R hl)(x:IsS hl al ns.length cl' 1 (uv ns))
  (hns:∀ n∈ns,n<18446744073709551616) (hb:bs.length<1099511627776) (hl':ns.length<1099511627776):
  Ct Tryz.prog w0 80 [.slice ao bs.length c1,.slice al ns.length cl'] K (h::R)
   (fun v K' hs'=>∃ h',hs'=h'::R/\K'=K/\∃ ao' c',v=.slice ao' (bs++us ns).length c'/\Own h' ao' (bs++us ns).length c' 5 1 (bv (bs++us ns))):=by
 refine enter Tryz.func80 qk I I I (sq (rg (fin 1 I (th (sq (sq (rg (fin 1 I (th (bk (loop (σ:=Nat×Option Addr×Nat×PH) (fun s=>[(0,.slice s.2.1 (bs++us (ns.take s.1)).length s.2.2.1),(1,.slice al ns.length cl'),(5,.int .i64 (s.1:Nat))]) (fun _=>K) (fun s=>s.2.2.2::R) (fun s=>s.1<=ns.length/\Own s.2.2.2 s.2.1 (bs++us (ns.take s.1)).length s.2.2.1 5 1 (bv (bs++us (ns.take s.1)))) (fun s=>ns.length-s.1) (0,ao,c1,h) (by simpa[us] using o) (by simp only[us,List.take_zero,List.append_nil];exact ⟨I,I,I,trivial⟩) I I ?_)))))))))));rintro ⟨i,ao,c1,h⟩ ⟨hi,o⟩;dsimp only at hi o ⊢;refine sq (sq (rg (cmpS 3 I fun b10 h10=>fin 0 I (th (ifP h10 I (fun e2=>?_) (fun e2=>?_))))));have hus:=us_len (ns.take i) (fun n hn=>hns n (List.mem_of_mem_take hn));have hlt:(ns.take i).length<=ns.length:=by simp;omega
 ·have hin:i<ns.length:=by omega
  refine sk (th (sq (bk (sq (rg (ix1 2 i I I I x (uv_get hin) fun a15 hc15=>ld 0 I (In.cons hm) hc15 (cl 0 I (uintRef ns[i] (hns _ (List.getElem_mem hin))) ?_)))))));rintro v17 K17 hs17 ⟨g17,rfl,rfl,ao17,c17,rfl,o17⟩;have hu:=uint_le10 (hns _ (List.getElem_mem hin));refine fin 1 I (th (rg (appB 2 1 (bs++us (ns.take i)) (uint ns[i]) I I I o (.inr ⟨0,I⟩) o17.isS (by simp only[List.length_append];omega) fun ao20 c20 g20 o20=>?_)));have e:bs++us (ns.take i)++uint ns[i]=bs++us (ns.take (i+1)):=by rw[List.append_assoc,take_succ_get ns i hin,us_append];simp[us]
  rw[e] at o20 ⊢;exact fin 1 I (bl (th (WC.drop (rg (ar 1 I (i64w qo) (fin 1 I (again (x:=(i,ao,c1,h)) (i+1,ao20,c20,g20) ⟨I,I,I,trivial⟩ I I ⟨by omega,o20⟩ (by dsimp only;omega))))))))
 ·refine ex (xt (xt (xb (th (sq (rg ?_))))));obtain rfl:i=ns.length:=by omega
  rw[List.take_of_length_le (Nat.le_refl _)] at o ⊢;exact fin 2 I (th (rt (ret1 I I ⟨h,I,I,ao,c1,I,o⟩)))
theorem putCmdRef{w0:World}{K:PH}{hs:List PH}(c:Cmd)(hs1:c.ses<18446744073709551616)(hs2:c.seq<18446744073709551616):
  Ct Tryz.prog w0 33 [.agg c.v] K hs (fun v K' hs'=>K'=K/\OutB (putCmd c) hs v hs'):=by
 refine enter Tryz.func33 qk I I I<|sq (rg (bx 0 I fun b1=>fin 2 I<|th (sq<|sq (rg<|ldp 1 0 I I I (cmpS 0 I fun b8 h8=>fin 0 I<|th (ifP h8 I (fun e2=>?_) (fun e2=>?_)))))))
 ·refine sq<|sq (rg<|ldp 1 0 I I I (cmpS 0 I fun b11 h11=>?_))
  refine' bjo 1 4 16 [11,12] h11 I I I I I I I (fun _=>?x4) (fun b16 h16=>?_)
  case x4=>
   exact ldp 1 0 I I I (cmpS 0 I fun b15 h15=>fin 1 I<|bjx h15 I I I)
  refine' bjo 1 4 21 [16,17] h16 I I I I I I I (fun _=>?x6) (fun b21 h21=>?_)
  case x6=>
   exact ldp 1 0 I I I (snS 0 I fun b20 h20=>fin 1 I<|bjx h20 I I I)
  refine' bjo 1 4 26 [21,22] h21 I I I I I I I (fun _=>?x8) (fun b26 h26=>?_)
  case x8=>
   exact ldp 1 0 I I I (cmpS 0 I fun b25 h25=>fin 1 I<|bjx h25 I I I)
  refine fin 0 I<|th (ifP h26 I (fun e10=>?_) (fun e10=>?_))
  ·refine sq (rg (fin 2 I (th (rt (rT (rT (WQ.drop (WQ.em ?_))))))));exact ret2 I I I ⟨I,outN (putCmd_no fun ok=>ok.elim (fun ⟨h0,h1,h2,h3,h4⟩=>e10.elim (fun e=>e.elim (fun e=>e.elim (fun e=>e (by rw[h1];rfl)) (fun e=>e (by rw[h2];rfl))) (fun e=>e h3)) (fun e=>e h4)) (fun ⟨h1,_⟩=>by omega))⟩
  ·refine sk<|th (sq<|rg (lit 0 #[.int .u8 (1:Nat)] I (by decide) qk fun b27=>fin 2 I<|th (rt<|rT ?_)))
   have hc:c=⟨1,0,0,[],0⟩:=by
    simp only[not_or,ne_eq,Decidable.not_not] at e10;obtain ⟨⟨⟨h1,h2⟩,h3⟩,h4⟩:=e10;obtain ⟨k,s,q,l,t⟩:=c;dsimp only[Cmd.v] at *
    simp_all
   subst hc;exact WQ.perm (List.Perm.swap _ _ _) (WQ.drop (ret2 I I I ⟨I,outS (by decide) (own_byte b27 1 (by decide))⟩))
 ·refine sk<|th (sq<|sq (rg<|ldp 1 0 I I I (cmpS 0 I fun b30 h30=>?_)))
  refine' bja 1 4 35 [30,31] h30 I I I I I I I (fun _=>?x12) (fun b35 h35=>?_)
  case x12=>
   exact ldp 1 0 I I I (cmpS 0 I fun b34 h34=>fin 1 I<|bjx h34 I I I)
  refine' bjo 1 5 41 [35,36] h35 I I I I I I I (fun _=>?x14) (fun b41 h41=>?_)
  case x14=>
   exact ldp 1 0 I I I (cmpS 1 I fun b40 h40=>fin 1 I<|bjx h40 I I I)
  refine' bjo 1 4 46 [41,42] h41 I I I I I I I (fun _=>?x16) (fun b46 h46=>?_)
  case x16=>
   exact ldp 1 0 I I I (cmpS 0 I fun b45 h45=>fin 1 I<|bjx h45 I I I)
  refine' bjo 1 4 51 [46,47] h46 I I I I I I I (fun _=>?x18) (fun b51 h51=>?_)
  case x18=>
   exact ldp 1 0 I I I (cmpS 0 I fun b50 h50=>fin 1 I<|bjx h50 I I I)
  refine fin 0 I<|th (ifP h51 I (fun e20=>?_) (fun e20=>?_))
  ·exact sq (rg (fin 2 I (th (rt (rT (WQ.drop (WQ.em (ret2 I I I ⟨I,outN (putCmd_no fun ok=>ok.elim (fun h=>e2 h.1) (fun ⟨h1,h2,h3,h4,h5⟩=>by simp only[ByteArray.size,List.size_toArray] at e20;exact absurd e20 qo))⟩))))))))
  ·refine sk<|th (sq<|sq (rg<|ldp 1 0 I I I (cmpS 0 I fun b54 h54=>?_)))
   refine' bja 1 4 59 [54,55] h54 I I I I I I I (fun _=>?x22) (fun b59 h59=>?_)
   case x22=>
    exact ldp 1 0 I I I (cmpS 0 I fun b58 h58=>fin 1 I<|bjx h58 I I I)
   refine fin 0 I<|th (ifP h59 I (fun e24=>?_) (fun e24=>?_))
   ·exact sq<|rg (fin 2 I<|th (rt<|rT (WQ.drop<|WQ.em (ret2 I I I ⟨I,outN (putCmd_no fun ok=>ok.elim (fun h=>e2 h.1) (fun ⟨h1,h2,h3,h4,h5⟩=>e24.2<|h5 e24.1))⟩))))
   ·have hw96:c.word.length<=96:=by simp only[ByteArray.size,List.size_toArray] at e20;omega
    refine sk (th (sq (rg ?_)));have hok:c.ok:=.inr ⟨by omega,hw96,by omega,by omega,fun h=>by have:=e24;omega⟩;obtain ⟨t,ht⟩:∃ t:Nat,c.wt=(t:Nat):=Int.eq_ofNat_of_zero_le qo;obtain ⟨k,hk⟩:∃ k:Nat,c.kind=(k:Nat):=Int.eq_ofNat_of_zero_le qo;have hu1:=uint_le10 (n:=c.ses) hs1;have hu2:=uint_le10 (n:=c.seq) hs2;have hu3:=uint_le10 (n:=c.word.length) qo;refine ldp 1 0 I I I (ar 0 I (v':=.int .u8 (k:Nat)) (by rw[hk,u8w qo]) (lit 0 #[.int .u8 (k:Nat)] I (by decide) qk fun b63=>ldp 1 1 I I I (ldp 1 1 I I I (lit 0 #[.int .u64 (c.ses:Nat),.int .u64 (c.seq:Nat)] I (by decide) qk fun b68=>cl 0 I (Ct.at 1 I (uintsRef _ _ [UInt8.ofNat k] _ _ [c.ses,c.seq] (own_byte b63 k qo) (.inr ⟨0,I⟩) (isS_pt I I) (by simp;omega) (by simp) (by simp))) ?_))));rintro v69 K69 hs69 ⟨g69,rfl,rfl,ao69,c69,rfl,o69⟩;have hus:=us_len [c.ses,c.seq] (by simp;omega)
    have husl:[c.ses,c.seq].length=2:=rfl;refine fin 1 I (th (WC.drop (sq (rg (ldp 1 1 I I I (cvb 0 I qk fun b72 c72 g72 o72=>cl 0 I (putRef _ _ c.word (.inr ⟨0,I⟩) o72 qo) ?_))))));rintro v73 K73 hs73 ⟨g73,rfl,rfl,ao73,c73,rfl,o73⟩;have hpl:=putBytes_length c.word;refine fin 1 I (th (WC.perm (List.Perm.swap _ _ _) (WC.drop (sq (rg (appB 2 1 ([UInt8.ofNat k]++us [c.ses,c.seq]) (putBytes c.word) I I I o69 (.inr ⟨0,I⟩) o73.isS (by simp only[List.length_append,List.length_singleton];omega) fun ao76 c76 g76 o76=>fin 1 rfl (th (WC.drop (sq (sq (rg (ldp 1 1 rfl rfl rfl (cmpS 0 rfl fun b79 h79=>fin 0 rfl (th (ifP h79 rfl (fun e26=>?_) (fun e26=>?_))))))))))))))))
    ·refine rg (ldp 2 1 I I I (ar 0 I (v':=.int .u64 (t:Nat)) (by rw[ht,u64w qo]) (lit 0 #[.int .u64 (t:Nat)] I (by decide) qk fun b84=>cl 0 I (Ct.at 1 I (uintsRef _ _ _ _ _ [t] o76 (.inr ⟨0,I⟩) (isS_pt I I) (by simp;omega) (by simp only[List.length_append,List.length_singleton];omega) (by simp))) ?_)));rintro v85 K85 hs85 ⟨g85,rfl,rfl,ao85,c85,rfl,o85⟩;exact fin 1 I (th (sq (rg (fin 3 I (th (rt (WQ.drop (WQ.perm (List.Perm.swap _ _ _) (WQ.drop (ret2 I I I ⟨I,outS (by (obtain rfl:k=2:=by omega);rw[putCmd,if_pos hok,Cmd.bytes,if_neg qo,if_pos e26,ht];simp[us]) o85⟩))))))))))
    ·exact sk (th (sq (rg (fin 3 I (th (rt (WQ.perm (List.Perm.swap _ _ _) (WQ.drop (ret2 I I I ⟨I,outS (by (obtain rfl:k=3:=by omega);rw[putCmd,if_pos hok,Cmd.bytes,if_neg qo,if_neg e26];simp[us]) o76⟩)))))))))
def refCmdA(b:List UInt8):Cmd×Rd:=
 let x:=rByte (b,0)
 if x.1=1 then (⟨1,0,0,[],0⟩,x.2)
 else
  let s:=rUint mxU x.2
  let q:=rUint mxU s.2
  let w:=rBytes 96 q.2
  (⟨x.1,s.1,q.1,w.1,0⟩,w.2)
theorem refCmdR_ne{b:List UInt8}(h:¬(rByte (b,0)).1=2):refCmdR b=refCmdA b:=by
 simp_all [refCmdR,refCmdA]
theorem refCmdR_eq{b:List UInt8}(h:(rByte (b,0)).1=2):refCmdR b=(⟨2,(refCmdA b).1.ses,(refCmdA b).1.seq,(refCmdA b).1.word,(rUint 1073741824 (refCmdA b).2).1⟩,(rUint 1073741824 (refCmdA b).2).2):=by
 simp_all [refCmdR,refCmdA]
theorem refCmdB{b:List UInt8}{c:Cmd}{s:Rd}(hc:(c,s)=refCmdA b)(h2:(rByte (b,0)).1=2):((⟨c.kind,c.ses,c.seq,c.word,((rUint 1073741824 s).1:Nat)⟩:Cmd),(rUint 1073741824 s).2)=refCmdR b:=by
 simp_all [refCmdR_eq,refCmdA]
theorem ec_ob{o:Option (List UInt8)}{b:List UInt8}:(ec o=0/\ob o=b)↔o=some b:=by
 cases o <;> simp[ec,ob]
theorem getCmdRef{w0:World}{K hb:PH}{hs:List PH}(ao:Option Addr)(cap:Nat)(b:List UInt8)(hm:In K hs hb)(x:IsS hb ao b.length cap 1 (bv b))(hl:b.length<1099511627776):
  Ct Tryz.prog w0 212 [.slice ao b.length cap] K hs (fun v K' hs'=>K'=K/\hs'=hs/\v=.tuple #[.agg ((getCmd b).getD Cmd.zero).v,.int .i64 (ec (getCmd b))]):=by
 refine enter Tryz.func212 qk I I I (sq (rg (al 0 (.agg #[.int .i64 0,.int .u64 0,.int .u64 0,.string ⟨#[]⟩,.int .i64 0]) I qk fun b2=>fin 1 I (th (sq (rg (bd 1 (rv ao b.length cap 0 0) I (fun w=>by kernel_rfl) (cl 0 I (byteRef ao cap b (In.cons hm) x hl 0 0 (Nat.zero_le _)) ?_))))))));rintro v18 K18 hs18 ⟨rfl,rfl,p1,hp1,rfl,hd1⟩;rw[List.drop_zero] at hd1 ⊢;have hk256:=rByte_lt (b,0);have E1:(b.drop p1,(rByte (b,0)).2.2)=(rByte (b,0)).2:=Prod.ext hd1.symm rfl;refine al 3 (.agg #[.slice none 0 0,.int .i64 0,.int .i64 0]) I qk fun b4=>?_;refine stS 0 0 I I qk I I ?_;refine fin 1 I (th (sq (rg (ar 1 I (i64w qo) ?_))))
 skip
 refine bd 0 (.agg (Cmd.mk ((rByte (b,0)).1:Nat) 0 0 [] 0).v) I (fun w=>by kernel_rfl) ?_
 skip
 refine al 0 (.agg #[.int .i64 0,.int .u64 0,.int .u64 0,.string ⟨#[]⟩,.int .i64 0]) I qk fun b6=>?_;refine stS 0 0 I I qk I I ?_;refine fin 0 I (th (jn (σ:=Cmd×Nat×Int) (fun s=>[(0,.slice ao b.length cap),(2,.pointer (some ⟨b2,0,none⟩)),(4,.pointer (some ⟨b4,0,none⟩)),(5,.int .u8 ((rByte (b,0)).1:Nat)),(6,.pointer (some ⟨b6,0,none⟩))]) (fun s=>pt b6 s.1.v 93::pt b4 #[.slice ao b.length cap,.int .i64 s.2.1,.int .i64 s.2.2] 297::pt b2 Cmd.zero.v 93::hs) (fun s=>s.2.1<=b.length/\(s.1,(b.drop s.2.1,s.2.2))=refCmdA b) ?_ ?_))
 ·refine sq<|rg (cmpS 1 I fun b25 h25=>fin 0 I<|th (ifP h25 I (fun e2=>?_) (fun e2=>?_)))
  ·refine sq (rg (ldS 0 1 I I qk (cl 0 I (getUintRef ao cap b (In.cons3 hm) x hl p1 _ hp1 mxU) ?_)));rintro v28 K28 hs28 ⟨rfl,rfl,p2,hp2,rfl,hd2⟩;have E2:(b.drop p2,(rUint mxU (b.drop p1,(rByte (b,0)).2.2)).2.2)=(rUint mxU (b.drop p1,(rByte (b,0)).2.2)).2:=Prod.ext hd2.symm rfl;refine al 3 (.agg #[.slice none 0 0,.int .i64 0,.int .i64 0]) I qk fun b7=>?_;refine stS 0 0 I I qk I I ?_;refine fin 1 I (th (sq (rg (ldS 0 0 I I qk (cl 0 I (getUintRef ao cap b (In.cons4 hm) x hl p2 _ hp2 mxU) ?_)))));rintro v33 K33 hs33 ⟨rfl,rfl,p3,hp3,rfl,hd3⟩;have E3:=(Prod.ext hd3.symm rfl:(b.drop p3,(rUint mxU (b.drop p2,(rUint mxU (b.drop p1,(rByte (b,0)).2.2)).2.2)).2.2)=(rUint mxU (b.drop p2,(rUint mxU (b.drop p1,(rByte (b,0)).2.2)).2.2)).2);refine stS 3 0 I I qk I I ?_;refine fin 1 I (th (sq (rg (ldS 0 0 I I qk (cl 0 I (getBytesRef ao cap b (In.cons4 hm) x hl p3 _ hp3 96 qo) ?_)))))
   rintro v38 K38 hs38 ⟨rfl,hy,rfl,p4,hp4,aoy,cy,rfl,hd4,oy⟩;refine stS 3 1 I I qk I I ?_;refine fin 1 I (th (sq (rg (stp 2 2 I I I I (fin 0 I (th (sq (rg (stp 2 2 I I I I (fin 0 I (th (sq (rg (cvs 1 _ I (.inr ⟨0,I⟩) oy.isS qk (stp 1 2 I I I I (fin 0 I (th (rg (ldS 0 1 I I qk ?_)))))))))))))))))));refine stS 0 3 I I qk I I ?_;refine fin 0 I (WQ.drop (WQ.drop ?_));exact jx (⟨((rByte (b,0)).1:Nat),_,_,_,0⟩,p4,_) ⟨hp4,(by unfold refCmdA;dsimp only;rw[if_neg (fun h=>e2 (by rw[h];rfl)),<-E1,<-E2,<-E3];exact Prod.ext I (Prod.ext hd4.symm I))⟩ ⟨I,I,I,I,I,trivial⟩ I I
  ·have e2:(rByte (b,0)).1=1:=by omega
   exact sk (jx (⟨((rByte (b,0)).1:Nat),0,0,[],0⟩,p1,_) ⟨hp1,(by unfold refCmdA;dsimp only;rw[if_pos e2,<-E1,e2];rfl)⟩ ⟨rfl,rfl,rfl,rfl,rfl,trivial⟩ rfl rfl)
 ·rintro ⟨c,p,e⟩ ⟨hp,hc⟩;dsimp only at hp hc ⊢;refine jn (σ:=Cmd×Nat×Int) (fun s=>[(0,.slice ao b.length cap),(2,.pointer (some ⟨b2,0,none⟩)),(4,.pointer (some ⟨b4,0,none⟩)),(6,.pointer (some ⟨b6,0,none⟩))]) (fun s=>pt b6 s.1.v 93::pt b4 #[.slice ao b.length cap,.int .i64 s.2.1,.int .i64 s.2.2] 297::pt b2 Cmd.zero.v 93::hs) (fun s=>s.2.1<=b.length/\(s.1,(b.drop s.2.1,s.2.2))=refCmdR b) ?_ ?_
  ·refine sq<|rg (cmpS 1 I fun b50 h50=>fin 0 I<|th (ifP h50 I (fun e4=>?_) (fun e4=>?_)))
   ·refine sq (rg (ldS 0 1 I I qk (cl 0 I (getUintRef ao cap b (In.cons3 hm) x hl p _ hp 1073741824) ?_)));rintro v53 K53 hs53 ⟨rfl,rfl,p5,hp5,rfl,hd5⟩;have hw30:=rUint_le 1073741824 (b.drop p,e);refine al 3 (.agg #[.slice none 0 0,.int .i64 0,.int .i64 0]) I qk fun b11=>?_;refine stS 0 0 I I qk I I ?_;refine fin 1 I (th (sq (rg (ar 1 I (i64w qo) (stp 1 1 I I I I (fin 0 I (th (rg (ldS 0 0 I I qk ?_)))))))));refine stS 0 2 I I qk I I ?_;exact fin 0 I (WQ.drop (jx (⟨c.kind,c.ses,c.seq,c.word,((rUint 1073741824 (b.drop p,e)).1:Nat)⟩,p5,(rUint 1073741824 (b.drop p,e)).2.2) ⟨hp5,(by dsimp only;rw[<-hd5];exact refCmdB hc qo)⟩ ⟨I,I,I,I,trivial⟩ I I))
   ·refine sk ?_;exact jx (c,p,e) ⟨hp,by rw[refCmdR_ne (fun h=>e4 (by rw[h];rfl))];exact hc⟩ ⟨I,I,I,I,trivial⟩ I I
  ·clear hp hc;rintro ⟨c,p,e⟩ ⟨hp,hc⟩;dsimp only at hp hc ⊢;have hmx:mxU=18446744073709551615:=rfl;have hbd:=refCmd_bd b;rw[<-hc] at hbd;dsimp only at hbd;refine sq (rg (ldS 0 0 I I qk (cl 0 I (putCmdRef c qo qo) ?_)));rintro v62 K62 hs62 ⟨rfl,g,aog,cg,rfl,rfl,og⟩;refine fin 5 I (th (sq (sq (rg (ldS 0 2 I I qk (cl 0 I (endRef ao cap b p e hp) ?_))))));rintro v66 K66 hs66 ⟨rfl,rfl,rfl⟩;refine cmpS 0 I fun b67 h67=>?_
   refine' bjo 1 3 71 [67,68] h67 I I I I I I I (fun _=>?x6) (fun b71 h71=>?_)
   case x6=>
    exact cmpS 1 I fun b70 h70=>fin 1 I<|bjx h70 I I I
   refine' bjo 1 6 78 [71,72] h71 I I I I I I I (fun _=>?x8) (fun b78 h78=>?_)
   case x8=>
    exact cvs 1 _ I (.inr ⟨0,I⟩) og.isS qk<|cvs 1 b I (In.cons4 hm) x qk (snS 0 I fun b77 h77=>fin 1 I<|bjx h77 I I I)
   have hg:=ref_getCmd b;rw[<-hc] at hg;dsimp only at hg;refine fin 0 I (th (ifP h78 I (fun e10=>?_) (fun e10=>?_)))
   ·refine sq (rg (bd 0 (.agg Cmd.zero.v) I (fun w=>by kernel_rfl) ?_));refine stS 0 3 I I qk I I ?_;refine fin 1 I (th (rt (rT ?_)));exact retcP 3 4 I I I I qk ⟨I,I,by rw[hg,if_neg (fun h=>by have:=ec_ob.2 h.2;exact e10.elim (fun e=>e.elim (fun e=>e h.1) (fun e=>e this.1)) (fun e=>e this.2))];rfl⟩
   ·refine sk (th (sq (rg (ldS 0 1 I I qk ?_))));refine stS 0 3 I I qk I I ?_;exact fin 1 I (th (rt (retcP 3 4 I I I I qk ⟨I,I,by simp only[not_or,ne_eq,Decidable.not_not] at e10;rw[hg,if_pos ⟨e10.1.1,ec_ob.1 ⟨e10.1.2,e10.2⟩⟩];rfl⟩)))
end
section
attribute [local irreducible] Code.wp wpList Calls
theorem putConf_no{l:List Int}(h:¬(l≠[]/\confOK (-1) l)):putConf l=none:=if_neg h
theorem take_drop_conf(l:List Int)(i:Nat):confOK (-1) l↔confOK (-1) (l.take i)/\confOK ((l.take i).getLastD (-1)) (l.drop i):=by
 rw[<-confOK_split,List.take_append_drop]
theorem last_ge(l:List Int)(h:confOK (-1) l): -1<=l.getLastD (-1)/\l.getLastD (-1)<=6:=by
 have hm:=confOK_mem l (-1) h (by decide);cases hl:l.getLast? with
 | none=>simp[List.getLastD_eq_getLast?,hl]
 | some v=>
  have:=hm v (List.mem_of_getLast? hl)
  grind
theorem bits_take(l:List Int)(i:Nat)(h:confOK (-1) (l.take i))(hi:i<l.length)(h1:(l.take i).getLastD (-1)<l[i]):vbits (l.take i)<2 ^ l[i].toNat:=by
 have h2:=bits_lt (l.take i) (-1) h (by decide);have h3:2 ^ ((l.take i).getLastD (-1)+1).toNat<=2 ^ l[i].toNat:=Nat.pow_le_pow_right (by decide) qo
 grind
theorem bits_take_succ(l:List Int)(i:Nat)(hi:i<l.length):vbits (l.take (i+1))=vbits (l.take i)+2 ^ l[i].toNat:=by
 grind [take_succ_get,bits_append,vbits]
theorem conf_take_succ(l:List Int)(i:Nat)(hi:i<l.length)(h:confOK (-1) (l.take i))(h1:(l.take i).getLastD (-1)<l[i])(h2:l[i]<7):confOK (-1) (l.take (i+1)):=by
 rw[take_succ_get l i hi,confOK_split];exact ⟨h,h1,h2,trivial⟩
theorem conf_take_no(l:List Int)(i:Nat)(hi:i<l.length)(h:confOK (-1) l):(l.take i).getLastD (-1)<l[i]/\l[i]<7:=by
 rw[take_drop_conf l i] at h;obtain ⟨_,h2⟩:=h;rw[List.drop_eq_getElem_cons hi] at h2;exact ⟨h2.1,h2.2.1⟩
theorem putConfC{w0:World}{K hv:PH}{hs:List PH}(ao:Option Addr)(cap:Nat)(l:List Int)(hm:In K hs hv)(x:IsS hv ao l.length cap 1 (iv l))(hl:l.length<1099511627776):
  Ct Tryz.prog w0 87 [.agg #[.slice ao l.length cap]] K hs (fun v K' hs'=>K'=K/\OutB (putConf l) hs v hs'):=by
 refine ent Tryz.func87 ?_;refine sq (rg (bx 0 I fun b1=>au ?_));refine loop (σ:=Nat) (fun i=>[(1,.pointer (some ⟨b1,0,none⟩)),(4,.int .u8 (vbits (l.take i):Nat)),(5,.int .i64 ((l.take i).getLastD (-1))),(9,.slice ao l.length cap),(10,.int .i64 (l.length:Nat)),(11,.int .i64 (i:Nat))]) (fun _=>K) (fun i=>pt b1 #[.slice ao l.length cap] 46::hs) (fun i=>i<=l.length/\confOK (-1) (l.take i)) (fun i=>l.length-i) 0 ⟨Nat.zero_le _,trivial⟩ ⟨I,I,I,I,I,I,trivial⟩ I I ?_;rintro i ⟨hi,hc⟩;refine sq (rg (cmpS 0 I fun b12 h12=>?_));have hlast:=last_ge _ hc;refine au ?_;refine ifP h12 I (fun e2=>?_) (fun e2=>?_)
 ·have hin:i<l.length:=by omega
  refine au ?_;refine ix1 0 i I I I x (iv_get hin) fun a13 hc13=>ld 0 I (In.cons hm) hc13 (au ?_);refine cmpS 2 I fun b17 h17=>?_
  refine' bjo 1 3 21 [17,18] h17 I I I I I I I (fun _=>?x4) (fun b21 h21=>?_)
  case x4=>
   exact cmpS 1 I fun b20 h20=>fin 1 I<|bjx h20 I I I
  refine fin 0 I<|th (ifP h21 I (fun e6=>?_) (fun e6=>?_))
  ·exact sq (rg (fin 2 I (th (rt (rT (rB (rT (rT (rB (rT (WQ.drop (WQ.em (ret2 I I I ⟨I,outN (putConf_no fun h=>by have:=conf_take_no l i hin h.2;omega)⟩)))))))))))))
  ·have h1:(l.take i).getLastD (-1)<l[i]:=by omega
   refine sk (th (sq (rg ?_)));have h2:l[i]<7:=by omega
   obtain ⟨v,hv⟩:∃ v:Nat,l[i]=(v:Nat):=Int.eq_ofNat_of_zero_le (show 0<=l[i] by omega);have hbt:=bits_take l i hc hin h1;have hbs:=bits_take_succ l i hin;have hlt:=last_take_succ l i hin (-1);have hcs:=conf_take_succ l i hin hc h1 h2;rw[hv] at hbt hbs hlt h2 ⊢;simp only[Int.toNat_natCast] at hbt hbs;refine shf 2 I qo (.inl ⟨I,shl1 v qo⟩) (ar 0 I (or_add _ v qo hbt) (au ?_));refine ar 0 I (i64w qo) (fin 1 I ?_);exact again (x:=i) (i+1) ⟨I,by rw[hbs];rfl,by rw[hlt];rfl,rfl,rfl,rfl,trivial⟩ rfl rfl ⟨by omega,hcs⟩ qo
 ·obtain rfl:i=l.length:=by omega
  refine au ?_;rw[List.take_of_length_le (Nat.le_refl _)] at hc ⊢;have hbb:=conf_bits hc;refine cmpS 1 I fun b29 h29=>fin 0 I (th (ifP h29 I (fun e8=>?_) (fun e8=>?_)))
  ·exact sq (rg (fin 2 I (th (rt (rT (WQ.drop (WQ.em (ret2 I I I ⟨I,outN (putConf_no fun h=>by have:=hbb.2.2 h.1;omega)⟩))))))))
  ·refine sk (th (sq (rg (lit 1 #[.int .u8 (vbits l:Nat)] I (by decide) qk fun b31=>fin 2 I (th (rt (WQ.perm (List.Perm.swap _ _ _) (WQ.drop ?_))))))));exact ret2 I I I ⟨I,outS (by rw[putConf,if_pos ⟨fun h=>by subst h;exact e8 I,hc⟩]) (own_byte b31 (vbits l) qo)⟩
theorem putConfRef{w0:World}{K hv:PH}{hs:List PH}(ao:Option Addr)(cap:Nat)(l:List Int)(hm:In K hs hv)(x:IsS hv ao l.length cap 1 (iv l))(hl:l.length<1099511627776)(h64:∀ v∈l,-9223372036854775808<=v/\v<=9223372036854775807):
  Ct Tryz.prog w0 40 [.agg #[.slice ao l.length cap]] K hs (fun v K' hs'=>K'=K/\OutB (putConf l) hs v hs'):=by
 refine enter Tryz.func40 qk I I I<|sq (rg (bx 0 I fun b1=>fin 2 I<|th (sq<|sq (rg<|ldp 1 0 I I I (cmpS 1 I fun b12 h12=>?_)))))
 refine' bjo 1 5 18 [12,13] h12 I I I I I I I (fun _=>?x2) (fun b18 h18=>?_)
 case x2=>
  exact ldp 1 0 I I I (cmpS 1 I fun b17 h17=>fin 1 I<|bjx h17 I I I)
 refine fin 0 I<|th (ifP h18 I (fun e4=>?_) (fun e4=>?_))
 ·exact sq (rg (fin 2 I (th (rt (rT (WQ.drop (WQ.em (ret2 I I I ⟨I,outN (putConf_no fun h=>by have:=confOK_len l (-1) h.2 (by decide) (by decide);have h0:=h.1;exact e4.elim (fun e=>h0 (List.eq_nil_of_length_eq_zero qo)) (fun e=>by omega))⟩))))))))
 ·refine sk (th (sq (rg (fin 1 I (th (sq (sq (rg (fin 1 I (th (bk (loop (σ:=Nat) (fun i=>[(1,.pointer (some ⟨b1,0,none⟩)),(4,.int .i64 (vbits (l.take i):Nat)),(5,.int .i64 (i:Nat))]) (fun _=>K) (fun i=>pt b1 #[.slice ao l.length cap] 46::hs) (fun i=>i<=l.length/\confOK (-1) (l.take i)) (fun i=>l.length-i) 0 ⟨Nat.zero_le _,trivial⟩ ⟨I,I,I,trivial⟩ I I ?_))))))))))));rintro i ⟨hi,hc⟩;refine sq (sq (rg (ldp 2 0 I I I (cmpS 1 I fun b23 h23=>fin 0 I (th (ifP h23 I (fun e6=>?_) (fun e6=>?_)))))))
  ·have hin:i<l.length:=by omega
   refine sk (th (sq (bk (sq (rg ?_)))));have hlast:=last_ge _ hc;have hbb:=conf_bits hc
   have hprev:0<i->(l.take i).getLastD (-1)=l.getD (i-1) 0:=fun h=>by
    obtain ⟨j,rfl⟩:∃ j,i=j+1:=⟨i-1,by omega⟩;rw[last_take_succ l j qo];simp[List.getD,List.getElem?_eq_getElem (show j<l.length by omega)]
   have hprev0:i=0->(l.take i).getLastD (-1) = -1:=fun h=>by subst h;rfl
   refine ldp 1 0 I I I (ix1 1 i I I I x (iv_get hin) fun a29 hc29=>ld 0 I (In.cons hm) hc29<|fin 1 I (th<|sq (sq<|rg (cmpS 1 I fun b32 h32=>?_))))
   refine' bjo 1 3 36 [32,33] h32 I I I I I I I (fun _=>?x8) (fun b36 h36=>?_)
   case x8=>
    exact cmpS 1 I fun b35 h35=>fin 1 I<|bjx h35 I I I
   refine' bjo 1 13 50 [36,37] h36 I I I I I I I (fun _=>?x10) (fun b50 h50=>?_)
   case x10=>
    refine cmpS 1 I fun b39 h39=>?_
    refine' bja 1 9 49 [39,40] h39 I I I I I I I (fun _=>?x12) (fun b49 h49=>?_)
    case x12=>
     exact ldp 1 0 I I I (ar 1 I (v':=.int .i64 (i-1:Nat)) (by rw[i64w qo];congr 1;omega) (ix1 0 (i-1) rfl rfl rfl x (iv_getD (show i-1<l.length by omega)) fun a45 hc45=>ld 0 rfl (In.cons hm) hc45 (cmpS 1 rfl fun b48 h48=>fin 1 rfl (bjx h48 rfl rfl rfl))))
    exact fin 1 I<|bjx h49 I I I
   refine fin 0 I<|th (ifP h50 I (fun e14=>?_) (fun e14=>?_))
   ·refine sq<|rg (fin 2 I<|th (rt<|rT (rB<|rT (rT<|rB (rT<|WQ.drop (WQ.em ?_))))))
    exact ret2 I I I ⟨I,outN (putConf_no fun h=>by
     have h7:=conf_take_no l i hin h.2;rcases e14 with (e|e)|⟨e,e'⟩
     ·omega
     ·omega
     ·have:=hprev qo;omega)⟩
   ·have h2:l[i]<7:=by omega
    refine sk<|th (sq<|rg ?_)
    have h1:(l.take i).getLastD (-1)<l[i]:=by
     rcases Nat.eq_zero_or_pos i with h|h
     ·have:=hprev0 h;omega
     ·have:=hprev h;have h3:¬(l[i]<=l.getD (i-1) 0):=fun h'=>e14 (.inr ⟨by omega,h'⟩);omega
    obtain ⟨v,hv⟩:∃ v:Nat,l[i]=(v:Nat):=Int.eq_ofNat_of_zero_le (show 0<=l[i] by omega);have hbt:=bits_take l i hc hin h1;have hbs:=bits_take_succ l i hin;have hcs:=conf_take_succ l i hin hc h1 h2;have hbb':=(conf_bits hcs).1;rw[hv] at hbt hbs h2 ⊢;simp only[Int.toNat_natCast] at hbt hbs;refine fin 1 I (th (sq (sq (rg (fin 1 I (th (bk (loop (σ:=Nat) (fun k=>[(1,.pointer (some ⟨b1,0,none⟩)),(4,.int .i64 (vbits (l.take i):Nat)),(5,.int .i64 (i:Nat)),(6,.int .i64 (v:Nat)),(7,.int .i64 (2 ^ k:Nat)),(8,.int .i64 (k:Nat))]) (fun _=>K) (fun k=>pt b1 #[.slice ao l.length cap] 46::hs) (fun k=>k<=v) (fun k=>v-k) 0 (Nat.zero_le _) ⟨I,I,I,I,I,I,trivial⟩ I I ?_))))))));rintro k hk;refine sq (sq (rg (cmpS 2 I fun b53 h53=>fin 0 I (th (ifP h53 I (fun e16=>?_) (fun e16=>?_))))))
    ·refine sk (th (sq (bk (rg ?_))));have hp:2 ^ k<=2 ^ 6:=Nat.pow_le_pow_right (by decide) qo;have hp0:=Nat.two_pow_pos k;exact ar 1 I (v':=.int .i64 ((2 ^ (k+1):Nat):Int)) (by rw[i64w qo,Nat.pow_succ];congr 1;omega) (fin 1 rfl (bl (th (rg (ar 1 rfl (i64w qo) (fin 1 rfl (again (x:=k) (k+1) ⟨rfl,rfl,rfl,rfl,rfl,rfl,trivial⟩ rfl rfl (show k+1<=v by omega) (by (try dsimp only);omega))))))))
    ·obtain rfl:k=v:=by omega
     exact ex (xt (xt (xb (th (rg (ar 2 I (v':=.int .i64 ((vbits (l.take (i+1)):Nat):Int)) (by rw[i64w qo,hbs];rfl) (fin 1 rfl (bl (th (rg (ar 1 rfl (i64w qo) (fin 1 rfl (again (x:=i) (i+1) ⟨rfl,rfl,rfl,trivial⟩ rfl rfl ⟨by omega,hcs⟩ (by (try dsimp only);omega))))))))))))))
  ·obtain rfl:i=l.length:=by omega
   refine ex (xt (xt (xb (th (sq (rg ?_))))));rw[List.take_of_length_le (Nat.le_refl _)] at hc ⊢;have hbb:=conf_bits hc;refine ar 1 I (u8w qo) (lit 0 #[.int .u8 (vbits l:Nat)] I (by decide) qk fun b63=>fin 2 I (th (rt (WQ.perm (List.Perm.swap _ _ _) (WQ.drop ?_)))));exact ret2 I I I ⟨I,outS (by rw[putConf,if_pos ⟨fun h=>by subst h;exact e4 (.inl (by decide)),hc⟩]) (own_byte b63 (vbits l) qo)⟩
def OutV(o:Option (List Int))(hs:List PH)(v:Value)(hs':List PH):Prop:=
 ∃ h ao c,hs'=h::hs/\v=.tuple #[.agg #[.slice ao (o.getD []).length c],.int .i64 (ec o)]/\Own h ao (o.getD []).length c 3 1 (iv (o.getD []))
theorem bv_getD{l:List UInt8}{j:Nat}(h:j<l.length):(bv l)[j]?=some (.int .u8 ((l.getD j 0).toNat:Nat)):=by simp[bv,h,List.getD]
theorem appI{P:Program}{T:Tab}{w0:World}{ops:Array Oper}{Q:Exit->Act->World->Prop}{rest rest':List Oper}{n:Nat}{l l':Sl}{K:PH}{hs:List PH}
  [hT:TabOK P T] (k i:Nat) (xs:List Int) (y:Int) {d:Nat} {si:SlI} {ao ao2:Option Addr} {c1 c2:Nat} {h h2:PH} (h0:apAt T ops n k rest l=some (d,si,(ao,xs.length,c1),(ao2,1,c2),rest',l'))
  (hi:hs[i]?=some h) (hsz:(si.size,si.bytes,si.zero.cells.size)=(1,8,1)) (o:Own h ao xs.length c1 si.elem 1 (iv xs)) (hm:In K hs h2) (x:IsS h2 ao2 1 c2 1 (iv [y])) (hb:xs.length<=17592186044415)
  (hk:∀ ao' cap' h',Own h' ao' (xs++[y]).length cap' si.elem 1 (iv (xs++[y]))->WL P w0 ops Q rest' n ((d,.slice ao' (xs++[y]).length cap')::l') K (hs.set i h')):WL P w0 ops Q rest n l K hs:=by
 simp only[Prod.mk.injEq] at hsz;obtain ⟨e1,e2,e3⟩:=hsz;refine app k i h0 hi (by rw[e1];exact o) hm (by rw[e1];exact x) (by rw[e1,e3]) qo (iv_one _) (by rw[e2];omega) (by simp only[maxLen];omega) fun ao' cap' h' o'=>?_;have e:(xs++[y]).length=xs.length+1:=by simp
 simp_all [iv_append]
theorem getConf_one{c:UInt8}(h:¬(c.toNat=0\/128<=c.toNat)):getConf [c]=some (voters c.toNat 7):=if_neg h
theorem getConf_no{b:List UInt8}(h:b.length≠1\/(b.getD 0 0).toNat=0\/128<=(b.getD 0 0).toNat):getConf b=none:=by
 unfold getConf
 grind
theorem i64quo2(n:Nat)(h:n<18446744073709551616):Value.int .i64 (IntKind.i64.wrap (((n:Nat):Int).tdiv 2))=.int .i64 (n / 2:Nat):=by
 rw[show ((n:Nat):Int).tdiv 2=((n / 2:Nat):Int) from by rfl,i64w qo]
theorem getConfC{w0:World}{K hb:PH}{hs:List PH}(ao:Option Addr)(cap:Nat)(b:List UInt8)(hm:In K hs hb)(x:IsS hb ao b.length cap 1 (bv b))(hl:b.length<1099511627776):
  Ct Tryz.prog w0 107 [.slice ao b.length cap] K hs (fun v K' hs'=>K'=K/\OutV (getConf b) hs v hs'):=by
 refine ent Tryz.func107 ?_;refine sq (rg (al 0 (.agg #[.slice none 0 0]) I qk fun b2=>au ?_));refine cmpS 2 I fun b8 h8=>?_
 refine' bjo 1 5 14 [8,9] h8 I I I I I I I (fun _=>?x2) (fun b14 h14=>?_)
 case x2=>
  exact ix1 1 0 I I I x (bv_getD qo) fun a11 hc11=>ld 0 I (In.cons hm) hc11 (cmpS 0 I fun b13 h13=>fin 1 I<|bjx h13 I I I)
 refine' bjo 1 5 20 [14,15] h14 I I I I I I I (fun _=>?x4) (fun b20 h20=>?_)
 case x4=>
  exact ix1 1 0 I I I x (bv_getD qo) fun a17 hc17=>ld 0 I (In.cons hm) hc17 (cmpS 0 I fun b19 h19=>fin 1 I<|bjx h19 I I I)
 refine fin 0 I<|th (ifP h20 I (fun e6=>?_) (fun e6=>?_))
 ·have hn:getConf b=none:=getConf_no qo;refine sq (rg (bd 0 (.agg #[.slice none 0 0]) I (fun w=>by kernel_rfl) ?_));refine stS 0 0 I I qk I I ?_;refine fin 1 I (th (rt (rT (WQ.em (WQ.perm (List.Perm.swap _ _ _) ?_)))));exact retcP 0 1 I I I I qk ⟨I,em,none,0,I,by rw[hn];rfl,by rw[hn];exact Own.nil _ _⟩
 ·obtain ⟨c,rfl⟩:∃ c,b=[c]:=List.length_eq_one_iff.1 qo;refine sk (th (sq (rg ?_)));have hc:¬(c.toNat=0\/128<=c.toNat):=by simp only[List.getD_cons_zero] at e6;omega
  clear e6;have hn:=getConf_one hc;refine al 0 (.agg #[.slice none 0 0]) I qk fun b4=>fin 0 I (th (sq (sq (rg (fin 1 I (th (bk (WC.em (loop (σ:=Nat×Option Addr×Nat×PH) (fun s=>[(0,.slice ao 1 cap),(2,.pointer (some ⟨b2,0,none⟩)),(4,.pointer (some ⟨b4,0,none⟩)),(22,.int .i64 (s.1:Nat))]) (fun _=>K) (fun s=>s.2.2.2::pt b4 #[.slice s.2.1 (voters c.toNat s.1).length s.2.2.1] 46::pt b2 #[.slice none 0 0] 46::hs) (fun s=>s.1<=7/\Own s.2.2.2 s.2.1 (voters c.toNat s.1).length s.2.2.1 3 1 (iv (voters c.toNat s.1))) (fun s=>7-s.1) (0,none,0,em) ⟨by decide,Own.nil _ _⟩ ⟨I,I,I,I,trivial⟩ I I ?_)))))))));rintro ⟨k,aoV,cV,g⟩ ⟨hk,o⟩;dsimp only at hk o ⊢;have hvl:=voters_len c.toNat k;have hvs:=voters_succ c.toNat k;refine sq (rg (cmpS 0 I fun b23 h23=>au ?_));refine ifP h23 I (fun e8=>?_) (fun e8=>?_)
  ·have hk7:k<7:=by omega
   refine au ?_;refine ix1 1 0 I I I x I fun a26 hc26=>ld 0 I (In.cons3 hm) hc26 (shf 1 I qo (.inr ⟨I,shrN c.toNat k hk7⟩) (ar 0 I (and1N _ (by have:=Nat.div_le_self c.toNat (2 ^ k);omega)) (cmpS 0 rfl fun b31 h31=>fin 0 rfl (th (ifP h31 rfl (fun e10=>?_) (fun e10=>?_))))))
   ·have e10':c.toNat / 2 ^ k % 2=1:=by omega
    refine rg ?_;rw[if_pos e10'] at hvs;refine au ?_;refine lit 1 #[.int .i64 (k:Nat)] I (by decide) qk fun b35=>appI 0 1 (voters c.toNat k) (k:Nat) I I I o (.inr ⟨0,I⟩) (isS_pt I I) qo fun ao36 c36 g36 o36=>?_;rw[<-hvs] at o36 ⊢;exact stp 1 2 I I I I (fin 0 I (bl (th (WC.drop (rg (ar 0 I (i64w qo) (fin 1 I (again (x:=(k,aoV,cV,g)) (k+1,ao36,c36,g36) ⟨I,I,I,I,trivial⟩ I I ⟨by omega,o36⟩ qo))))))))
   ·have e10':¬c.toNat / 2 ^ k % 2=1:=by omega
    refine sk (bl (th (rg ?_)));rw[if_neg e10',List.append_nil] at hvs;refine ar 0 I (i64w qo) (fin 1 I ?_);exact again (x:=(k,aoV,cV,g)) (k+1,aoV,cV,g) ⟨I,I,I,I,trivial⟩ I (by rw[<-hvs]) ⟨by omega,by rw[hvs];exact o⟩ qo
  ·obtain rfl:k=7:=by omega
   refine ex (xt (xt (xb (th (sq (rg (ldS 0 1 I I qk ?_)))))));refine stS 0 2 I I qk I I ?_;refine fin 1 I (th (rt (WQ.perm (List.perm_middle (l₁:=[_,_])).symm (WQ.drop ?_))));exact retcP 0 1 I I I I qk ⟨I,g,aoV,cV,I,by rw[hn];rfl,by rw[hn];exact o⟩
theorem getConfRef{w0:World}{K hb:PH}{hs:List PH}(ao:Option Addr)(cap:Nat)(b:List UInt8)(hm:In K hs hb)(x:IsS hb ao b.length cap 1 (bv b))(hl:b.length<1099511627776):
  Ct Tryz.prog w0 213 [.slice ao b.length cap] K hs (fun v K' hs'=>K'=K/\OutV (getConf b) hs v hs'):=by
 refine enter Tryz.func213 qk I I I<|sq (rg (al 0 (.agg #[.slice none 0 0]) I qk fun b2=>fin 1 I<|th (sq<|rg (al 0 (.agg #[.slice none 0 0]) I qk fun b4=>fin 0 I<|th (sq<|sq (rg (cmpS 2 I fun b9 h9=>?_)))))))
 refine' bjo 1 5 15 [9,10] h9 I I I I I I I (fun _=>?x2) (fun b15 h15=>?_)
 case x2=>
  exact ix1 1 0 I I I x (bv_getD qo) fun a12 hc12=>ld 0 I (In.cons<|In.cons hm) hc12 (cmpS 0 I fun b14 h14=>fin 1 I<|bjx h14 I I I)
 refine' bjo 1 5 21 [15,16] h15 I I I I I I I (fun _=>?x4) (fun b21 h21=>?_)
 case x4=>
  exact ix1 1 0 I I I x (bv_getD qo) fun a18 hc18=>ld 0 I (In.cons<|In.cons hm) hc18 (cmpS 0 I fun b20 h20=>fin 1 I<|bjx h20 I I I)
 refine fin 0 I<|th (ifP h21 I (fun e6=>?_) (fun e6=>?_))
 ·have hn:getConf b=none:=getConf_no qo;refine sq (rg (ldS 0 0 I I qk ?_));refine stS 0 1 I I qk I I ?_;refine fin 1 I (th (rt (rT (WQ.drop (WQ.em (WQ.perm (List.Perm.swap _ _ _) ?_))))));exact retcP 0 1 I I I I qk ⟨I,em,none,0,I,by rw[hn];rfl,by rw[hn];exact Own.nil _ _⟩
 ·obtain ⟨c,rfl⟩:∃ c,b=[c]:=List.length_eq_one_iff.1 qo;refine sk (th (sq (rg ?_)));have hc:¬(c.toNat=0\/128<=c.toNat):=by simp only[List.getD_cons_zero] at e6;omega
  clear e6;have hn:=getConf_one hc;have hc256:=c.toNat_lt;refine ix1 1 0 I I I x I fun a24 hc24=>ld 0 I (In.cons (In.cons hm)) hc24 (ar 0 I (i64w qo) (fin 1 I (th (sq (sq (rg (fin 1 I (th (bk (WC.em (loop (σ:=Nat×Option Addr×Nat×PH) (fun s=>[(2,.pointer (some ⟨b2,0,none⟩)),(4,.pointer (some ⟨b4,0,none⟩)),(5,.int .i64 (c.toNat / 2 ^ s.1:Nat)),(6,.int .i64 (s.1:Nat))]) (fun _=>K) (fun s=>s.2.2.2::pt b4 #[.slice s.2.1 (voters c.toNat s.1).length s.2.2.1] 46::pt b2 #[.slice none 0 0] 46::hs) (fun s=>s.1<=7/\Own s.2.2.2 s.2.1 (voters c.toNat s.1).length s.2.2.1 3 1 (iv (voters c.toNat s.1))) (fun s=>7-s.1) (0,none,0,em) ⟨by decide,Own.nil _ _⟩ ⟨I,I,by simp;rfl,rfl,trivial⟩ rfl rfl ?_)))))))))));rintro ⟨k,aoV,cV,g⟩ ⟨hk,o⟩;dsimp only at hk o ⊢;have hvl:=voters_len c.toNat k;have hvs:=voters_succ c.toNat k;have hdiv:=Nat.div_le_self c.toNat (2 ^ k);have hd2:c.toNat / 2 ^ (k+1)=c.toNat / 2 ^ k / 2:=by rw[Nat.pow_succ,Nat.div_div_eq_div_mul]
  refine sq<|sq (rg (cmpS 1 I fun b28 h28=>fin 0 I<|th (ifP h28 I (fun e8=>?_) (fun e8=>?_))))
  ·refine sk<|th (sq<|bk (sq<|sq (rg<|ar 1 I (u_rem .i64 (c.toNat / 2 ^ k) 2) (cmpS 0 I fun b33 h33=>fin 0 I<|th (ifP h33 I (fun e10=>?_) (fun e10=>?_))))))
   ·have e10':c.toNat / 2 ^ k % 2=1:=by omega
    refine rg ?_;rw[if_pos e10'] at hvs;refine ldp 1 1 I I I (lit 1 #[.int .i64 (k:Nat)] I (by decide) qk fun b37=>appI 0 1 (voters c.toNat k) (k:Nat) I I I o (.inr ⟨0,I⟩) (isS_pt I I) qo fun ao36 c36 g36 o36=>?_);rw[<-hvs] at o36 ⊢;exact stp 1 2 I I I I (fin 0 I (th (WC.drop (rg (ar 1 I (v':=.int .i64 ((c.toNat / 2 ^ (k+1):Nat):Int)) (by rw[i64quo2 _ qo,hd2]) (fin 1 I (bl (th (rg (ar 1 I (i64w qo) (fin 1 I (again (x:=(k,aoV,cV,g)) (k+1,ao36,c36,g36) ⟨I,I,I,I,trivial⟩ I I ⟨by omega,o36⟩ (by (try dsimp only);omega)))))))))))))
   ·have e10':¬c.toNat / 2 ^ k % 2=1:=by omega
    refine sk (th (rg ?_));rw[if_neg e10',List.append_nil] at hvs;refine ar 1 I (v':=.int .i64 ((c.toNat / 2 ^ (k+1):Nat):Int)) (by rw[i64quo2 _ qo,hd2]) (fin 1 I (bl (th (rg (ar 1 I (i64w qo) (fin 1 I ?_))))));exact again (x:=(k,aoV,cV,g)) (k+1,aoV,cV,g) ⟨I,I,I,I,trivial⟩ I (by rw[<-hvs]) ⟨by omega,by rw[hvs];exact o⟩ (by (try dsimp only);omega)
  ·obtain rfl:k=7:=by omega
   refine ex (xt (xt (xb (th (sq (rg (ldS 0 1 I I qk ?_)))))));refine stS 0 2 I I qk I I ?_;refine fin 1 I (th (rt (WQ.perm (List.perm_middle (l₁:=[_,_])).symm (WQ.drop ?_))));exact retcP 0 1 I I I I qk ⟨I,g,aoV,cV,I,by rw[hn];rfl,by rw[hn];exact o⟩
theorem sameVoters{w0:World}{K h1 h2:PH}{hs:List PH}(a1 a2:Option Addr)(c1 c2:Nat)(l1 l2:List Int)(m1:In K hs h1)(m2:In K hs h2)(x1:IsS h1 a1 l1.length c1 1 (iv l1))(x2:IsS h2 a2 l2.length c2 1 (iv l2))(hl:l1.length<1099511627776):
  Ct Tryz.prog w0 93 [.slice a1 l1.length c1,.slice a2 l2.length c2] K hs (fun v K' hs'=>K'=K/\hs'=hs/\∃ b:Bool,v=.bool b/\(b=true↔l1=l2)):=by
 refine enter Tryz.func93 qk I I I<|sq (rg<|fin 1 I (th<|sq (sq<|rg (cmpS 4 I fun b10 h10=>fin 0 I<|th (ifP h10 I (fun e2=>?_) (fun e2=>?_))))))
 ·exact sq (rg (fin 1 I (th (rt (rT (ret1 I I ⟨I,I,false,I,by simp;intro h;subst h;exact e2 I⟩))))))
 ·have hll:l1.length=l2.length:=by omega
  refine sk (th (sq (sq (rg (fin 1 I (th (bk (loop (σ:=Nat) (fun i=>[(0,.slice a1 l1.length c1),(1,.slice a2 l2.length c2),(5,.int .i64 (i:Nat))]) (fun _=>K) (fun _=>hs) (fun i=>i<=l1.length/\l1.take i=l2.take i) (fun i=>l1.length-i) 0 ⟨Nat.zero_le _,I⟩ ⟨I,I,I,trivial⟩ I I ?_))))))));rintro i ⟨hi,he⟩;refine sq (sq (rg (cmpS 3 I fun b14 h14=>fin 0 I (th (ifP h14 I (fun e4=>?_) (fun e4=>?_))))))
  ·have hi1:i<l1.length:=by omega
   refine sk (th (sq (bk (sq (rga hs 9 [0,2,4,6,8,10,12,14,16] (by simp) qk qk ?_)))));have hi2:i<l2.length:=by omega
   obtain ⟨a1,rfl⟩:=x1.addr hi1 (by decide);obtain ⟨a2,rfl⟩:=x2.addr hi2 (by decide);obtain ⟨a1',ha1,hc1⟩:=x1.2.2 i _ (iv_get hi1);obtain ⟨a2',ha2,hc2⟩:=x2.2.2 i _ (iv_get hi2);cases ha1;cases ha2;refine dixs qk 2 i I I hi1 (dld qk 0 I m1 (by simpa using hc1) (dixs qk 2 i I I hi2 (dld qk 0 I m2 (by simpa using hc2) (dcbS qk 0 (l1[i]≠l2[i]) I (by simp) fun b25 h25=>dend qk 0 I (th (ifP h25 I (fun e5=>?_) (fun e5=>?_)))))))
   ·exact sq (rg (fin 1 I (th (rt (rB (rT (rT (rB (rT (ret1 I I ⟨I,I,false,I,by simp;intro h;subst h;exact e5 I⟩))))))))))
   ·refine sk (bl (th (rg (ar 1 I (i64w qo) (fin 1 I ?_)))));exact again (x:=i) (i+1) ⟨I,I,I,trivial⟩ I I ⟨by omega,by rw[take_succ_get l1 i hi1,take_succ_get l2 i hi2,he,Decidable.not_not.1 e5]⟩ (by (try dsimp only);omega)
  ·obtain rfl:i=l1.length:=by omega
   exact ex (xt (xt (xb (th (sq (rg (fin 1 I (th (rt (ret1 I I ⟨I,I,true,I,by simp;rw[List.take_of_length_le (Nat.le_refl _),hll,List.take_of_length_le (Nat.le_refl _)] at he;exact he⟩))))))))))
theorem heldC{w0:World}{K hb:PH}{hs:List PH}(k:Int)(ao:Option Addr)(cap:Nat)(b:List UInt8)(hm:In K hs hb)(x:IsS hb ao b.length cap 1 (bv b))(hl:b.length<1099511627776):
  Ct Tryz.prog w0 176 [.int .i64 k,.slice ao b.length cap] K hs (fun v K' hs'=>K'=K/\hs'=hs/\∃ t:Bool,v=.bool t/\(t=true↔heldP k b)):=by
 refine ent Tryz.func176 ?_;refine sq (rg (fin 1 I (th (sq (rg (fin 1 I (th (jn (σ:=Int) (fun s=>[(5,.int .i64 s)]) (fun s=>hs) (fun s=>(s=0↔heldP k b)) ?_ ?_))))))))
 ·refine au ?_;refine cmpS 0 I fun b8 h8=>fin 1 I (th (ifP h8 I (fun e2=>?_) (fun e2=>?_)))
  ·refine sq (rg (cmpS 2 I fun b11 h11=>au ?_));exact jr (ret1 I I ⟨I,I,b11,I,h11.trans ⟨fun h=>.inl ⟨e2,List.eq_nil_of_length_eq_zero qo⟩,fun h=>by rcases h with ⟨_,h⟩|⟨h,_⟩|⟨h,_⟩ <;> first|(rw[h];rfl)|(omega)⟩⟩)
  ·refine sq<|rg (cmpS 0 I fun b13 h13=>fin 1 I<|th (ifP h13 I (fun e5=>?_) (fun e5=>?_)))
   ·refine rg (cl 1 I (getCmdC ao cap b hm x hl) ?_);rintro v16 K16 hs16 ⟨rfl,rfl,rfl⟩;exact fin 4 I (bl (jx (ec (getCmd b)) ⟨fun h=>.inr (.inl ⟨e5,ec_zero.1 h⟩),fun h=>ec_zero.2 (by rcases h with ⟨h,_⟩|⟨_,h⟩|⟨h,_⟩ <;> first|exact h|(omega))⟩ ⟨rfl,trivial⟩ rfl rfl))
   ·refine sq<|rg (cmpS 0 I fun b20 h20=>fin 1 I<|th (ifP h20 I (fun e7=>?_) (fun e7=>?_)))
    ·refine rg (cl 1 I (getConfC ao cap b hm x hl) ?_);rintro v23 K23 hs23 ⟨rfl,g,aog,cg,rfl,rfl,og⟩;exact fin 4 I (bl (WQ.drop (jx (ec (getConf b)) ⟨fun h=>.inr (.inr ⟨e7,ec_zero.1 h⟩),fun h=>ec_zero.2 (by rcases h with ⟨h,_⟩|⟨h,_⟩|⟨_,h⟩ <;> first|exact h|(omega))⟩ ⟨rfl,trivial⟩ rfl rfl)))
    ·refine au ?_;exact jr (ret1 I I ⟨I,I,false,I,⟨fun h=>by simp at h,fun h=>by have:=held_kind h;omega⟩⟩)
 ·rintro s hsd;refine sq (rg (cmpS 1 I fun b27 h27=>au ?_));exact ret1 I I ⟨I,I,b27,I,h27.trans hsd⟩
theorem heldRef{w0:World}{K hb:PH}{hs:List PH}(k:Int)(ao:Option Addr)(cap:Nat)(b:List UInt8)(hm:In K hs hb)(x:IsS hb ao b.length cap 1 (bv b))(hl:b.length<1099511627776):
  Ct Tryz.prog w0 161 [.int .i64 k,.slice ao b.length cap] K hs (fun v K' hs'=>K'=K/\hs'=hs/\∃ t:Bool,v=.bool t/\(t=true↔heldP k b)):=by
 refine enter Tryz.func161 qk I I I<|sq (rg<|fin 1 I (th<|sq (sq<|rg (cmpS 1 I fun b10 h10=>fin 0 I<|th (ifP h10 I (fun e2=>?_) (fun e2=>?_))))))
 ·exact sq (rg (cmpS 2 I fun b13 h13=>fin 1 I (th (rt (rT (ret1 I I ⟨I,I,b13,I,h13.trans ⟨fun h=>.inl ⟨e2,List.eq_nil_of_length_eq_zero qo⟩,fun h=>by rcases h with ⟨_,h⟩|⟨h,_⟩|⟨h,_⟩ <;> first|(rw[h];rfl)|(omega)⟩⟩))))))
 ·refine sk (th (sq (rg (cl 1 I (getCmdRef ao cap b hm x hl) ?_))));rintro v16 K16 hs16 ⟨rfl,rfl,rfl⟩;refine al 3 (.agg #[.int .i64 0,.int .u64 0,.int .u64 0,.string ⟨#[]⟩,.int .i64 0]) I qk fun b5=>?_;refine stS 0 0 I I qk I I ?_;refine fin 1 I (th (sq (rg (cl 1 I (getConfRef ao cap b (In.cons hm) x hl) ?_))));rintro v21 K21 hs21 ⟨rfl,g,aog,cg,rfl,rfl,og⟩;refine al 3 (.agg #[.slice none 0 0]) I qk fun b7=>?_;refine stS 0 0 I I qk I I ?_;refine fin 1 I (th (sq (rg (cmpS 1 I fun b25 h25=>?_))))
  refine' bja 1 3 29 [25,26] h25 I I I I I I I (fun _=>?x5) (fun b29 h29=>?_)
  case x5=>
   exact cmpS 1 I fun b28 h28=>fin 1 I<|bjx h28 I I I
  refine' bjo 1 7 37 [29,30] h29 I I I I I I I (fun _=>?x7) (fun b37 h37=>?_)
  case x7=>
   refine cmpS 1 I fun b32 h32=>?_
   refine' bja 1 3 36 [32,33] h32 I I I I I I I (fun _=>?x9) (fun b36 h36=>?_)
   case x9=>
    exact cmpS 1 I fun b35 h35=>fin 1 I<|bjx h35 I I I
   exact fin 1 I<|bjx h36 I I I
  exact fin 1 I<|th (rt<|WQ.drop (WQ.drop<|WQ.drop (ret1 I I ⟨I,I,b37,I,h37.trans ⟨fun h=>h.elim (fun h=>.inr (.inl ⟨h.1,ec_zero.1 h.2⟩)) (fun h=>.inr (.inr ⟨h.1,ec_zero.1 h.2⟩)),fun h=>h.elim (fun h=>absurd h.1 e2) (fun h=>h.elim (fun h=>.inl ⟨h.1,ec_zero.2 h.2⟩) (fun h=>.inr ⟨h.1,ec_zero.2 h.2⟩))⟩⟩)))
theorem putEnt_no{e:Ent}(h:¬e.ok):putEnt e=none:=if_neg h
theorem putEntC{w0:World}{K hb:PH}{hs:List PH}(e:Ent)(ao:Option Addr)(cap:Nat)(h1:e.idx<=mxU)(h2:e.term<=mxU)(hm:In K hs hb)(x:IsS hb ao e.data.length cap 1 (bv e.data))(hl:e.data.length<1099511627776):
  Ct Tryz.prog w0 202 [.agg (e.v ao cap)] K hs (fun v K' hs'=>K'=K/\OutB (putEnt e) hs v hs'):=by
 have hmx:mxU=18446744073709551615:=rfl;refine ent Tryz.func202 ?_;refine sq (rg (bx 0 I fun b1=>au ?_));refine cmpS 0 I fun b7 h7=>?_
 refine' bjo 1 4 12 [7,8] h7 I I I I I I I (fun _=>?x2) (fun b12 h12=>?_)
 case x2=>
  refine au ?_;exact cmpS 0 I fun b11 h11=>fin 1 I (bjx h11 I I I)
 refine' bjo 1 7 20 [12,13] h12 I I I I I I I (fun _=>?x4) (fun b20 h20=>?_)
 case x4=>
  refine au ?_;refine cl 0 I (heldC e.kind ao cap e.data (In.cons hm) x hl) ?_;rintro v18 K18 hs18 ⟨rfl,rfl,b18,rfl,h18⟩;exact cbS 0 _ I (bnot h18) fun b19 h19=>fin 1 I (bjx h19 I I I)
 refine fin 0 I<|th (ifP h20 I (fun e5=>?_) (fun e5=>?_))
 ·exact sq<|rg (fin 2 I<|th (rt<|rT (WQ.drop<|WQ.em (ret2 I I I ⟨I,outN (putEnt_no fun h=>e5.elim (fun h'=>h'.elim (fun h'=>h.1 qo) (fun h'=>h.2.1 qo)) (fun h'=>h' h.2.2))⟩))))
 ·have hok:e.ok:=⟨fun h=>e5 (.inl (.inl qo)),fun h=>e5 (.inl (.inr qo)),Decidable.not_not.1 fun h=>e5 (.inr h)⟩;refine sk (th (WC.em (sq (rga [pt b1 (Value.agg (e.v ao cap)).cells 51] 7 [0,2,6,8,5,11,12] (by simp) qk qk ?_))));have hd:=held_len hok.2.2;have hkd:=held_kind hok.2.2;obtain ⟨k,hk⟩:∃ k:Nat,e.kind=(k:Nat):=Int.eq_ofNat_of_zero_le (show 0<=e.kind by omega);have hu1:=uint_le10 (n:=e.idx) qo;have hu2:=uint_le10 (n:=e.term) qo;refine au ?_;refine cl 0 I (putUint none 0 [] e.idx (Own.nil _ _) qo (by simp)) ?_;rintro v23 K23 hs23 ⟨g23,rfl,rfl,ao23,c23,rfl,o23⟩;refine dnx (by simp) I (dact qk 0 I (cl 0 I (putUint ao23 c23 _ e.term o23 qo (by simp;omega)) ?_));rintro v26 K26 hs26 ⟨g26,rfl,rfl,ao26,c26,rfl,o26⟩;refine dnx (by simp) I (dend qk 1 I (th (sq (rga [pt b1 (Value.agg (e.v ao cap)).cells 51] 11 [0,2,4,6,12,14,9,11,17,18,20] (by simp) qk qk (au ?_)))))
  refine dar qk 0 I (v':=.int .u8 (k:Nat)) (by rw[hk,u8w qo]) (au ?_);refine lit 0 #[.int .u8 (k:Nat)] I (by decide) qk fun b31=>dnx (by simp) I (dact qk 0 I (appB 0 1 _ [UInt8.ofNat k] I I I o26 (.inr ⟨0,I⟩) (isS_byte b31 k qo) (by simp;omega) fun ao32 c32 g32 o32=>dnx (by simp) rfl (dact qk 0 rfl (cl 0 rfl (Ct.at 1 rfl (putBytesC ao32 c32 _ ao cap e.data o32 (In.cons (In.cons hm)) x (by simp;omega) qo)) ?_))));rintro v35 K35 hs35 ⟨g35,rfl,rfl,ao35,c35,rfl,o35⟩;refine dnx (by simp) I (dend qk 2 I (th (rt (WQ.drop (WQ.perm (List.Perm.swap _ _ _) (WQ.drop ?_))))));exact ret2 I I I ⟨I,outS (by rw[putEnt,if_pos hok,Ent.bytes,hk];simp) o35⟩
theorem putEntRef{w0:World}{K hb:PH}{hs:List PH}(e:Ent)(ao:Option Addr)(cap:Nat)(h1:e.idx<=mxU)(h2:e.term<=mxU)(hm:In K hs hb)(x:IsS hb ao e.data.length cap 1 (bv e.data))(hl:e.data.length<1099511627776):
  Ct Tryz.prog w0 94 [.agg (e.v ao cap)] K hs (fun v K' hs'=>K'=K/\OutB (putEnt e) hs v hs'):=by
 have hmx:mxU=18446744073709551615:=rfl;refine enter Tryz.func94 qk I I I (sq (rg (bx 0 I fun b1=>fin 2 I (th (sq (rg (ldp 1 0 I I I (ldp 1 0 I I I (cl 0 I (heldRef e.kind ao cap e.data (In.cons hm) x hl) ?_)))))))));rintro v11 K11 hs11 ⟨rfl,rfl,b11,rfl,h11⟩;refine fin 1 I (th (sq (sq (rg (ldp 1 0 I I I (cmpS 0 I fun b14 h14=>?_))))))
 refine' bjo 1 4 19 [14,15] h14 I I I I I I I (fun _=>?x2) (fun b19 h19=>?_)
 case x2=>
  exact ldp 1 0 I I I (cmpS 0 I fun b18 h18=>fin 1 I<|bjx h18 I I I)
 refine' bjo 1 3 23 [19,20] h19 I I I I I I I (fun _=>?x4) (fun b23 h23=>?_)
 case x4=>
  exact cbS 1 _ I (bnot h11) fun b22 h22=>fin 1 I<|bjx h22 I I I
 refine fin 0 I<|th (ifP h23 I (fun e5=>?_) (fun e5=>?_))
 ·exact sq<|rg (fin 2 I<|th (rt<|rT (WQ.drop<|WQ.em (ret2 I I I ⟨I,outN (putEnt_no fun h=>e5.elim (fun h'=>h'.elim (fun h'=>h.1 qo) (fun h'=>h.2.1 qo)) (fun h'=>h' h.2.2))⟩))))
 ·have hok:e.ok:=⟨fun h=>e5 (.inl (.inl qo)),fun h=>e5 (.inl (.inr qo)),Decidable.not_not.1 fun h=>e5 (.inr h)⟩;refine sk (th (sq (rg ?_)));have hd:=held_len hok.2.2;have hkd:=held_kind hok.2.2;obtain ⟨k,hk⟩:∃ k:Nat,e.kind=(k:Nat):=Int.eq_ofNat_of_zero_le (show 0<=e.kind by omega);have hu1:=uint_le10 (n:=e.idx) qo;have hu2:=uint_le10 (n:=e.term) qo;refine ldp 1 0 I I I (ldp 1 0 I I I (lit 0 #[.int .u64 (e.idx:Nat),.int .u64 (e.term:Nat)] I (by decide) qk fun b28=>WL.em (cl 0 I (uintsRef none 0 [] _ _ [e.idx,e.term] (Own.nil _ _) (.inr ⟨0,I⟩) (isS_pt I I) (by simp;omega) (by simp) (by simp)) ?_)));rintro v29 K29 hs29 ⟨g29,rfl,rfl,ao29,c29,rfl,o29⟩;have hus:=us_len [e.idx,e.term] (by simp;omega);have husl:[e.idx,e.term].length=2:=rfl;refine fin 1 I (th (WC.perm (List.Perm.swap _ _ _) (WC.drop (sq (rg (ldp 2 1 I I I (ar 0 I (v':=.int .u8 (k:Nat)) (by rw[hk,u8w qo]) (lit 0 #[.int .u8 (k:Nat)] I (by decide) qk fun b34=>appB 0 1 ([]++us [e.idx,e.term]) [UInt8.ofNat k] I I I o29 (.inr ⟨0,I⟩) (isS_byte b34 k qo) (by simp only[List.length_append,List.length_singleton,List.length_nil];omega) fun ao35 c35 g35 o35=>fin 1 rfl (th (WC.drop (sq (rg (ldp 1 1 rfl rfl rfl (cl 0 rfl (putRef ao cap e.data (In.cons (In.cons hm)) x qo) ?_))))))))))))))
  rintro v38 K38 hs38 ⟨g38,rfl,rfl,ao38,c38,rfl,o38⟩;have hpl:=putBytes_length e.data;have hu3:=uint_le10 (n:=e.data.length) qo;refine fin 1 I (th (sq (rg (appB 2 1 _ _ I I I o35 (.inr ⟨0,I⟩) o38.isS (by simp only[List.length_append,List.length_singleton,List.length_nil];omega) fun ao41 c41 g41 o41=>fin 2 rfl (th (rt (WQ.drop (WQ.perm (List.Perm.swap _ _ _) (WQ.drop ?_)))))))));exact ret2 I I I ⟨I,outS (by rw[putEnt,if_pos hok,Ent.bytes,hk];simp[us]) o41⟩
def OutE(o:Option Ent)(hs:List PH)(v:Value)(hs':List PH):Prop:=
 ∃ h ao c,hs'=h::hs/\v=.tuple #[.agg ((o.getD Ent.zero).v ao c),.int .i64 (ec o)]/\Own h ao (o.getD Ent.zero).data.length c 5 1 (bv (o.getD Ent.zero).data)
theorem getEntC{w0:World}{K hb:PH}{hs:List PH}(ao:Option Addr)(cap:Nat)(b:List UInt8)(hm:In K hs hb)(x:IsS hb ao b.length cap 1 (bv b))(hl:b.length<1099511627776):
  Ct Tryz.prog w0 120 [.slice ao b.length cap] K hs (fun v K' hs'=>K'=K/\OutE (getEnt b) hs v hs'):=by
 have hl1:=rUint_len mxU (b,0);have hl2:=rUint_len mxU (rUint mxU (b,0)).2;have hl3:=rByte_len (rUint mxU (rUint mxU (b,0)).2).2;have hl4:=(rBytes_len 512 (rByte (rUint mxU (rUint mxU (b,0)).2).2).2).1;have hk256:=rByte_lt (rUint mxU (rUint mxU (b,0)).2).2;dsimp only at hl1;have hgE:getEntR b=(⟨(rUint mxU (b,0)).1,(rUint mxU (rUint mxU (b,0)).2).1,((rByte (rUint mxU (rUint mxU (b,0)).2).2).1:Nat),(rBytes 512 (rByte (rUint mxU (rUint mxU (b,0)).2).2).2).1⟩,(rBytes 512 (rByte (rUint mxU (rUint mxU (b,0)).2).2).2).2):=rfl;refine ent Tryz.func120 ?_;refine sq (rg (al 0 (.agg #[.int .u64 0,.int .u64 0,.int .i64 0,.slice none 0 0]) I qk fun b2=>au ?_));refine cl 1 I (readC ao cap b (In.cons hm) x hl) ?_;rintro v7 K7 hs7 ⟨rfl,rb,h,hb',rfl,rfl,rd⟩;refine au ?_;refine cl 1 I (uintC (.inr ⟨0,I⟩) mxU (b,0) hl rd) ?_;rintro v9 K9 hs9 ⟨h1,rfl,rfl,rfl,rd1⟩;refine cl 1 I (uintC (.inr ⟨0,I⟩) mxU _ qo rd1) ?_;rintro v11 K11 hs11 ⟨h2,rfl,rfl,rfl,rd2⟩
 refine cl 1 I (byteC (.inr ⟨0,I⟩) _ rd2) ?_;rintro v13 K13 hs13 ⟨h3,rfl,rfl,rfl,rd3⟩;refine ar 0 I (i64w (x:=(((rByte (rUint mxU (rUint mxU (b,0)).2).2).1:Nat):Int)) qo) ?_
 skip
 refine bd 0 (.agg<|(Ent.mk (rUint mxU (b,0)).1 (rUint mxU (rUint mxU (b,0)).2).1 ((rByte (rUint mxU (rUint mxU (b,0)).2).2).1:Nat) []).v none 0) I (fun w=>by kernel_rfl) ?_
 skip
 refine al 0 (.agg #[.int .u64 0,.int .u64 0,.int .i64 0,.slice none 0 0]) I qk fun b5=>?_;refine stS 0 0 I I qk I I ?_;refine fin 0 I (th (sq (rg (cl 1 I (Ct.atN 1 I (bytesC (.inr ⟨1,I⟩) 512 qo _ qo rd3)) ?_))));rintro v17 K17 hs17 ⟨h4,new,rfl,rfl,hx,aox,cx,rfl,rfl,ox,rd4⟩;refine au ?_;refine cl 1 I (Ct.keep 2 I (endC _ rd4)) ?_;rintro v20 K20 hs20 ⟨rfl,rfl,rfl⟩;refine cmpS 0 I fun b21 h21=>?_
 refine' bjo 1 4 26 [21,22] h21 I I I I I I I (fun _=>?x2) (fun b26 h26=>?_)
 case x2=>
  refine au ?_;exact cmpS 0 I fun b25 h25=>fin 1 I (bjx h25 I I I)
 refine' bjo 1 4 31 [26,27] h26 I I I I I I I (fun _=>?x4) (fun b31 h31=>?_)
 case x4=>
  refine au ?_;exact cmpS 0 I fun b30 h30=>fin 1 I (bjx h30 I I I)
 refine' bjo 1 7 39 [31,32] h31 I I I I I I I (fun _=>?x6) (fun b39 h39=>?_)
 case x6=>
  refine au ?_;refine cl 0 I (heldC _ aox cx _ (.inr ⟨0,I⟩) ox.isS qo) ?_;rintro v37 K37 hs37 ⟨rfl,rfl,b37,rfl,h37⟩;exact cbS 0 _ I (bnot h37) fun b38 h38=>fin 1 I (bjx h38 I I I)
 refine fin 0 I<|th (ifP h39 I (fun e7=>?_) (fun e7=>?_))
 ·have hn:getEnt b=none:=by
   rw[getEnt,if_neg];rw[hgE];exact fun h=>e7.elim (fun h'=>h'.elim (fun h'=>h'.elim (fun h'=>h' h.1) (fun h'=>h.2.1 (Int.ofNat_inj.1 h'))) (fun h'=>h.2.2.1 (Int.ofNat_inj.1 h'))) (fun h'=>h' h.2.2.2)
  refine sq (rg (bd 0 (.agg (Ent.zero.v none 0)) I (fun w=>by kernel_rfl) ?_));refine stS 0 4 I I qk I I ?_;refine fin 1 I (th (rt (rT (WQ.drop (WQ.drop (WQ.drop (WQ.drop (WQ.em (WQ.perm (List.Perm.swap _ _ _) ?_)))))))));exact retcP 0 1 I I I I qk ⟨I,em,none,0,I,by rw[hn];rfl,by rw[hn];exact Own.nil _ _⟩
 ·have hn:getEnt b=some (getEntR b).1:=by
   rw[getEnt,if_pos];rw[hgE];exact ⟨Decidable.not_not.1 fun h=>e7 (.inl (.inl (.inl h))),fun h=>e7 (.inl (.inl (.inr (Int.ofNat_inj.2 h)))),fun h=>e7 (.inl (.inr (Int.ofNat_inj.2 h))),Decidable.not_not.1 fun h=>e7 (.inr h)⟩
  rw[hgE] at hn;refine sk (th (sq (rg (ldS 0 1 I I qk ?_))));refine stS 0 4 I I qk I I ?_;refine fin 1 I (th (rt ?_));refine WQ.perm (List.perm_middle (l₁:=[_,_,_,_])).symm (WQ.drop (WQ.drop (WQ.drop ?_)));exact retcP 0 1 I I I I qk ⟨I,hx,aox,cx,I,by rw[hn];rfl,by rw[hn];exact ox⟩
theorem sameEntry{w0:World}{K h1 h2:PH}{hs:List PH}(e1 e2:Ent)(a1 a2:Option Addr)(c1 c2:Nat)(m1:In K hs h1)(m2:In K hs h2)(x1:IsS h1 a1 e1.data.length c1 1 (bv e1.data))(x2:IsS h2 a2 e2.data.length c2 1 (bv e2.data)):
  Ct Tryz.prog w0 20 [.agg (e1.v a1 c1),.agg (e2.v a2 c2)] K hs (fun v K' hs'=>K'=K/\hs'=hs/\∃ b:Bool,v=.bool b/\(b=true↔e1=e2)):=by
 refine enter Tryz.func20 qk I I I<|sq (rg (bx 0 I fun b2=>bx 0 I fun b3=>fin 1 I<|th (sq<|rg (ldp 1 1 I I I<|ldp 1 0 I I I (cmpS 0 I fun b9 h9=>?_)))))
 refine' bja 1 6 16 [9,10] h9 I I I I I I I (fun _=>?x2) (fun b16 h16=>?_)
 case x2=>
  exact ldp 1 1 I I I<|ldp 1 0 I I I (cmpS 0 I fun b15 h15=>fin 1 I<|bjx h15 I I I)
 refine' bja 1 6 23 [16,17] h16 I I I I I I I (fun _=>?x4) (fun b23 h23=>?_)
 case x4=>
  exact ldp 1 1 I I I<|ldp 1 0 I I I (cmpS 0 I fun b22 h22=>fin 1 I<|bjx h22 I I I)
 refine' bja 1 8 32 [23,24] h23 I I I I I I I (fun _=>?x6) (fun b32 h32=>?_)
 case x6=>
  exact ldp 1 1 I I I<|cvs 0 _ I (In.cons<|In.cons m1) x1 qk (ldp 1 0 I I I<|cvs 0 _ I (In.cons<|In.cons m2) x2 qk (seS 0 I fun b31 h31=>fin 1 I<|bjx h31 I I I))
 refine fin 1 I<|th (rt<|WQ.drop (WQ.drop ?_))
 exact ret1 I I ⟨I,I,b32,I,h32.trans ⟨fun ⟨⟨⟨g1,g2⟩,g3⟩,g4⟩=>by
  obtain ⟨i,t,k,d⟩:=e1;obtain ⟨i',t',k',d'⟩:=e2;dsimp only[Ent.v] at g1 g2 g3 g4;have g1:=Int.ofNat_inj.1 g1;have g2:=Int.ofNat_inj.1 g2;have g3:k=k':=g3;rw[g1,g2,g3,g4],fun h=>by subst h;exact ⟨⟨⟨I,I⟩,I⟩,I⟩⟩⟩
end
section
attribute [local irreducible] Code.wp wpList Calls
structure MA where
 ae:Option Addr
 ce:Nat
 av:Option Addr
 cv:Nat
 ad:Option Addr
 cd:Nat
def mv(m:Msg)(p:MA):Array Value:=#[.int .i64 m.kind,.int .i64 m.frm,.int .i64 m.to,.int .u64 (m.term:Nat),.int .u64 (m.idx:Nat),.int .u64 (m.lt:Nat),.int .u64 (m.com:Nat),.int .u64 (m.rnd:Nat),.bool m.good,
 .slice p.ae m.ents.length p.ce,.int .i64 m.off,.int .i64 m.whole,.slice p.av m.vot.length p.cv,.slice p.ad m.data.length p.cd]
def EntC(H:PH)(cs:List Value)(e:Ent):Prop:=∃ ao cap,cs=(e.v ao cap).toList/\IsS H ao e.data.length cap 1 (bv e.data)
def EntsS(H:PH)(ao:Option Addr)(cap:Nat)(es:List Ent):Prop:=∃ css:List (List Value),IsS H ao es.length cap 4 css.flatten/\All2 (EntC H) css es
def MsgS(H:PH)(m:Msg)(p:MA):Prop:=EntsS H p.ae p.ce m.ents/\IsS H p.av m.vot.length p.cv 1 (iv m.vot)/\IsS H p.ad m.data.length p.cd 1 (bv m.data)
theorem EntC.le{H H':PH}(l:Le H H'){cs:List Value}{e:Ent}(h:EntC H cs e):EntC H' cs e:=by
 obtain ⟨ao,cap,h1,h2⟩:=h;exact ⟨ao,cap,h1,h2.le l⟩
theorem All2.imp{α:Type}{R R':List Value->α->Prop}(h:∀ c x,R c x->R' c x):∀ {cs:List (List Value)} {xs:List α},All2 R cs xs->All2 R' cs xs
 | [],[],_=>trivial
 | _::_,_::_,g=>⟨h _ _ g.1,All2.imp h g.2⟩
 | [],_::_,g=>g.elim
 | _::_,[],g=>g.elim
theorem EntsS.le{H H':PH}(l:Le H H'){ao:Option Addr}{cap:Nat}{es:List Ent}(h:EntsS H ao cap es):EntsS H' ao cap es:=by
 obtain ⟨css,h1,h2⟩:=h;exact ⟨css,h1.le l,All2.imp (fun _ _=>EntC.le l) h2⟩
theorem EntsS.nil(H:PH)(ao:Option Addr)(cap:Nat):EntsS H ao cap []:=⟨[],IsS.nil _ _ _ _,trivial⟩
theorem MsgS.le{H H':PH}(l:Le H H'){m:Msg}{p:MA}(h:MsgS H m p):MsgS H' m p:=⟨h.1.le l,h.2.1.le l,h.2.2.le l⟩
def Ptr(b:Nat):Value:=.pointer (some ⟨b,0,none⟩)
def PutR(f:Fld)(m:Msg)(bs:List UInt8)(R:List PH)(K:PH):Value->PH->List PH->Prop:=fun v K' hs'=>
 K'=K/\∃ h' ao' c' out,∃ t:Bool,hs'=h'::R/\v=.tuple #[.slice ao' out.length c',.bool t]/\(t=true↔f.pok m)/\(t=true->out=bs++f.pby m)/\Own h' ao' out.length c' 5 1 (bv out)
def ClrR(f:Fld)(m:Msg)(mb:Nat)(R:List PH)(K:PH):Value->PH->List PH->Prop:=fun v K' hs'=>
 K'=K/\∃ p',hs'=pt mb (mv (f.clr m) p') 34::R/\MsgS K (f.clr m) p'
def GetR(f:Fld)(s:Rd)(m:Msg)(p:MA)(rb mb:Nat)(hb:PH)(R:List PH)(K:PH):Value->PH->List PH->Prop:=fun v K' hs'=>
 Le K K'/\∃ h' p',hs'=h'::pt mb (mv (f.get s m).2 p') 34::R/\IsRd rb hb (f.get s m).1 h'/\MsgS K' (f.get s m).2 p'/\(f≠.ents->p'.ae=p.ae/\p'.ce=p.ce)
def Sel(w0:World)(g off:Nat):Prop:=∀ (mb:Nat) (K:PH) (hs:List PH),Ct Tryz.prog w0 g [Ptr mb] K hs (fun v K' hs'=>K'=K/\hs'=hs/\v=.pointer (some ⟨mb,off,none⟩))
theorem sel_index{w0:World}:Sel w0 181 4:=by
 intro mb K hs;exact enter Tryz.func181 qk I I I (sq (rg (fin 1 I (th (sq (rg (fin 4 I (th (rt (ret1 I I ⟨I,I,I⟩))))))))))
theorem sel_logTerm{w0:World}:Sel w0 182 5:=by
 intro mb K hs;exact enter Tryz.func182 qk I I I (sq (rg (fin 1 I (th (sq (rg (fin 4 I (th (rt (ret1 I I ⟨I,I,I⟩))))))))))
theorem sel_commit{w0:World}:Sel w0 184 6:=by
 intro mb K hs;exact enter Tryz.func184 qk I I I (sq (rg (fin 1 I (th (sq (rg (fin 4 I (th (rt (ret1 I I ⟨I,I,I⟩))))))))))
theorem sel_round{w0:World}:Sel w0 185 7:=by
 intro mb K hs;exact enter Tryz.func185 qk I I I (sq (rg (fin 1 I (th (sq (rg (fin 4 I (th (rt (ret1 I I ⟨I,I,I⟩))))))))))
theorem sel_offset{w0:World}:Sel w0 188 10:=by
 intro mb K hs;exact enter Tryz.func188 qk I I I (sq (rg (fin 1 I (th (sq (rg (fin 4 I (th (rt (ret1 I I ⟨I,I,I⟩))))))))))
theorem sel_whole{w0:World}:Sel w0 189 11:=by
 intro mb K hs;exact enter Tryz.func189 qk I I I (sq (rg (fin 1 I (th (sq (rg (fin 4 I (th (rt (ret1 I I ⟨I,I,I⟩))))))))))
section
variable {w0:World} {K h:PH} {R:List PH} {g off cb mb:Nat}
abbrev capC(ty g:Nat):Obj:=.cells #[.func (.func g) #[] #[]] ty (0,0)
theorem cap_cell{K:PH}{cb ty g:Nat}(h:K cb=some (capC ty g)):Cell K ⟨cb,0,none⟩ (.func (.func g) #[] #[]):=⟨rfl,_,_,_,h,rfl⟩
theorem numPut(m:Msg)(p:MA)(ao:Option Addr)(c1:Nat)(bs:List UInt8)(o:Own h ao bs.length c1 5 1 (bv bs))(hb:bs.length<68719476736)(hs:Sel w0 g off)(hc:K cb=some (capC 262 g))(n:Nat)(hn:n<=mxU)(hv:(mv m p)[off]?=some (.int .u64 (n:Nat))):
  Ct Tryz.prog w0 229 [.slice ao bs.length c1,Ptr mb,Ptr cb] K (h::pt mb (mv m p) 34::R)
   (fun v K' hs'=>K'=K/\∃ h' ao' c',hs'=h'::pt mb (mv m p) 34::R/\v=.tuple #[.slice ao' (bs++uint n).length c',.bool true]/\Own h' ao' (bs++uint n).length c' 5 1 (bv (bs++uint n))):=by
 have hmx:mxU=18446744073709551615:=rfl;refine enter Tryz.func229 qk I I I (sq (rg (fin 2 I (th (sq (rg (ld 1 I (.inl I) (cap_cell hc) (cl 1 I (hs mb _ _) ?_))))))));rintro v10 K10 hs10 ⟨rfl,rfl,rfl⟩;refine ldp 1 1 I I hv (cl 0 I (putUint ao c1 bs n o qo qo) ?_);rintro v13 K13 hs13 ⟨g13,rfl,rfl,ao13,c13,rfl,o13⟩;exact fin 2 I (th (rt (ret2 I I I ⟨I,g13,ao13,c13,I,I,o13⟩)))
theorem u64of_wrap(x:Int):Value.int .u64 (IntKind.u64.wrap x)=.int .u64 (u64of x:Nat):=by
 grind [IntKind.wrap,IntKind.bits,IntKind.signed,u64of]
theorem u64of_lt(x:Int):u64of x<18446744073709551616:=by unfold u64of;omega
theorem placePut(m:Msg)(p:MA)(ao:Option Addr)(c1:Nat)(bs:List UInt8)(o:Own h ao bs.length c1 5 1 (bv bs))(hb:bs.length<68719476736)(hs:Sel w0 g off)(hc:K cb=some (capC 265 g))(n:Int)(hv:(mv m p)[off]?=some (.int .i64 n)):
  Ct Tryz.prog w0 238 [.slice ao bs.length c1,Ptr mb,Ptr cb] K (h::pt mb (mv m p) 34::R)
   (fun v K' hs'=>K'=K/\∃ h' ao' c',∃ t:Bool,hs'=h'::pt mb (mv m p) 34::R/\v=.tuple #[.slice ao' (bs++uint (u64of n)).length c',.bool t]/\(t=true↔0<=n/\n<=2097152)/\Own h' ao' (bs++uint (u64of n)).length c' 5 1 (bv (bs++uint (u64of n)))):=by
 refine enter Tryz.func238 qk I I I (sq (rg (fin 2 I (th (sq (rg (ld 0 I (.inl I) (cap_cell hc) (cl 1 I (hs mb _ _) ?_))))))));rintro v10 K10 hs10 ⟨rfl,rfl,rfl⟩;refine ldp 1 1 I I hv (fin 1 I (th (sq (rg (ar 2 I (u64of_wrap n) (cl 0 I (putUint ao c1 bs (u64of n) o (u64of_lt n) qo) ?_))))));rintro v16 K16 hs16 ⟨g13,rfl,rfl,ao13,c13,rfl,o13⟩;refine cmpS 1 I fun b18 h18=>?_
 refine' bja 1 3 22 [18,19] h18 I I I I I I I (fun _=>?x2) (fun b22 h22=>?_)
 case x2=>
  exact cmpS 1 I fun b21 h21=>fin 1 I<|bjx h21 I I I
 exact fin 2 I<|th (rt<|ret2 I I I ⟨I,g13,ao13,c13,b22,I,I,h22,o13⟩)
theorem numClr(c:Array Value)(hs:Sel w0 g off)(hc:K cb=some (capC 262 g))(u:Value)(hu:c[off]?=some u):
  Ct Tryz.prog w0 231 [Ptr mb,Ptr cb] K (pt mb c 34::R)
   (fun v K' hs'=>K'=K/\hs'=pt mb (c.setIfInBounds off (.int .u64 0)) 34::R):=by
 refine enter Tryz.func231 qk I I I (rg (ld 0 I (.inl I) (cap_cell hc) (cl 1 I (hs mb _ _) ?_)));rintro v5 K5 hs5 ⟨rfl,rfl,rfl⟩;exact stp 1 0 I I hu I (fin 0 I (end0 I ⟨I,I⟩))
theorem placeClr(c:Array Value)(hs:Sel w0 g off)(hc:K cb=some (capC 265 g))(u:Value)(hu:c[off]?=some u):
  Ct Tryz.prog w0 240 [Ptr mb,Ptr cb] K (pt mb c 34::R)
   (fun v K' hs'=>K'=K/\hs'=pt mb (c.setIfInBounds off (.int .i64 0)) 34::R):=by
 refine enter Tryz.func240 qk I I I (rg (ld 0 I (.inl I) (cap_cell hc) (cl 1 I (hs mb _ _) ?_)));rintro v5 K5 hs5 ⟨rfl,rfl,rfl⟩;exact stp 1 0 I I hu I (fin 0 I (end0 I ⟨I,I⟩))
theorem numGet{c:Array Value}{rb:Nat}{hb:PH}(hi:In K (pt mb c 34::R) hb)(s:Rd)(hl:s.1.length<1099511627776)(rd:IsRd rb hb s h)(hs:Sel w0 g off)(hc:K cb=some (capC 262 g))(u:Value)(hu:c[off]?=some u):
  Ct Tryz.prog w0 230 [Ptr rb,Ptr mb,Ptr cb] K (h::pt mb c 34::R)
   (fun v K' hs'=>K'=K/\∃ h',hs'=h'::pt mb (c.setIfInBounds off (.int .u64 ((rUint mxU s).1:Nat))) 34::R/\IsRd rb hb (rUint mxU s).2 h'):=by
 refine enter Tryz.func230 qk I I I (rg (ld 0 I (.inl I) (cap_cell hc) (cl 1 I (hs mb _ _) ?_)));rintro v7 K7 hs7 ⟨rfl,rfl,rfl⟩;refine cl 1 I (uintC hi mxU s hl rd) ?_;rintro v9 K9 hs9 ⟨h9,rfl,rfl,rfl,rd9⟩;exact stp 1 1 I I hu I (fin 0 I (end0 I ⟨I,h9,I,rd9⟩))
theorem placeGet{c:Array Value}{rb:Nat}{hb:PH}(hi:In K (pt mb c 34::R) hb)(s:Rd)(hl:s.1.length<1099511627776)(rd:IsRd rb hb s h)(hs:Sel w0 g off)(hc:K cb=some (capC 265 g))(u:Value)(hu:c[off]?=some u):
  Ct Tryz.prog w0 239 [Ptr rb,Ptr mb,Ptr cb] K (h::pt mb c 34::R)
   (fun v K' hs'=>K'=K/\∃ h',hs'=h'::pt mb (c.setIfInBounds off (.int .i64 ((rUint 2097152 s).1:Nat))) 34::R/\IsRd rb hb (rUint 2097152 s).2 h'):=by
 have hle:=rUint_le 2097152 s;refine enter Tryz.func239 qk I I I (rg (ld 0 I (.inl I) (cap_cell hc) (cl 1 I (hs mb _ _) ?_)));rintro v7 K7 hs7 ⟨rfl,rfl,rfl⟩;refine cl 1 I (uintC hi 2097152 s hl rd) ?_;rintro v9 K9 hs9 ⟨h9,rfl,rfl,rfl,rd9⟩;exact ar 0 I (i64w qo) (stp 1 1 I I hu I (fin 0 I (end0 I ⟨I,h9,I,rd9⟩)))
theorem goodPut(m:Msg)(p:MA)(ao:Option Addr)(c1:Nat)(bs:List UInt8)(o:Own h ao bs.length c1 5 1 (bv bs))(hb:bs.length<68719476736):
  Ct Tryz.prog w0 232 [.slice ao bs.length c1,Ptr mb] K (h::pt mb (mv m p) 34::R) (PutR .good m bs (pt mb (mv m p) 34::R) K):=by
 refine enter Tryz.func232 qk I I I<|sq (rg<|fin 2 I (th<|sq (sq<|rg (ldp 3 1 I I I (nmS fun b9 h9=>fin 0 I<|th (ifP h9 I (fun e1=>?_) (fun e1=>?_)))))))
 ·refine sq (rg (lit 1 #[.int .u8 (1:Nat)] I (by decide) qk fun b11=>appB 0 1 bs [1] I I I o (.inr ⟨0,I⟩) (isS_byte b11 1 (by decide)) (by simp;omega) fun ao12 c12 g12 o12=>fin 2 rfl (th (rt (rT (WQ.drop ?_))))));exact ret2 I I I ⟨I,g12,ao12,c12,_,true,I,I,by simp[Fld.pok],fun _=>by rw[Fld.pby,if_pos e1],o12⟩
 ·refine sk (th (sq (rg (lit 1 #[.int .u8 (0:Nat)] I (by decide) qk fun b14=>appB 0 1 bs [0] I I I o (.inr ⟨0,I⟩) (isS_byte b14 0 (by decide)) (by simp;omega) fun ao15 c15 g15 o15=>fin 2 rfl (th (rt (WQ.drop ?_)))))));exact ret2 I I I ⟨I,g15,ao15,c15,_,true,I,I,by simp[Fld.pok],fun _=>by rw[Fld.pby,if_neg e1],o15⟩
theorem getGoodT{rb:Nat}{hb h:PH}{s0:Rd}{m:Msg}(e:(1:Int)<((rByte s0).1:Nat))(r:IsRd rb hb (rFail 170 (rByte s0).2) h):IsRd rb hb ((Fld.good).get s0 m).1 h:=by
 grind [Fld.get]
theorem getGoodF{rb:Nat}{hb h:PH}{s0:Rd}{m:Msg}(e:¬(1:Int)<((rByte s0).1:Nat))(r:IsRd rb hb (rByte s0).2 h):IsRd rb hb ((Fld.good).get s0 m).1 h:=by
 grind [Fld.get]
theorem goodGet{rb:Nat}{hb:PH}(m:Msg)(p:MA)(hi:In K (pt mb (mv m p) 34::R) hb)(s0:Rd)(rd:IsRd rb hb s0 h)(hS:MsgS K m p):
  Ct Tryz.prog w0 233 [Ptr rb,Ptr mb] K (h::pt mb (mv m p) 34::R) (GetR .good s0 m p rb mb hb R K):=by
 refine enter Tryz.func233 qk I I I (sq (rg (cl 1 I (byteC hi s0 rd) ?_)));rintro v6 K6 hs6 ⟨h6,rfl,rfl,rfl,rd6⟩;refine fin 1 I (th (jn (σ:=PH) (fun s=>[(1,Ptr mb),(4,.int .u8 ((rByte s0).1:Nat))]) (fun s=>s::pt mb (mv m p) 34::R) (fun s=>IsRd rb hb ((Fld.good).get s0 m).1 s) ?_ ?_))
 ·refine sq<|rg (cmpS 1 I fun b8 h8=>fin 0 I<|th (ifP h8 I (fun e2=>?_) (fun e2=>?_)))
  ·refine rg (cl 1 I (failC (rByte s0).2 170 rd6) ?_);rintro v10 K10 hs10 ⟨h10,rfl,rfl,rfl,rd10⟩;exact fin 0 I (jx h10 (getGoodT e2 rd10) ⟨I,I,trivial⟩ I I)
  ·exact sk<|jx h6 (getGoodF e2 rd6) ⟨I,I,trivial⟩ I I
 ·rintro h6 rd6;refine rg (cmpS 2 I fun b13 h13=>?_)
  have hb13:b13=((Fld.good).get s0 m).2.good:=by
   have:b13=true↔(rByte s0).1=1:=h13.trans ⟨fun h=>by omega,fun h=>by omega⟩;simp only[Fld.get];cases b13 <;> simp_all
  subst hb13;exact stp 2 1 I I I I (fin 0 I (end0 I ⟨Le.refl _,h6,p,I,rd6,hS,fun _=>⟨I,I⟩⟩))
end
theorem putR_no{f:Fld}{m:Msg}{bs:List UInt8}{R:List PH}{K:PH}(h:¬f.pok m):PutR f m bs R K (.tuple #[.slice none 0 0,.bool false]) K (em::R):=
 ⟨rfl,em,none,0,[],false,rfl,rfl,⟨fun h=>(by cases h),fun h'=>absurd h' h⟩,(fun h=>by cases h),Own.nil _ _⟩
theorem EntsS.get{H:PH}{e0:Ent}:∀ {css:List (List Value)} {es:List Ent} {i:Nat},All2 (EntC H) css es->i<es.length ->
  ∃ ae ce,IsS H ae (es.getD i e0).data.length ce 1 (bv (es.getD i e0).data)/\∀ (j:Nat) v,((es.getD i e0).v ae ce).toList[j]?=some v->css.flatten[i*4+j]?=some v
 | [],[],i,_,h=>by simp at h
 | [],_::_,_,g,_=>g.elim
 | _::_,[],_,g,_=>g.elim
 | c::css,e::es,0,g,h=>by
  obtain ⟨⟨ae,ce,rfl,x⟩,_⟩:=g
  grind
 | c::css,e::es,i+1,g,h=>by
  obtain ⟨ae,ce,x,hx⟩:=EntsS.get (e0:=e0) (i:=i) g.2 (by simpa using h);obtain ⟨⟨ae',ce',rfl,_⟩,_⟩:=g
  grind [Ent.v]
theorem entsOK_split(a:Nat):∀ (l r:List Ent) (i:Nat),entsOK a i (l++r)↔entsOK a i l/\entsOK a (i+l.length) r
 | [],r,i=>by simp[entsOK]
 | e::l,r,i=>by
  show (e.ok/\e.idx=(a+i+1) % 18446744073709551616/\a<=e.idx/\entsOK a (i+1) (l++r))↔(e.ok/\e.idx=(a+i+1) % 18446744073709551616/\a<=e.idx/\entsOK a (i+1) l)/\entsOK a (i+(l.length+1)) r;rw[entsOK_split a l r (i+1),show i+1+l.length=i+(l.length+1) from by omega];simp[and_assoc]
theorem entsBytes_append:∀ l r:List Ent,entsBytes (l++r)=entsBytes l++entsBytes r
 | [],r=>rfl
 | e::l,r=>by simp[entsBytes_append,entsBytes]
theorem entsBytes_len(a:Nat):∀ (l:List Ent) (i:Nat),entsOK a i l->(∀ e∈l,e.idx<=mxU/\e.term<=mxU)->(entsBytes l).length<=260*l.length
 | [],_,_,_=>by simp[entsBytes]
 | e::l,i,h,hb=>by
  obtain ⟨h1,_,_,h4⟩:=h;have h5:=Ent.bytes_length e h1 (hb e (by simp)).1 (hb e (by simp)).2;have h6:=entsBytes_len a l (i+1) h4 (fun x hx=>hb x (by simp[hx]));have h7:=uint_le10 (n:=e.bytes.length) qo;simp only[entsBytes,putBytes,List.length_append,List.length_cons];omega
theorem getD_take_succ(l:List Ent)(i:Nat)(h:i<l.length)(d:Ent):l.take (i+1)=l.take i++[l.getD i d]:=by
 simp_all
theorem entsOK_at{a:Nat}{l:List Ent}{i:Nat}(h:i<l.length)(d:Ent)(hok:entsOK a 0 l):(l.getD i d).ok/\(l.getD i d).idx=(a+i+1) % 18446744073709551616/\a<=(l.getD i d).idx:=by
 have h1:=(entsOK_split a (l.take i) (l.drop i) 0).1 (by rw[List.take_append_drop];exact hok);have h2:=h1.2;rw[List.drop_eq_getElem_cons h] at h2;have hl:(l.take i).length=i:=by simp;omega
 obtain ⟨g1,g2,g3,_⟩:=h2
 simp_all
theorem entsOK_take_succ{a:Nat}{l:List Ent}{i:Nat}(h:i<l.length)(d:Ent)(h0:entsOK a 0 (l.take i))(h1:(l.getD i d).ok)(h2:(l.getD i d).idx=(a+i+1) % 18446744073709551616)(h3:a<=(l.getD i d).idx):entsOK a 0 (l.take (i+1)):=by
 rw[getD_take_succ l i h d,entsOK_split];have hl:(l.take i).length=i:=by simp;omega
 exact ⟨h0,h1,by omega,h3,trivial⟩
section
variable {w0:World} {K h:PH} {R:List PH} {mb:Nat}
theorem goodClr(m:Msg)(p:MA)(hS:MsgS K m p):Ct Tryz.prog w0 234 [Ptr mb] K (pt mb (mv m p) 34::R) (ClrR .good m mb R K):=by
 exact enter Tryz.func234 qk I I I<|rg (stp 3 0 I I I I<|fin 0 I (end0 I ⟨I,p,I,hS⟩))
theorem entsClr(m:Msg)(p:MA)(hS:MsgS K m p):Ct Tryz.prog w0 237 [Ptr mb] K (pt mb (mv m p) 34::R) (ClrR .ents m mb R K):=by
 exact enter Tryz.func237 qk I I I<|rg (stp 3 0 I I I I<|fin 0 I (end0 I ⟨I,{ p with ae:=none,ce:=0 },I,EntsS.nil _ _ _,hS.2⟩))
theorem votClr(m:Msg)(p:MA)(hS:MsgS K m p):Ct Tryz.prog w0 243 [Ptr mb] K (pt mb (mv m p) 34::R) (ClrR .vot m mb R K):=by
 exact enter Tryz.func243 qk I I I<|rg (stp 3 0 I I I I<|fin 0 I (end0 I ⟨I,{ p with av:=none,cv:=0 },I,hS.1,IsS.nil _ _ _ _,hS.2.2⟩))
theorem dataClr(m:Msg)(p:MA)(hS:MsgS K m p):Ct Tryz.prog w0 246 [Ptr mb] K (pt mb (mv m p) 34::R) (ClrR .data m mb R K):=by
 exact enter Tryz.func246 qk I I I<|rg (stp 3 0 I I I I<|fin 0 I (end0 I ⟨I,{ p with ad:=none,cd:=0 },I,hS.1,hS.2.1,IsS.nil _ _ _ _⟩))
theorem ob_conf_len(l:List Int):(ob (putConf l)).length<=1:=by
 unfold putConf
 split <;> simp[ob]
theorem votPut(m:Msg)(p:MA)(ao:Option Addr)(c1:Nat)(bs:List UInt8)(o:Own h ao bs.length c1 5 1 (bv bs))(hb:bs.length<68719476736)(hS:MsgS K m p)(hbd:m.bd):
  Ct Tryz.prog w0 241 [.slice ao bs.length c1,Ptr mb] K (h::pt mb (mv m p) 34::R) (PutR .vot m bs (pt mb (mv m p) 34::R) K):=by
 have hcl:=ob_conf_len m.vot;have hvl:=hbd.votL;refine enter Tryz.func241 qk I I I (sq (rg (fin 2 I (th (sq (rg (ldp 3 1 I I I (bd 0 (.agg #[.slice p.av m.vot.length p.cv]) I (fun w=>by kernel_rfl) (cl 0 I (putConfC p.av p.cv m.vot (.inl I) hS.2.1 qo) ?_)))))))));rintro v14 K14 hs14 ⟨rfl,g,aog,cg,rfl,rfl,og⟩;exact fin 5 I (th (sq (rg (appB 2 1 bs (ob (putConf m.vot)) I I I o (.inr ⟨0,I⟩) og.isS qo fun ao19 c19 g19 o19=>cmpS 1 I fun b21 h21=>fin 2 I (th (rt (WQ.drop (ret2 I I I ⟨I,g19,ao19,c19,_,b21,I,I,h21.trans ec_zero,fun _=>I,by exact o19⟩))))))))
theorem votGet{rb:Nat}{hb:PH}(m:Msg)(p:MA)(hi:In K (pt mb (mv m p) 34::R) hb)(s:Rd)(rd:IsRd rb hb s h)(hS:MsgS K m p):
  Ct Tryz.prog w0 242 [Ptr rb,Ptr mb] K (h::pt mb (mv m p) 34::R) (GetR .vot s m p rb mb hb R K):=by
 have hk:=rByte_lt s;refine enter Tryz.func242 qk I I I (sq (rg (cl 1 I (byteC hi s rd) ?_)));rintro v8 K8 hs8 ⟨h6,rfl,rfl,rfl,rd6⟩;refine lit 0 #[.int .u8 ((rByte s).1:Nat)] I (by decide) qk fun b9=>cl 0 I (getConfC (some ⟨b9,0,none⟩) 1 [UInt8.ofNat (rByte s).1] (.inr ⟨0,I⟩) (isS_byte b9 _ hk) (by simp)) ?_;rintro v10 K10 hs10 ⟨rfl,gv,aov,cv,rfl,rfl,ov⟩;refine al 3 (.agg #[.slice none 0 0]) I qk fun b4=>?_;refine stS 0 0 I I qk I I ?_;refine fin 1 I (th (sq (rg (cl 2 I (Ct.at 3 I (failC (rByte s).2 _ rd6)) ?_))));rintro v15 K15 hs15 ⟨h15,rfl,rfl,rfl,rd15⟩;exact fin 0 I (th (rg (ldp 2 0 I I I (stp 2 4 I I I I (fin 0 I (WQ.drop (WQ.frz fun K' le1 le2=>WQ.drop (end0 I ⟨le1,h15,{ p with av:=aov,cv:=cv },I,rd15,⟨(hS.le le1).1,ov.isS.le le2,(hS.le le1).2.2⟩,fun _=>⟨I,I⟩⟩))))))))
theorem dataPut(m:Msg)(p:MA)(ao:Option Addr)(c1:Nat)(bs:List UInt8)(o:Own h ao bs.length c1 5 1 (bv bs))(hb:bs.length<68719476736)(hS:MsgS K m p)(hbd:m.bd):
  Ct Tryz.prog w0 244 [.slice ao bs.length c1,Ptr mb] K (h::pt mb (mv m p) 34::R) (PutR .data m bs (pt mb (mv m p) 34::R) K):=by
 have hdl:=hbd.dataL;refine enter Tryz.func244 qk I I I (sq (rg (fin 2 I (th (sq (rga [pt mb (mv m p) 34] 31 [0,2,4,6,8,12,14,16,18,20,22,11,24,26,28,30,32,34,36,38,40,42,44,46,48,50,52,54,56,58,60] (by simp) qk qk (dldp qk 4 0 I I I (dldp qk 3 0 I I I (dcmp qk 1 ((m.data.length:Int)<=256) I (by simp) (fun h1=>?_) (fun h1=>?_))))))))))
 ·refine dact qk 0 I (cl 0 I (putBytesC ao c1 bs p.ad p.cd m.data o (.inl I) hS.2.2 qo qo) ?_);rintro v11 K11 hs11 ⟨g11,rfl,rfl,ao11,c11,rfl,o11⟩;exact dnx (by simp) I (dldp qk 4 0 I I I (dldp qk 3 0 I I I (dldp qk 3 0 I I I (dar qk 1 I I (dcbS qk 0 (m.off<=IntKind.i64.wrap (m.whole-m.data.length)) I (by simp) fun b33 h33=>dend qk 3 I (th (rt (ret2 I I I ⟨I,g11,ao11,c11,_,b33,I,I,h33.trans ⟨fun h=>⟨by omega,h⟩,fun h=>h.2⟩,fun _=>I,o11⟩))))))))
 ·refine dact qk 0 I (cl 0 I (putBytesC ao c1 bs p.ad p.cd m.data o (.inl I) hS.2.2 qo qo) ?_);rintro v11 K11 hs11 ⟨g11,rfl,rfl,ao11,c11,rfl,o11⟩;exact dnx (by simp) I (dend qk 19 I (th (rt (ret2 I I I ⟨I,g11,ao11,c11,_,false,I,I,⟨fun h=>(by cases h),fun h=>absurd h.1 qo⟩,fun _=>I,o11⟩))))
theorem dataGet{rb:Nat}{hb:PH}(m:Msg)(p:MA)(hi:In K (pt mb (mv m p) 34::R) hb)(s:Rd)(hl:s.1.length<1099511627776)(rd:IsRd rb hb s h)(hS:MsgS K m p):
  Ct Tryz.prog w0 245 [Ptr rb,Ptr mb] K (h::pt mb (mv m p) 34::R) (GetR .data s m p rb mb hb R K):=by
 refine enter Tryz.func245 qk I I I (rg (cl 2 I (bytesC hi 256 qo s hl rd) ?_));rintro v6 K6 hs6 ⟨h4,new,rfl,rfl,hx,aox,cx,rfl,rfl,ox,rd4⟩;exact stp 2 2 I I I I (fin 0 I (WQ.frz fun K' le1 le2=>end0 I ⟨le1,h4,{ p with ad:=aox,cd:=cx },I,rd4,⟨(hS.le le1).1,(hS.le le1).2.1,ox.isS.le le2⟩,fun _=>⟨I,I⟩⟩))
theorem entsPut(m:Msg)(p:MA)(ao:Option Addr)(c1:Nat)(bs:List UInt8)(o:Own h ao bs.length c1 5 1 (bv bs))(hb:bs.length<68719476736)(hS:MsgS K m p)(hbd:m.bd):
  Ct Tryz.prog w0 235 [.slice ao bs.length c1,Ptr mb] K (h::pt mb (mv m p) 34::R) (PutR .ents m bs (pt mb (mv m p) 34::R) K):=by
 have hel:=hbd.entsL;have hmx:mxU=18446744073709551615:=rfl;have hidx:=hbd.idx;have hu:=uint_le10 (n:=m.ents.length) qo;obtain ⟨⟨css,xE,hE⟩,hS2⟩:=hS;refine enter Tryz.func235 qk I I I (sq (rg (fin 2 I (th (sq (rg (ldp 4 1 I I I (ar 1 I (u64w qo) (cl 0 I (putUint ao c1 bs m.ents.length o qo qo) ?_)))))))));rintro v17 K17 hs17 ⟨g17,rfl,rfl,ao17,c17,rfl,o17⟩;refine fin 1 I (th (sq (sq (rg (ldp 3 1 I I I (fin 2 I (th (bk (loop (σ:=Nat×Option Addr×Nat×PH) (fun s=>[(0,.slice s.2.1 (bs++uint m.ents.length++entsBytes (m.ents.take s.1)).length s.2.2.1),(1,Ptr mb),(21,.slice p.ae m.ents.length p.ce),(22,.int .i64 (m.ents.length:Nat)),(23,.int .i64 (s.1:Nat))]) (fun _=>K17) (fun s=>s.2.2.2::pt mb (mv m p) 34::R) (fun s=>s.1<=m.ents.length/\entsOK m.idx 0 (m.ents.take s.1)/\Own s.2.2.2 s.2.1 (bs++uint m.ents.length++entsBytes (m.ents.take s.1)).length s.2.2.1 5 1 (bv (bs++uint m.ents.length++entsBytes (m.ents.take s.1)))) (fun s=>m.ents.length-s.1) (0,ao17,c17,g17) ⟨Nat.zero_le _,trivial,by simpa[entsBytes] using o17⟩ (by simp only[entsBytes,List.take_zero,List.append_nil];exact ⟨I,I,I,I,I,trivial⟩) I I ?_)))))))))
 rintro ⟨i,ao,c1,h⟩ ⟨hi,hok,o⟩;dsimp only at hi hok o ⊢;refine sq (rg (cmpS 0 I fun b24 h24=>?_));have hbl:=entsBytes_len m.idx _ 0 hok (fun e he=>⟨(hbd.ents e (List.mem_of_mem_take he)).1,(hbd.ents e (List.mem_of_mem_take he)).2.1⟩);have htl:(m.ents.take i).length<=m.ents.length:=by simp;omega
 have hlen:(bs++uint m.ents.length++entsBytes (m.ents.take i)).length<137438953472:=by simp only[List.length_append];omega
 refine fin 0 I<|th (sq<|ifP h24 I (fun e2=>?_) (fun e2=>?_))
 ·have hin:i<m.ents.length:=by omega
  refine sk (th (sq (bk (sq (rg ?_)))));obtain ⟨ae,ce,xd,hcell⟩:=EntsS.get (e0:=Ent.zero) hE hin;have hge:m.ents.getD i Ent.zero∈m.ents:=by simp[List.getD,hin]
  have hbe:=hbd.ents _ hge;have htk:=getD_take_succ m.ents i hin Ent.zero;have hat:=fun h=>entsOK_at (a:=m.idx) hin Ent.zero h;have hsu:=fun h1 h2 h3=>entsOK_take_succ (a:=m.idx) hin Ent.zero hok h1 h2 h3;generalize m.ents.getD i Ent.zero=e at xd hcell hge hbe htk hat hsu;refine ixs 1 i I I xE hin (by decide) fun a26 ha26=>lds 0 [.int .u64 (e.idx:Nat),.int .u64 (e.term:Nat),.int .i64 e.kind,.slice ae e.data.length ce] I qk (.inl I) (fun j v hv=>?_) ?_
  ·obtain ⟨a',q1,q2⟩:=xE.2.2 (i*4+j) v (hcell j v hv);rw[ha26] at q1;cases q1;rw[Deep.add_add];exact q2
  refine al 0 (.agg #[.int .u64 0,.int .u64 0,.int .i64 0,.slice none 0 0]) I qk fun b7=>?_;refine stS 1 0 I I qk I I ?_;refine fin 0 I (th (sq (rg (ldS 0 0 I I qk (cl 0 I (putEntC e ae ce hbe.1 hbe.2.1 (.inl I) xd qo) ?_)))));rintro v30 K30 hs30 ⟨rfl,g,aog,cg,rfl,rfl,og⟩;refine fin 5 I (th (jn (σ:=Unit) (fun s=>[(0,.slice ao (bs++uint m.ents.length++entsBytes (m.ents.take i)).length c1),(1,Ptr mb),(8,.slice aog (ob (putEnt e)).length cg),(21,.slice p.ae m.ents.length p.ce),(22,.int .i64 (m.ents.length:Nat)),(23,.int .i64 (i:Nat))]) (fun s=>g::pt b7 #[.int .u64 (e.idx:Nat),.int .u64 (e.term:Nat),.int .i64 e.kind,.slice ae e.data.length ce] 51::h::pt mb (mv m p) 34::R) (fun s=>e.ok/\e.idx=(m.idx+i+1) % 18446744073709551616/\m.idx<=e.idx) ?_ ?_))
  ·refine sq<|rga [pt b7 #[.int .u64 (e.idx:Nat),.int .u64 (e.term:Nat),.int .i64 e.kind,.slice ae e.data.length ce] 51,pt mb (mv m p) 34] 24 [0,2,4,6,8,10,12,14,16,18,20,22,24,26,28,30,32,34,36,38,40,42,44,46] (by simp) qk qk (dcmp qk 1 (ec (putEnt e)≠0) I (by simp) (fun h3=>?_) (fun h3=>?_))
   ·refine dend qk 22 I (th (ifT I (sq (rg (fin 2 I (th (rt (jr (rB (rT (rT (rB (rT (WQ.drop (WQ.drop (WQ.drop (WQ.em ?_)))))))))))))))));exact ret2 I I I (putR_no fun hp=>h3 (by rw[putEnt,if_pos (hat hp.1).1];rfl))
   ·have heok:e.ok:=Decidable.not_not.1 fun hn=>h3 (by rw[putEnt,if_neg hn];decide);refine dldp qk 2 0 I I I (dldp qk 3 1 I I I (dar qk 1 I (u64w qo) (dar qk 0 I (v':=.int .u64 (((m.idx+i) % 18446744073709551616:Nat):Int)) (by rw[<-u64m];rfl) (dar qk 0 rfl (v':=.int .u64 (((m.idx+i+1) % 18446744073709551616:Nat):Int)) (by rw[show (m.idx+i+1) % 18446744073709551616=((m.idx+i) % 18446744073709551616+1) % 18446744073709551616 from by omega,<-u64m];rfl) (dcmp qk 0 (((e.idx:Nat):Int)≠(((m.idx+i+1) % 18446744073709551616:Nat):Int)) rfl (by simp) (fun h4=>?_) (fun h4=>?_))))))
    ·exact dend qk 10 I<|th (ifT I<|sq (rg<|fin 2 I (th<|rt (jr<|rB (rT<|rT (rB<|rT (WQ.drop<|WQ.drop (WQ.drop<|WQ.em (ret2 I I I (putR_no fun hp=>h4<|Int.ofNat_inj.2 (hat hp.1).2.1))))))))))
    ·refine dldp qk 3 0 I I I<|dldp qk 3 1 I I I (dcbS qk 0 (((e.idx:Nat):Int)<(m.idx:Nat)) I (by simp) fun b55 h55=>dend qk 1 I<|th (ifP h55 I (fun e5=>?_) (fun e5=>?_)))
     ·exact sq<|rg (fin 2 I<|th (rt<|jr (rB<|rT (rT<|rB (rT<|WQ.drop (WQ.drop<|WQ.drop (WQ.em<|ret2 I I I (putR_no fun hp=>absurd (hat hp.1).2.2 qo))))))))
     ·exact sk<|jx () ⟨heok,Int.ofNat_inj.1 (Decidable.not_not.1 h4),by omega⟩ ⟨I,I,I,I,I,I,trivial⟩ I I
  ·rintro _ ⟨heok,he2,he3⟩;have hpe:ob (putEnt e)=e.bytes:=by rw[putEnt,if_pos heok];rfl
   rw[hpe] at og ⊢;have hel2:=Ent.bytes_length e heok hbe.1 hbe.2.1;refine rg (cl 2 I (Ct.at 2 I (putBytesC ao c1 _ aog cg e.bytes o (.inr ⟨0,I⟩) og.isS qo qo)) ?_);rintro v59 K59 hs59 ⟨g59,rfl,rfl,ao59,c59,rfl,o59⟩;have ee:bs++uint m.ents.length++entsBytes (m.ents.take i)++putBytes e.bytes=bs++uint m.ents.length++entsBytes (m.ents.take (i+1)):=by rw[htk,entsBytes_append];simp[entsBytes]
   rw[ee] at o59 ⊢;exact fin 1 I (bl (th (WC.drop (WC.drop (rg (ar 0 I (i64w qo) (fin 1 I (again (x:=(i,ao,c1,h)) (i+1,ao59,c59,g59) ⟨I,I,I,I,I,trivial⟩ I I ⟨by omega,hsu heok he2 he3,o59⟩ (by (try dsimp only);omega)))))))))
 ·obtain rfl:i=m.ents.length:=by omega
  refine ex (xt (xt (xb (th (sq (rga [pt mb (mv m p) 34] 9 [0,2,4,6,8,10,12,14,16] (by simp) qk qk ?_))))));rw[List.take_of_length_le (Nat.le_refl _)] at o hok ⊢;exact dldp qk 4 0 I I I (dcbS qk 1 ((m.ents.length:Int)<=8) I (by simp) fun b67 h67=>dend qk 2 I (th (rt (ret2 I I I ⟨I,h,ao,c1,_,b67,I,I,h67.trans ⟨fun h=>⟨hok,by omega⟩,fun h=>by have:=h.2;omega⟩,fun _=>by simp[Fld.pby],o⟩))))
end
theorem All2.len{α:Type}{R:List Value->α->Prop}:∀ {cs:List (List Value)} {xs:List α},All2 R cs xs->cs.length=xs.length
 | [],[],_=>rfl
 | _::_,_::_,g=>by simp[All2.len g.2]
 | [],_::_,g=>g.elim
 | _::_,[],g=>g.elim
theorem entsGet{w0:World}{K h:PH}{R:List PH}{mb:Nat}{rb ii:Nat}{hb:PH}(m:Msg)(p:MA)(h0:m.ents=[])(hpe:p.ae=none)(hpc:p.ce=0)(hR:R[ii]?=some hb)(s:Rd)(hl:s.1.length<1099511627776)(rd:IsRd rb hb s h)(hS:MsgS K m p):
  Ct Tryz.prog w0 236 [Ptr rb,Ptr mb] K (h::pt mb (mv m p) 34::R) (GetR .ents s m p rb mb hb R K):=by
 obtain ⟨mk,mf,mt,mte,mi,ml,mc,mr,mg,me,mo,mw,mvo,md⟩:=m;obtain ⟨pae,pce,pav,pcv,pad,pcd⟩:=p;dsimp only at h0 hpe hpc;subst h0 hpe hpc;have hN:=rUint_le 8 s;have hlr:=rUint_len 8 s;refine enter Tryz.func236 qk I I I (sq (rg (cl 1 I (uintC (.inr ⟨ii+1,hR⟩) 8 s hl rd) ?_)));rintro v7 K7 hs7 ⟨h7,rfl,rfl,rfl,rd7⟩;refine fin 1 I (th (bk (WC.em ?_)))
 refine loop (σ:=Nat×Rd×List Ent×PH×PH×PH×Option Addr×Nat×List (List Value)) (fun s'=>[(0,Ptr rb),(1,Ptr mb),(7,.int .u64 ((rUint 8 s).1:Nat)),(8,.int .u64 (s'.1:Nat))]) (fun s=>s.2.2.2.1) (fun s=>s.2.2.2.2.2.1::s.2.2.2.2.1::pt mb (mv ⟨mk,mf,mt,mte,mi,ml,mc,mr,mg,s.2.2.1,mo,mw,mvo,md⟩ ⟨s.2.2.2.2.2.2.1,s.2.2.2.2.2.2.2.1,pav,pcv,pad,pcd⟩) 34::R)
  (fun s'=>Le K7 s'.2.2.2.1/\s'.1<=(rUint 8 s).1/\getEnts ((rUint 8 s).1-s'.1) s'.2.1 s'.2.2.1=getEnts (rUint 8 s).1 (rUint 8 s).2 []/\IsRd rb hb s'.2.1 s'.2.2.2.2.1/\Own s'.2.2.2.2.2.1 s'.2.2.2.2.2.2.1 s'.2.2.1.length s'.2.2.2.2.2.2.2.1 51 4 s'.2.2.2.2.2.2.2.2.flatten/\All2 (EntC s'.2.2.2.1) s'.2.2.2.2.2.2.2.2 s'.2.2.1/\s'.2.1.1.length<1099511627776/\s'.2.2.1.length=s'.1) (fun s'=>(rUint 8 s).1-s'.1)
  (0,(rUint 8 s).2,[],K7,h7,em,none,0,[]) ⟨Le.refl _,Nat.zero_le _,rfl,rd7,Own.nil _ _,trivial,by dsimp only;omega,rfl⟩ ⟨rfl,rfl,rfl,rfl,trivial⟩ rfl rfl ?_
 rintro ⟨j,s',l,K',h,g,ao,cap,css⟩ ⟨hle,hj,hge,rd,o,hA,hsl,hll⟩;dsimp only at hle hj hge rd o hA hsl hll ⊢;refine sq (rg (cmpS 0 I fun b9 h9=>fin 0 I (th (sq (ifP h9 I (fun e2=>?_) (fun e2=>?_))))))
 ·have hjN:j<(rUint 8 s).1:=by omega
  refine sk<|th (sq<|bk (sq<|rg ?_))
  have hge2:getEnts ((rUint 8 s).1-(j+1)) (rFail (ec (getEnt (rBytes 512 s').1)) (rBytes 512 s').2) (l++[(getEnt (rBytes 512 s').1).getD Ent.zero])=getEnts (rUint 8 s).1 (rUint 8 s).2 []:=by
   rw[<-hge,show (rUint 8 s).1-j=((rUint 8 s).1-(j+1))+1 from by omega]
   rfl
  have hbl:=rBytes_len 512 s';have hcl:=All2.len hA;refine cl 1 I (Ct.atN 1 I (bytesC (.inr ⟨ii+2,hR⟩) 512 qo s' hsl rd)) ?_;rintro v12 K12 hs12 ⟨h4,new,rfl,rfl,hx,aox,cx,rfl,rfl,ox,rd4⟩;refine cl 0 I (getEntC aox cx (rBytes 512 s').1 (.inr ⟨0,I⟩) ox.isS qo) ?_;rintro v13 K13 hs13 ⟨rfl,ge,aoe,ce,rfl,rfl,oe⟩;generalize hee:(getEnt (rBytes 512 s').1).getD Ent.zero=e at oe hge2 ⊢;refine al 3 (.agg #[.int .u64 0,.int .u64 0,.int .i64 0,.slice none 0 0]) I qk fun b4=>?_;refine stS 0 0 I I qk I I ?_;refine fin 1 I (th (sq (rg (cl 2 I (Ct.at 4 I (failC (rBytes 512 s').2 _ rd4)) ?_))));rintro v18 K18 hs18 ⟨h5,rfl,rfl,rfl,rd5⟩;refine fin 0 I (th (rga [pt b4 (e.v aoe ce) 51,pt mb (mv ⟨mk,mf,mt,mte,mi,ml,mc,mr,mg,l,mo,mw,mvo,md⟩ ⟨ao,cap,pav,pcv,pad,pcd⟩) 34] 10 [0,2,4,6,8,10,13,15,16,18,21] (by simp) qk qk (dldpw qk 4 1 I qk I I (dldS qk 0 0 I qk I qk (dact qk 0 I (lit 0 (e.v aoe ce) I (by decide) qk fun b25=>dnx (by simp) I (dact qk 0 I (app 0 4 I I o (.inr ⟨0,I⟩) (Own.ofPt (b:=b25) (c:=e.v aoe ce) (e:=51) (n:=1) (size:=4) I (by simp[maxLen])).isS I (by decide) (by simp[Ent.v];exact ⟨I,I,I,I⟩) (by dsimp only;omega) (by simp only[maxLen];omega) fun ao26 c26 g26 o26=>dnx (by simp) rfl (dact qk 2 rfl (stp 0 6 rfl rfl rfl rfl (dnext (.inl rfl) (dend qk 0 rfl (bl (WQ.drop (WQ.drop (WQ.frz fun K2 le1 le2=>WQ.drop (th (rg ?_))))))))))))))))))
  have ecss:css.flatten++(e.v aoe ce).toList=(css++[(e.v aoe ce).toList]).flatten:=by simp
  have elen:l.length+1=(l++[e]).length:=by simp
  rw[ecss,elen] at o26;refine ar 0 I (u64w qo) (fin 1 I ?_);exact again (x:=(j,s',l,K18,h,g,ao,cap,css)) (j+1,rFail (ec (getEnt (rBytes 512 s').1)) (rBytes 512 s').2,l++[e],K2,h5,g26,ao26,c26,css++[(e.v aoe ce).toList]) ⟨I,I,I,I,trivial⟩ I (congrArg (fun k:Nat=>g26::h5::pt mb ((mv ⟨mk,mf,mt,mte,mi,ml,mc,mr,mg,[],mo,mw,mvo,md⟩ ⟨ao26,c26,pav,pcv,pad,pcd⟩).setIfInBounds 9 (.slice ao26 k c26)) 34::R) elen) ⟨hle.trans le1,by omega,hge2,rd5,o26,All2.snoc ⟨aoe,ce,I,oe.isS.le le2⟩ (All2.imp (fun _ _=>EntC.le le1) hA),by simp only[rFail];omega,by simp;omega⟩ (by (try dsimp only);omega)
 ·obtain rfl:j=(rUint 8 s).1:=by omega
  refine ex (xt (xt (xb ?_)));rw[Nat.sub_self] at hge;have hfin:(s',l)=getEnts (rUint 8 s).1 (rUint 8 s).2 []:=hge;exact WQ.frz fun K2 le1 le2=>end0 I ⟨hle.trans le1,h,⟨ao,cap,pav,pcv,pad,pcd⟩,by simp only[Fld.get];rw[<-hfin],by simp only[Fld.get];rw[<-hfin];exact rd,by simp only[Fld.get];rw[<-hfin];exact ⟨⟨css,o.isS.le le2,All2.imp (fun _ _=>EntC.le le1) hA⟩,(hS.le (hle.trans le1)).2⟩,fun h=>absurd I h⟩
end
section
open Go.En Go.ChangeShapes Go.WideShapes Go.ChangeAt Go.RowKit Go.Deep
set_option maxRecDepth 100000
section opens
variable {H:Type} {enc:TypeId×Value->H} {W:World}
theorem sumM_one{α:Type}:∀ xs:List α,sumM (fun _=>1) xs=xs.length
 | []=>rfl
 | x::r=>by rw[sumM,sumM_one r,List.length_cons];omega
theorem sumM_ge{α:Type}(m:α->Nat)(hm:∀ x,0<m x):∀ xs:List α,xs.length<=sumM m xs
 | []=>Nat.zero_le _
 | x::r=>by have:=sumM_ge m hm r;have:=hm x;simp only[sumM,List.length_cons];omega
theorem sumM_mem{α:Type}(m:α->Nat):∀ {xs:List α} {x:α},x∈xs->m x<=sumM m xs
 | y::r,x,h=>by
  rcases List.mem_cons.1 h with rfl|h
  ·simp only[sumM];omega
  ·have:=sumM_mem m h;simp only[sumM];omega
theorem ri_u64{cs:List Value}{n:Int}(h:RI .u64 cs n):cs=[.int .u64 (n.toNat:Nat)]/\n.toNat<=mxU:=by
 obtain ⟨rfl,hw⟩:=h;have h2:0<=n/\n<=18446744073709551615:=by simp_all [Lit.wf,IntKind.min,IntKind.max,IntKind.signed,IntKind.bits]
 have hmx:mxU=18446744073709551615:=rfl
 grind
theorem ri_i64{cs:List Value}{n:Int}(h:RI .i64 cs n):cs=[.int .i64 n] /\ -9223372036854775808<=n/\n<=9223372036854775807:=by
 obtain ⟨rfl,hw⟩:=h;exact ⟨I,by simp_all [Lit.wf,IntKind.min,IntKind.signed,IntKind.bits]⟩
def byI(xs:List Int):List UInt8:=xs.map fun z=>UInt8.ofNat z.toNat
theorem byI_len(xs:List Int):(byI xs).length=xs.length:=by simp[byI]
theorem all2_bytes:∀ {css:List (List Value)} {xs:List Int},All2 (RI .u8) css xs->css.flatten=bv (byI xs)
 | [],[],_=>rfl
 | c::cs,x::xs,⟨⟨h1,hw⟩,h2⟩=>by
  subst h1;have hb:0<=x/\x<=255:=by simp_all [Lit.wf,IntKind.min,IntKind.max,IntKind.signed,IntKind.bits]
  rw[List.flatten_cons,all2_bytes h2];simp only[byI,bv,List.map_cons,List.singleton_append,List.cons.injEq,and_true]
  congr 1
  simp
  omega
 | [],_::_,g=>g.elim
 | _::_,[],g=>g.elim
theorem rsl_bytes{cs:List Value}{xs:List Int}(h:RSl W 1 (RI .u8) cs xs):∃ ao cap,cs=[.slice ao (byI xs).length cap]/\IsS (hp W) ao (byI xs).length cap 1 (bv (byI xs)):=by
 obtain ⟨ao,cap,css,rfl,x,h2⟩:=h;rw[all2_bytes h2] at x;rw[<-byI_len xs] at x ⊢;exact ⟨ao,cap,I,x⟩
theorem all2_ints:∀ {css:List (List Value)} {xs:List Int},All2 (RI .i64) css xs->css.flatten=iv xs/\∀ v∈xs,-9223372036854775808<=v/\v<=9223372036854775807
 | [],[],_=>⟨rfl,by simp⟩
 | c::cs,x::xs,⟨h1,h2⟩=>by
  obtain ⟨rfl,hb⟩:=ri_i64 h1;obtain ⟨g1,g2⟩:=all2_ints h2;refine ⟨by rw[List.flatten_cons,g1];simp[iv],fun v hv=>?_⟩
  grind
 | [],_::_,g=>g.elim
 | _::_,[],g=>g.elim
theorem rsl_ints{cs:List Value}{xs:List Int}(h:RSl W 1 (RI .i64) cs xs):∃ ao cap,cs=[.slice ao xs.length cap]/\IsS (hp W) ao xs.length cap 1 (iv xs)/\∀ v∈xs,-9223372036854775808<=v/\v<=9223372036854775807:=by
 obtain ⟨ao,cap,css,rfl,x,h2⟩:=h;obtain ⟨g1,g2⟩:=all2_ints h2
 grind
abbrev REn(W:World):=RP (RI .u64) (RP (RI .u64) (RP (RI .i64) (RP (RSl W 1 (RI .u8)) R0)))
abbrev mEn(x:Int×Int×Int×List Int×Unit):Nat:=1+(1+(1+(sumM (fun _=>1) x.2.2.2.1+1+0)))+1
def toEnt(x:Int×Int×Int×List Int×Unit):Ent:=⟨x.1.toNat,x.2.1.toNat,x.2.2.1,byI x.2.2.2.1⟩
theorem enOpens:Opens enc Tryz.prog W 51 4 (REn W) mEn:=by
 refine Opens.struct Tryz.underlying51 qk ?_
 exact OpensF.cons (off:=0) (sz1:=1) (sz2:=3) I (Opens.int Tryz.underlying29 qk) (OpensF.cons (off:=1) (sz1:=1) (sz2:=2) I (Opens.int Tryz.underlying29 qk) (OpensF.cons (off:=2) (sz1:=1) (sz2:=1) I (Opens.int Tryz.underlying3 qk)
  (OpensF.cons (off:=3) (sz1:=1) (sz2:=0) rfl (Opens.slice Tryz.underlying32 qk (Opens.int Tryz.underlying5 qk)) OpensF.nil)))
theorem ent_of{cs:List Value}{x:Int×Int×Int×List Int×Unit}(hR:REn W cs x):EntC (hp W) cs (toEnt x)/\(toEnt x).idx<=mxU/\(toEnt x).term<=mxU:=by
 obtain ⟨i,t,k,dd,u⟩:=x;obtain ⟨c1,c2,e1,h1,c3,c4,e2,h2,c5,c6,e3,h3,c7,c8,e4,h4,h5⟩:=hR;obtain ⟨rfl,hi⟩:=ri_u64 h1;obtain ⟨rfl,ht⟩:=ri_u64 h2;obtain ⟨rfl,_⟩:=ri_i64 h3;obtain ⟨ao,cap,rfl,x⟩:=rsl_bytes h4;obtain rfl:c8=[]:=h5;exact ⟨⟨ao,cap,by rw[e1,e2,e3,e4];rfl,x⟩,hi,ht⟩
theorem all2_ents:∀ {css:List (List Value)} {xs:List (Int×Int×Int×List Int×Unit)},All2 (REn W) css xs->All2 (EntC (hp W)) css (xs.map toEnt)/\∀ x∈xs,(toEnt x).idx<=mxU/\(toEnt x).term<=mxU
 | [],[],_=>⟨trivial,by simp⟩
 | c::cs,x::xs,⟨h1,h2⟩=>by
  obtain ⟨g1,g2⟩:=ent_of h1;obtain ⟨k1,k2⟩:=all2_ents h2;refine ⟨⟨g1,k1⟩,fun y hy=>?_⟩
  grind
 | [],_::_,g=>g.elim
 | _::_,[],g=>g.elim
theorem rsl_ents{cs:List Value}{xs:List (Int×Int×Int×List Int×Unit)}(h:RSl W 4 (REn W) cs xs):∃ ao cap,cs=[.slice ao (xs.map toEnt).length cap]/\EntsS (hp W) ao cap (xs.map toEnt)/\∀ x∈xs,(toEnt x).idx<=mxU/\(toEnt x).term<=mxU:=by
 obtain ⟨ao,cap,css,rfl,x,h2⟩:=h;obtain ⟨g1,g2⟩:=all2_ents h2;have e:xs.length=(xs.map toEnt).length:=by simp
 rw[e] at x ⊢;exact ⟨ao,cap,I,⟨css,x,g1⟩,g2⟩
abbrev RMs(W:World):=RP (RI .i64) (RP (RI .i64) (RP (RI .i64) (RP (RI .u64) (RP (RI .u64) (RP (RI .u64) (RP (RI .u64) (RP (RI .u64) (RP RB (RP (RSl W 4 (REn W)) (RP (RI .i64) (RP (RI .i64) (RP (RSl W 1 (RI .i64)) (RP (RSl W 1 (RI .u8)) R0)))))))))))))
def mP{α β:Type}(m1:α->Nat)(m2:β->Nat)(x:α×β):Nat:=m1 x.1+m2 x.2
def mS{α:Type}(m:α->Nat)(x:α):Nat:=m x+1
def mL{α:Type}(m:α->Nat)(xs:List α):Nat:=sumM m xs+1
def mU{α:Type}(_:α):Nat:=1
def mZ(_:Unit):Nat:=0
theorem consM{P:Program}{α β:Type}{off sz1 sz2:Nat}{f:Field}{fs:List Field}{R1:List Value->α->Prop}{R2:List Value->β->Prop}{m1:α->Nat}{m2:β->Nat}(hf:f.offset=off)(o1:Opens enc P W f.type sz1 R1 m1)(o2:OpensF enc P W (off+sz1) fs sz2 R2 m2):
  OpensF enc P W off (f::fs) (sz1+sz2) (RP R1 R2) (mP m1 m2):=OpensF.cons hf o1 o2
theorem intM{P:Program}{t:TypeId}{k:IntKind}(ht:P.underlying t=some (.int k))(hc:P.cellsOf t=1):Opens enc P W t 1 (RI k) mU:=Opens.int ht hc
theorem boolM{P:Program}{t:TypeId}(ht:P.underlying t=some .bool)(hc:P.cellsOf t=1):Opens enc P W t 1 RB mU:=Opens.bool ht hc
theorem nilM{P:Program}{off:Nat}:OpensF enc P W off [] 0 R0 mZ:=OpensF.nil
theorem sliceM{P:Program}{α:Type}{t e:TypeId}{sz:Nat}{R:List Value->α->Prop}{m:α->Nat}(ht:P.underlying t=some (.slice e))(hc:P.cellsOf t=1)(o:Opens enc P W e sz R m):Opens enc P W t 1 (RSl W sz R) (mL m):=Opens.slice ht hc o
theorem structM{P:Program}{α:Type}{t:TypeId}{sz:Nat}{fs:Array Field}{R:List Value->α->Prop}{m:α->Nat}(ht:P.underlying t=some (.struct fs))(hc:P.cellsOf t=sz)(o:OpensF enc P W 0 fs.toList sz R m):Opens enc P W t sz R (mS m):=Opens.struct ht hc o
abbrev MsT:Type:=Int×Int×Int×Int×Int×Int×Int×Int×Bool×List (Int×Int×Int×List Int×Unit)×Int×Int×List Int×List Int×Unit
def mMs:MsT->Nat:=mS (mP mU (mP mU (mP mU (mP mU (mP mU (mP mU (mP mU (mP mU (mP mU (mP (mL mEn) (mP mU (mP mU (mP (mL mU) (mP (mL mU) mZ))))))))))))))
theorem sumM_U{α:Type}(xs:List α):sumM mU xs=xs.length:=sumM_one xs
theorem msOpens:Opens enc Tryz.prog W 34 14 (RMs W) mMs:=by
 exact structM Tryz.underlying34 qk<|consM (off:=0) (sz1:=1) (sz2:=13) I (intM Tryz.underlying3 qk) (consM (off:=1) (sz1:=1) (sz2:=12) I (intM Tryz.underlying3 qk)<|consM (off:=2) (sz1:=1) (sz2:=11) I (intM Tryz.underlying3 qk) (consM (off:=3) (sz1:=1) (sz2:=10) I (intM Tryz.underlying29 qk)<|consM (off:=4) (sz1:=1) (sz2:=9) I (intM Tryz.underlying29 qk) (consM (off:=5) (sz1:=1) (sz2:=8) I (intM Tryz.underlying29 qk)<|consM (off:=6) (sz1:=1) (sz2:=7) I (intM Tryz.underlying29 qk) (consM (off:=7) (sz1:=1) (sz2:=6) I (intM Tryz.underlying29 qk)<|consM (off:=8) (sz1:=1) (sz2:=5) I (boolM Tryz.underlying4 qk) (consM (off:=9) (sz1:=1) (sz2:=4) I (sliceM Tryz.underlying30 qk enOpens)<|consM (off:=10) (sz1:=1) (sz2:=3) I (intM Tryz.underlying3 qk) (consM (off:=11) (sz1:=1) (sz2:=2) I (intM Tryz.underlying3 qk)<|consM (off:=12) (sz1:=1) (sz2:=1) I (sliceM Tryz.underlying31 qk<|intM Tryz.underlying3 qk) (consM (off:=13) (sz1:=1) (sz2:=0) I (sliceM Tryz.underlying32 qk<|intM Tryz.underlying5 qk) nilM)))))))
end opens
end
section
attribute [local irreducible] Code.wp wpList Calls
def MpI{κ ν:Type}(enc:κ->Value)(encv:ν->Value)(h hi:PH)(b r:Nat)(m:List (κ×ν))(ks:List κ):Prop:=
 ∃ (es:Array MapEntry) (c since:Nat) (seen:Array Nat) (last:Nat),h=sg b (.map es c)/\es.toList.map (fun e=>(e.key,e.val))=m.map (fun x=>(enc x.1,encv x.2))/\(es.toList.map (·.born)).Pairwise (· < ·)/\(∀ e∈es.toList,e.born<c) /\
  hi=sg r (.mapIter (some b) since seen last)/\(∀ e∈es.toList,e.born<since)/\(∀ e∈es.toList,e.born<last)/\∀ (i:Nat) e x,es[i]?=some e->m[i]?=some x->(e.born∈seen↔x.1∈ks)
def MpS{κ ν:Type}(enc:κ->Value)(encv:ν->Value)(h hi:PH)(b r:Nat)(m:List (κ×ν))(ks:List κ)(k:κ)(v:ν):Prop:=
 MpI enc encv h hi b r m ks/\∃ (es:Array MapEntry) (c since:Nat) (seen:Array Nat) (q:Nat) (e:MapEntry),h=sg b (.map es c)/\(es.toList.map (·.born)).Pairwise (· < ·)/\hi=sg r (.mapIter (some b) since seen c)/\seen.back?=some e.born/\es[q]?=some e/\e.key=enc k/\e.val=encv v
section
variable {κ ν:Type} [DecidableEq κ] {enc:κ->Value} {encv:ν->Value} {h hi:PH} {b r:Nat} {m:List (κ×ν)} {ks:List κ}
omit [DecidableEq κ] in
theorem MpI.map(x:MpI enc encv h hi b r m ks):MpO enc encv h b m:=by
 obtain ⟨es,c,since,seen,last,h1,h2,h3,h4,_⟩:=x;exact ⟨es,c,h1,h2,h3,h4⟩
omit [DecidableEq κ] in
theorem get_of_map{es:Array MapEntry}(h2:es.toList.map (fun e=>(e.key,e.val))=m.map (fun x=>(enc x.1,encv x.2))){i:Nat}{e:MapEntry}(he:es[i]?=some e):∃ x,m[i]?=some x/\e.key=enc x.1/\e.val=encv x.2:=by
 have h3:=congrArg (fun l=>l[i]?) h2
 grind
omit [DecidableEq κ] in
theorem get_of_mem{es:Array MapEntry}(h2:es.toList.map (fun e=>(e.key,e.val))=m.map (fun x=>(enc x.1,encv x.2))){i:Nat}{x:κ×ν}(hx:m[i]?=some x):∃ e,es[i]?=some e:=by
 have h3:=congrArg List.length h2;simp only[List.length_map,Array.length_toList] at h3;have h4:=(List.getElem?_eq_some_iff.1 hx).1
 simp_all
omit [DecidableEq κ] in
theorem run_next{P:Program}{w:World}(hI:MpI enc encv h hi b r m ks)(hnd:(m.map (·.1)).Nodup)(hb:∀ b o,h b=some o->w.heap[b]?=some o)(hr:∀ b o,hi b=some o->w.heap[b]?=some o)(ty:Nat):
  (∃ k v w1 o,(w1=w\/w1=w.drew)/\(k,v)∈m/\k∉ks/\(Instr.next (.pointer (some ⟨r,0,none⟩)) false ty).run P w=.ok (.tuple #[.bool true,enc k,encv v]) (w1.putObj r o)/\MpS enc encv h (sg r o) b r m (ks++[k]) k v) \/
  (∃ w1,(w1=w\/w1=w.drew)/\(Instr.next (.pointer (some ⟨r,0,none⟩)) false ty).run P w=.ok (.tuple #[.bool false]) w1/\∀ x∈m,x.1∈ks):=by
 obtain ⟨es,c,since,seen,last,rfl,h2,h3,h4,rfl,h5,h6,h7⟩:=hI;have hbm:w.heap[b]?=some (.map es c):=hb b _ (by simp);have hri:w.heap[r]?=some (.mapIter (some b) since seen last):=hr r _ (by simp)
 have hset:∀ (w1:World) (o:Obj),(w1=w\/w1=w.drew)->(setObj r o).run P w1=.ok () (w1.putObj r o):=fun w1 o hw=>by
  rcases hw with rfl|rfl
  ·simp[setObj,Sem.run,hri,World.putObj]
  ·have hri2:w.drew.heap[r]?=some (.mapIter (some b) since seen last):=hri;simp[setObj,Sem.run,hri2,World.putObj]
 have hall:(!seen.isEmpty && !es.isEmpty && es.all (·.born>=last))=false:=by
  by_cases he:es.isEmpty=true
  ·simp[he]
  ·have hz:0<es.size:=by
    grind
   grind
 have hnew:(es.filter fun e=>!seen.contains e.born).filter (fun e=>decide (e.born>=since))=#[]:=by
  apply Array.filter_eq_empty_iff.2
  simp_all
 obtain ⟨left,hleft⟩:∃ left,left=es.filter fun e=>!seen.contains e.born:=⟨_,rfl⟩
 have hold:left.filter (fun e=>decide (e.born<since))=left:=by
  apply Array.filter_eq_self.2
  simp_all
 obtain ⟨cand,hcand⟩:∃ cand:Array (Option MapEntry),cand=(if left.isEmpty then #[none] else #[])++(left++#[]).map some:=⟨_,rfl⟩
 have hsz:0<cand.size:=by
  rw[hcand]
  by_cases he:left.isEmpty=true
  all_goals grind
 obtain ⟨i,w1,hw1,hi1,hch⟩:∃ i w1,(w1=w\/w1=w.drew)/\i<cand.size/\(choose (.mapNext cand.size)).run P w=.ok i w1:=by
  by_cases hf:cand.size<=1
  ·exact ⟨0,w,.inl I,hsz,by simp[choose,Sem.run,Question.forced,hf]⟩
  ·refine ⟨(Question.mapNext cand.size).cut (w.tape w.drawn (.mapNext cand.size)),w.drew,.inr I,Nat.mod_lt _ hsz,?_⟩;simp[choose,Sem.run,Question.forced,hf]
 have hgm:(getObj b).run P w1=.ok (.map es c) w1/\True:=⟨by rcases hw1 with rfl|rfl <;> exact run_getMap hbm,trivial⟩;have hgo:(getObj r).run P w=.ok (.mapIter (some b) since seen last) w:=by simp[getObj,Sem.run,hri]
 have hrun:(Instr.next (.pointer (some ⟨r,0,none⟩)) false ty).run P w=(match cand[i]? with
   | some (some e)=>(do setObj r (.mapIter (some b) since (seen.push e.born) c);pure (.tuple #[.bool true,e.key,e.val]):Sem Value)
   | some none=>pure (.tuple #[.bool false])
   | none => stuck "Next: no such candidate").run P w1 := by
  unfold Instr.next;simp only[Sem.run_bind,hgo,Result.andThen,run_getMap hbm,hall];have hnew2:left.filter (fun e=>decide (e.born>=since))=#[]:=by rw[hleft];exact hnew
  simp only[Bool.false_eq_true,if_false,<-hleft,hold,hnew2,<-hcand];rw[Sem.run_bind,hch]
  rfl
 have hlast:∀ e∈es.toList,e.born<c:=h4
 by_cases he:left.isEmpty=true
 ·right
  have hc1:cand=#[none]:=by
   simp_all
  refine ⟨w1,hw1,?_,fun x hx=>?_⟩
  ·rw[hrun];have:i=0:=by rw[hc1] at hi1;simpa using hi1
   subst this;rw[hc1]
   rfl
  ·obtain ⟨q,hq⟩:=List.mem_iff_getElem?.1 hx;obtain ⟨e,hee⟩:=get_of_mem h2 hq;refine (h7 q e x hee hq).1 ?_;have hem:e∈es:=Array.mem_of_getElem? hee
   have hno:e∉left:=by
    grind
   grind
 ·left
  have hc1:cand=left.map some:=by rw[hcand,if_neg he];simp
  have hil:i<left.size:=by rw[hc1] at hi1;simpa using hi1
  have hci:cand[i]?=some (some left[i]):=by rw[hc1];simp[hil]
  obtain ⟨e0,he0⟩:∃ e0,e0=left[i]:=⟨_,rfl⟩;have hmem:e0∈left:=by rw[he0];simp
  rw[<-he0] at hci;rw[hleft,Array.mem_filter] at hmem;obtain ⟨q,hq⟩:=Array.mem_iff_getElem?.1 hmem.1;obtain ⟨x,hx,hk,hv⟩:=get_of_map h2 hq;have hxm:x∈m:=List.mem_of_getElem? hx
  have hnks:x.1∉ks:=fun hc=>by
   grind
  refine ⟨x.1,x.2,w1,.mapIter (some b) since (seen.push e0.born) c,hw1,hxm,hnks,?_,⟨es,c,since,seen.push e0.born,c,I,h2,h3,h4,I,h5,h4,?_⟩,es,c,since,seen.push e0.born,q,e0,I,h3,I,by simp,hq,hk,hv⟩
  ·rw[hrun,hci];simp only[Sem.run_bind,hset w1 _ hw1,Result.andThen];rw[hk,hv]
   rfl
  ·intro j e y hje hjy;rw[Array.mem_push,List.mem_append,List.mem_singleton,h7 j e y hje hjy]
   by_cases hjq:j=q
   ·grind
   ·have hborn:e.born≠e0.born:=by
     have hp:=List.pairwise_iff_getElem.1 h3;obtain ⟨hj1,hj2⟩:=Array.getElem?_eq_some_iff.1 hje;obtain ⟨hq1,hq2⟩:=Array.getElem?_eq_some_iff.1 hq;rcases Nat.lt_or_gt_of_ne hjq with h|h
     ·have:=hp j q (by simpa using hj1) (by simpa using hq1) h;simp[hj2,hq2] at this;omega
     ·have:=hp q j (by simpa using hq1) (by simpa using hj1) h;simp[hj2,hq2] at this;omega
    have hkey:y.1≠x.1:=by
     intro hc;have hp:=List.pairwise_iff_getElem.1 hnd
     grind
    simp[hborn,hkey]
end
section rules
variable {P:Program} {T:Tab} {w0:World} {ops:Array Oper} {Q:Exit->Act->World->Prop} {rest rest':List Oper} {n:Nat} {l l':Sl} {K:PH} {hs:List PH}
variable {κ ν:Type} [DecidableEq κ] {enc:κ->Value} {encv:ν->Value} {h hi:PH} {b r:Nat} {m:List (κ×ν)} {ks:List κ}
def mrAt(T:Tab)(ops:Array Oper)(n k:Nat)(rest:List Oper)(l:Sl):Option (Nat×Oper×Nat×Value×List Oper×Sl):=
 match ovAt T ops n k rest l with
 | some (d,o,r,l')=>match o.op with
  | .range t x=>match ev l' x with
   | some u=>some (d,o,t,u,r,l')
   | _=>none
  | _=>none
 | none=>none
theorem mrAt_spec{k d t:Nat}{o:Oper}{u:Value}(h:mrAt T ops n k rest l=some (d,o,t,u,rest',l')):ovAt T ops n k rest l=some (d,o,rest',l')/\∀ a,Ag n l' a->execOp a.eval o=(do let x <- Instr.range t u;pure (.value x)):=by
 unfold mrAt at h
 split at h
 ·rename_i d' o' r l2 ho
  split at h
  ·rename_i t' x hop
   split at h
   ·rename_i u' hx;simp only[Option.some.injEq,Prod.mk.injEq] at h;obtain ⟨rfl,rfl,rfl,rfl,rfl,rfl⟩:=h;exact ⟨ho,fun a ha=>by simp only[execOp,hop,ha.ev hx]⟩
   ·simp at h
  ·simp at h
 ·simp at h
def mxAt(T:Tab)(ops:Array Oper)(n k:Nat)(rest:List Oper)(l:Sl):Option (Nat×Oper×Value×Bool×List Oper×Sl):=
 match ovAt T ops n k rest l with
 | some (d,o,r,l')=>match o.op with
  | .next x s=>match ev l' x with
   | some u=>some (d,o,u,s,r,l')
   | _=>none
  | _=>none
 | none=>none
theorem mxAt_spec{k d:Nat}{o:Oper}{u:Value}{s:Bool}(h:mxAt T ops n k rest l=some (d,o,u,s,rest',l')):ovAt T ops n k rest l=some (d,o,rest',l')/\∀ a,Ag n l' a->execOp a.eval o=(do let x <- Instr.next u s o.type;pure (.value x)):=by
 unfold mxAt at h
 split at h
 ·rename_i d' o' r l2 ho
  split at h
  ·rename_i x s' hop
   split at h
   ·rename_i u' hx;simp only[Option.some.injEq,Prod.mk.injEq] at h;obtain ⟨rfl,rfl,rfl,rfl,rfl,rfl⟩:=h;exact ⟨ho,fun a ha=>by simp only[execOp,hop,ha.ev hx]⟩
   ·simp at h
  ·simp at h
 ·simp at h
omit [DecidableEq κ] in
theorem mrg[hT:TabOK P T](k:Nat){d t kt et:Nat}{o:Oper}(h0:mrAt T ops n k rest l=some (d,o,t,.map (some b),rest',l'))(hu:P.underlying t=some (.map kt et))(hin:In K hs h)(hm:MpO enc encv h b m)
  (hk:∀ r hi,MpI enc encv h hi b r m []->WL P w0 ops Q rest' n ((d,.pointer (some ⟨r,0,none⟩))::l') K (hi::hs)):WL P w0 ops Q rest n l K hs:=by
 obtain ⟨h1,h2⟩:=mrAt_spec h0;refine opa k (R:=fun v K' hs'=>∃ r hi,MpI enc encv h hi b r m []/\v=.pointer (some ⟨r,0,none⟩)/\K'=K/\hs'=hi::hs) h1 (fun a w ha hw=>?_) ?_
 ·obtain ⟨es,c,rfl,g2,g3,g4⟩:=hm;have hb:=hw.inn hin b (.map es c) (by simp);refine ⟨.pointer (some ⟨w.heap.size,0,none⟩),_,K,_,?_,hw.alloc (.mapIter (some b) c #[] c),w.heap.size,_,⟨es,c,c,#[],c,I,g2,g3,g4,I,g4,g4,by simp⟩,I,I,I⟩;rw[h2 a ha];unfold Instr.range;simp[Sem.run_bind,run_underlying hu,Result.andThen,run_getMap hb,newObj,Sem.run]
 ·rintro v K' hs' ⟨r,hi,g1,rfl,rfl,rfl⟩;exact hk r hi g1
theorem Sat.putOr{w w1:World}(s:Sat w0 w K hs)(hw:w1=w\/w1=w.drew):Sat w0 w1 K hs:=by
 rcases hw with rfl|rfl
 ·exact s
 ·exact s.drew
omit [DecidableEq κ] in
theorem mnx[hT:TabOK P T](k i:Nat){d:Nat}{o:Oper}(h0:mxAt T ops n k rest l=some (d,o,.pointer (some ⟨r,0,none⟩),false,rest',l'))(hin:In K hs h)(hii:hs[i]?=some hi)(hI:MpI enc encv h hi b r m ks)(hnd:(m.map (·.1)).Nodup)
  (more:∀ k v hi',(k,v)∈m->k∉ks->MpS enc encv h hi' b r m (ks++[k]) k v->WL P w0 ops Q rest' n ((d,.tuple #[.bool true,enc k,encv v])::l') K (hs.set i hi'))
  (over:(∀ x∈m,x.1∈ks)->WL P w0 ops Q rest' n ((d,.tuple #[.bool false])::l') K hs):WL P w0 ops Q rest n l K hs:=by
 obtain ⟨h1,h2⟩:=mxAt_spec h0;refine opa k (R:=fun v K' hs'=>K'=K/\((∃ k x hi',(k,x)∈m/\k∉ks/\MpS enc encv h hi' b r m (ks++[k]) k x/\v=.tuple #[.bool true,enc k,encv x]/\hs'=hs.set i hi')\/((∀ x∈m,x.1∈ks)/\v=.tuple #[.bool false]/\hs'=hs))) h1 (fun a w ha hw=>?_) ?_
 ·rcases run_next (P:=P) hI hnd (hw.inn hin) (hw.inn (.inr ⟨i,hii⟩)) o.type with ⟨k,v,w1,ob,hw1,g1,g2,g3,g4⟩|⟨w1,hw1,g1,g2⟩
  ·have s1:=hw.putOr hw1;obtain ⟨es,c,since,seen,last,_,_,_,_,hhi,_⟩:=id hI;rw[hhi] at hii;exact ⟨_,_,K,_,by rw[h2 a ha,Sem.run_bind,g3];rfl,s1.putObj hii ob,rfl,.inl ⟨k,v,_,g1,g2,g4,rfl,rfl⟩⟩
  ·exact ⟨_,w1,K,hs,by rw[h2 a ha,Sem.run_bind,g1];rfl,hw.putOr hw1,rfl,.inr ⟨g2,rfl,rfl⟩⟩
 ·rintro v K' hs' ⟨rfl,⟨k,x,hi',g1,g2,g3,rfl,rfl⟩|⟨g1,rfl,rfl⟩⟩
  ·exact more k x hi' g1 g2 g3
  ·exact over g1
theorem mrgn[hT:TabOK P T](k:Nat){d t kt et:Nat}{o:Oper}(h0:mrAt T ops n k rest l=some (d,o,t,.map none,rest',l'))(hu:P.underlying t=some (.map kt et))
  (hk:∀ r,WL P w0 ops Q rest' n ((d,.pointer (some ⟨r,0,none⟩))::l') K (sg r (.mapIter none 0 #[] 0)::hs)):WL P w0 ops Q rest n l K hs:=by
 obtain ⟨h1,h2⟩:=mrAt_spec h0;refine opa k (R:=fun v K' hs'=>∃ r,v=.pointer (some ⟨r,0,none⟩)/\K'=K/\hs'=sg r (.mapIter none 0 #[] 0)::hs) h1 (fun a w ha hw=>?_) ?_
 ·refine ⟨.pointer (some ⟨w.heap.size,0,none⟩),_,K,_,?_,hw.alloc (.mapIter none 0 #[] 0),w.heap.size,I,I,I⟩
  simp_all [run_underlying,Instr.range]
 ·rintro v K' hs' ⟨r,rfl,rfl,rfl⟩;exact hk r
theorem mnxn[hT:TabOK P T](k:Nat){d r:Nat}{o:Oper}(h0:mxAt T ops n k rest l=some (d,o,.pointer (some ⟨r,0,none⟩),false,rest',l'))(hin:In K hs (sg r (.mapIter none 0 #[] 0)))
  (hk:WL P w0 ops Q rest' n ((d,.tuple #[.bool false])::l') K hs):WL P w0 ops Q rest n l K hs:=by
 obtain ⟨h1,h2⟩:=mxAt_spec h0;refine opr k h1 (fun a w ha hw=>?_) hk;have hr:w.heap[r]?=some (.mapIter none 0 #[] 0):=hw.inn hin r (.mapIter none 0 #[] 0) (by simp);have hgo:(getObj r).run P w=.ok (.mapIter none 0 #[] 0) w:=by simp[getObj,Sem.run,hr]
 rw[h2 a ha];unfold Instr.next;simp[Sem.run_bind,hgo,Result.andThen]
def enAt(T:Tab)(ops:Array Oper)(n k:Nat)(rest:List Oper)(l:Sl):Option (Nat×Oper×Value×List Oper×Sl):=
 match ovAt T ops n k rest l with
 | some (d,o,r,l')=>match o.op with
  | .entry x=>match ev l' x with
   | some u=>some (d,o,u,r,l')
   | _=>none
  | _=>none
 | none=>none
theorem enAt_spec{k d:Nat}{o:Oper}{u:Value}(h:enAt T ops n k rest l=some (d,o,u,rest',l')):ovAt T ops n k rest l=some (d,o,rest',l')/\∀ a,Ag n l' a->execOp a.eval o=(do let x <- Instr.entry u;pure (.value x)):=by
 unfold enAt at h
 split at h
 ·rename_i d' o' r l2 ho
  split at h
  ·rename_i x hop
   split at h
   ·rename_i u' hx;simp only[Option.some.injEq,Prod.mk.injEq] at h;obtain ⟨rfl,rfl,rfl,rfl,rfl⟩:=h;exact ⟨ho,fun a ha=>by simp only[execOp,hop,ha.ev hx]⟩
   ·simp at h
  ·simp at h
 ·simp at h
omit [DecidableEq κ] in
theorem men[hT:TabOK P T](k:Nat){d:Nat}{o:Oper}{kk:κ}{v:ν}(h0:enAt T ops n k rest l=some (d,o,.pointer (some ⟨r,0,none⟩),rest',l'))(hin:In K hs h)(hini:In K hs hi)(hS:MpS enc encv h hi b r m ks kk v)
  (hk:WL P w0 ops Q rest' n ((d,.tuple #[enc kk,encv v])::l') K hs):WL P w0 ops Q rest n l K hs:=by
 obtain ⟨h1,h2⟩:=enAt_spec h0;refine opr k h1 (fun a w ha hw=>?_) hk;obtain ⟨_,es,c,since,seen,q,e,rfl,h3,rfl,h4,h5,h6,h7⟩:=hS;have hb:w.heap[b]?=some (.map es c):=hw.inn hin b (.map es c) (by simp);have hr:w.heap[r]?=some (.mapIter (some b) since seen c):=hw.inn hini r (.mapIter (some b) since seen c) (by simp);have hgo:(getObj r).run P w=.ok (.mapIter (some b) since seen c) w:=by simp[getObj,Sem.run,hr]
 have hfind:es.find? (fun x=>x.born == e.born)=some e:=by
  grind [Array.find?_eq_some_iff_getElem,List.pairwise_iff_getElem]
 rw[h2 a ha];unfold Instr.entry;simp[Sem.run_bind,hgo,Result.andThen,h4,run_getMap hb,hfind,h6,h7]
theorem mpuI[hT:TabOK P T](k i:Nat){t kt et:Nat}{o:Oper}{v y:Value}(j:κ)(x:ν)(h0:muAt T ops n k rest l=some (o,t,.map (some b),v,y,rest',l'))(hi0:hs[i]?=some h)(hu:P.underlying t=some (.map kt et))(hK:KeyOK P kt enc)(hv:v=enc j)(hy:y=encv x)(hI:MpI enc encv h hi b r m ks)
  (hex:(mget j m).isSome=true) (hk:∀ h',MpI enc encv h' hi b r (mset j x m) ks->WL P w0 ops Q rest' n l' K (hs.set i h')):WL P w0 ops Q rest n l K hs:=by
 obtain ⟨h1,h2⟩:=muAt_spec h0;subst hv hy;refine opu k (R:=fun K' hs'=>∃ h',MpI enc encv h' hi b r (mset j x m) ks/\K'=K/\hs'=hs.set i h') h1 (fun a w ha hw=>?_) ?_
 ·obtain ⟨es,c,since,seen,last,rfl,g2,g3,g4,g5,g6,g7,g8⟩:=hI;have g2':es.toList.map (fun e=>(e.key,e.val))=(m.map fun x=>(x.1,encv x.2)).map (fun x=>(enc x.1,x.2)):=by rw[g2];simp
  have hb:w.heap[b]?=some (.map es c):=hw.own i _ hi0 b _ (by simp);have hf:=hK.fnd j es.toList _ w g2';have e1:=eset_map (enc:=enc) (encv:=encv) j x c es.toList m g2;have e2:=eset_born (enc j) (encv x) c (fk j (m.map fun x=>(x.1,encv x.2)) 0) es.toList g3 g4;have hset:∀ o:Obj,(setObj b o).run P w=.ok () (w.putObj b o):=fun o=>by simp[setObj,Sem.run,hb,World.putObj]
  cases hk:fk j (m.map fun x=>(x.1,encv x.2)) 0 with
  | none=>
   have:=fk_get (encv:=encv) j m 0;rw[hk] at this;simp only[Option.map_none] at this;cases hm:mget j m with
   | none=>rw[hm] at hex;cases hex
   | some u=>rw[hm] at this;cases this
  | some z=>
   obtain ⟨q,z⟩:=z;rw[hk] at e1 e2;simp only[eset] at e1 e2;have hkey:=fk_key (enc:=enc) j g2' hk;have hkey':((es[q]?).map (·.key)).getD (enc j)=enc j:=by rw[<-Array.getElem?_toList,hkey];rfl
   have hst:(Instr.keyThatStays (enc j) (enc j)).run P w=.ok (enc j) w:=by unfold Instr.keyThatStays;simp[hK.sam]
   have hmod:∀ (i:Nat) e,(es.modify q fun e=>{ e with key:=enc j,val:=encv x })[i]?=some e->∃ e',es[i]?=some e'/\e.born=e'.born:=by
    grind
   have hmem:∀ e∈(es.modify q fun e=>{ e with key:=enc j,val:=encv x }).toList,∃ e'∈es.toList,e.born=e'.born:=by
    intro e he;obtain ⟨i,hi⟩:=List.mem_iff_getElem?.1 he
    grind
   refine ⟨w.putObj b (.map (es.modify q fun e=>{ e with key:=enc j,val:=encv x }) c),K,_,?_,hw.putObj hi0 _,sg b (.map (es.modify q fun e=>{ e with key:=enc j,val:=encv x }) c),
    ⟨es.modify q fun e=>{ e with key:=enc j,val:=encv x },c,since,seen,last,rfl,by rw[Array.toList_modify];exact e1,by rw[Array.toList_modify];exact e2.1,fun e he=>?_,g5,fun e he=>?_,fun e he=>?_,?_⟩,I,I⟩
   ·rw[h2 a ha];unfold Instr.mapUpdate;simp only[Sem.run_bind,run_underlying hu,Result.andThen,run_getMap hb,Sem.run_pure,hK.chk,hf,hk,hkey',hst,hset]
   ·simp_all
   ·grind
   ·grind
   ·intro i e y he hy;obtain ⟨e',h5,h6⟩:=hmod i e he;have hkk:=mset_keys j x m;rw[if_pos hex] at hkk;have h7:=congrArg (fun l=>l[i]?) hkk
    grind
 ·rintro K' hs' ⟨h',g1,rfl,rfl⟩;exact hk h' g1
end rules
section del
theorem map_era{α β:Type}(f:α->β):∀ (l:List α) (j:Nat),(l.eraseIdx j).map f=(l.map f).eraseIdx j
 | [],_=>rfl
 | a::l,0=>rfl
 | a::l,j+1=>by simp[map_era]
theorem fk_erase{κ:Type}[DecidableEq κ](k:κ):∀ (m:List (κ×Value)),(fk k m 0=none/\mdel k m=m)\/∃ j v,fk k m 0=some (j,v)/\mdel k m=m.eraseIdx j
 | []=>.inl ⟨rfl,rfl⟩
 | (i,u)::m=>by
  by_cases e:k=i
  ·simp_all [fk,mdel]
  ·rcases fk_erase k m with ⟨h1,h2⟩|⟨j,v,h1,h2⟩
   ·left
    refine ⟨?_,by simp[mdel,e,h2]⟩;simp only[fk,e,if_false];rw[fk_shift,h1];rfl
   ·right
    refine ⟨j+1,v,?_,by simp[mdel,e,h2]⟩;simp only[fk,e,if_false];rw[fk_shift,h1]
    simp;omega
theorem mdel_map{κ ν:Type}[DecidableEq κ](f:ν->Value)(k:κ):∀ (m:List (κ×ν)),mdel k (m.map fun x=>(x.1,f x.2))=(mdel k m).map fun x=>(x.1,f x.2)
 | []=>rfl
 | (i,u)::m=>by
  by_cases e:k=i
  all_goals simp_all [mdel_map,mdel]
theorem run_delete{P:Program}{w0:World}{K:PH}{hs:List PH}{κ ν:Type}[DecidableEq κ]{enc:κ->Value}{encv:ν->Value}{h:PH}{b:Nat}{m:List (κ×ν)}{t kt et i:Nat}(hu:P.underlying t=some (.map kt et))(hK:KeyOK P kt enc)(hm:MpO enc encv h b m){w:World}(s:Sat w0 w K hs)(hi:hs[i]?=some h)(k:κ)(ts:Array TypeId)(hts:ts[0]?=some t)(ty:Nat):
  ∃ h' w',MpO enc encv h' b (mdel k m)/\(Builtin.delete_ ts ty #[.map (some b),enc k]).run P w=.ok (.tuple #[]) w'/\Sat w0 w' K (hs.set i h'):=by
 obtain ⟨es,c,rfl,h2,h3,h4⟩:=hm;have h2':es.toList.map (fun e=>(e.key,e.val))=(m.map fun x=>(x.1,encv x.2)).map (fun x=>(enc x.1,x.2)):=by rw[h2];simp
 have hb:w.heap[b]?=some (.map es c):=s.own i _ hi b _ (by simp);have hf:=hK.fnd k es.toList _ w h2';have hset:∀ o:Obj,(setObj b o).run P w=.ok () (w.putObj b o):=fun o=>by simp[setObj,Sem.run,hb,World.putObj]
 unfold Builtin.delete_;rcases fk_erase k (m.map fun x=>(x.1,encv x.2)) with ⟨g1,g2⟩|⟨j,v,g1,g2⟩
 ·rw[mdel_map] at g2;refine ⟨sg b (.map es c),w.putObj b (.map es c),⟨es,c,I,?_,h3,h4⟩,?_,s.putObj hi _⟩
  ·rw[h2];have:=congrArg (fun l=>l.map fun x:κ×Value=>(enc x.1,x.2)) g2;simpa[Function.comp_def] using this.symm
  ·simp[hts,Sem.run_bind,run_underlying hu,Result.andThen,run_getMap hb,hK.chk,hf,g1,hset]
 ·rw[mdel_map] at g2;refine ⟨sg b (.map (es.eraseIdxIfInBounds j) c),w.putObj b (.map (es.eraseIdxIfInBounds j) c),⟨es.eraseIdxIfInBounds j,c,I,?_,?_,?_⟩,?_,s.putObj hi _⟩
  ·have:=congrArg (fun l=>l.map fun x:κ×Value=>(enc x.1,x.2)) g2
   grind [Array.toList_eraseIdxIfInBounds,map_era,Function.comp_def]
  ·grind [Array.toList_eraseIdxIfInBounds]
  ·grind
  ·simp[hts,Sem.run_bind,run_underlying hu,Result.andThen,run_getMap hb,hK.chk,hf,g1,hset]
end del
end
section
def MR{κ α:Type}(R:Value->α->Prop):List (κ×Value)->List (κ×α)->Prop
 | [],[]=>True
 | (k,v)::r,(j,x)::q=>k=j/\R v x/\MR R r q
 | _,_=>False
section
variable {κ α:Type} {R R':Value->α->Prop}
theorem MR.imp(h:∀ v x,R v x->R' v x):∀ {a:List (κ×Value)} {b:List (κ×α)},MR R a b->MR R' a b
 | [],[],g=>g
 | (k,v)::r,(j,x)::q,g=>⟨g.1,h v x g.2.1,MR.imp h g.2.2⟩
 | [],_::_,g=>g.elim
 | _::_,[],g=>g.elim
theorem MR.keys:∀ {a:List (κ×Value)} {b:List (κ×α)},MR R a b->a.map (·.1)=b.map (·.1)
 | [],[],_=>rfl
 | (k,v)::r,(j,x)::q,g=>by simp[g.1,MR.keys g.2.2]
 | [],_::_,g=>g.elim
 | _::_,[],g=>g.elim
theorem MR.len{a:List (κ×Value)}{b:List (κ×α)}(g:MR R a b):a.length=b.length:=by have:=congrArg List.length g.keys;simpa using this
theorem MR.mem{k:κ}{v:Value}:∀ {a:List (κ×Value)} {b:List (κ×α)},MR R a b->(k,v)∈a->∃ x,(k,x)∈b/\R v x
 | (j,u)::r,(i,y)::q,g,hm=>by
  obtain ⟨rfl,h2,g2⟩:=g;rcases List.mem_cons.1 hm with hm|hm
  ·simp_all
  ·obtain ⟨x,h3,h4⟩:=MR.mem g2 hm;exact ⟨x,by simp[h3],h4⟩
 | [],_,_,hm=>by simp at hm
 | _::_,[],g,_=>g.elim
variable [DecidableEq κ]
theorem MR.get(k:κ):∀ {a:List (κ×Value)} {b:List (κ×α)},MR R a b->(mget k a=none/\mget k b=none)\/∃ v x,mget k a=some v/\mget k b=some x/\R v x
 | [],[],_=>.inl ⟨rfl,rfl⟩
 | (j,v)::r,(i,x)::q,g=>by
  obtain ⟨rfl,h,g2⟩:=g
  by_cases e:k=j
  ·exact .inr ⟨v,x,by simp[mget,e],by simp[mget,e],h⟩
  ·rcases MR.get k g2 with ⟨h1,h2⟩|⟨u,y,h1,h2,h3⟩
   ·exact .inl ⟨by simp[mget,e,h1],by simp[mget,e,h2]⟩
   ·exact .inr ⟨u,y,by simp[mget,e,h1],by simp[mget,e,h2],h3⟩
 | [],_::_,g=>g.elim
 | _::_,[],g=>g.elim
theorem MR.set{k:κ}{v:Value}{x:α}(h:R v x):∀ {a:List (κ×Value)} {b:List (κ×α)},MR R a b->MR R (mset k v a) (mset k x b)
 | [],[],_=>⟨rfl,h,trivial⟩
 | (j,u)::r,(i,y)::q,g=>by
  obtain ⟨rfl,h2,g2⟩:=g
  by_cases e:k=j
  ·simp only[mset,e,if_true];exact ⟨I,h,g2⟩
  ·simp only[mset,e,if_false];exact ⟨I,h2,MR.set h g2⟩
 | [],_::_,g=>g.elim
 | _::_,[],g=>g.elim
end
structure Sec where
 vs:List (List UInt8)
 syn:Bool
abbrev Ar:=List (Int×Sec)
structure Dk where
 room:Int
 steps:Int
 areas:List (Int×Ar)
 left:Int
 dead:Bool
def padS(b:List UInt8):List UInt8:=b++List.replicate (64-b.length) 0
def Dk.stp(D:Dk):Dk:={ D with steps:=D.steps+1,dead:=decide (D.left=0),left:=if D.left>0 then D.left-1 else D.left }
def Dk.ar(D:Dk)(a:Int):Ar:=(mget a D.areas).getD []
def Dk.sec(D:Dk)(a n:Int):Option Sec:=mget n (D.ar a)
def secW(s:Option Sec)(b:List UInt8):Sec:=⟨(s.getD ⟨[],false⟩).vs++[padS b],(s.getD ⟨[],false⟩).syn⟩
def Dk.laid(D:Dk)(a n:Int)(b:List UInt8):Dk:=
 { D with room:=if (D.sec a n).isSome=true then D.room else D.room-1,areas:=mset a (mset n (secW (D.sec a n) b) (D.ar a)) D.areas }
def Dk.write(D:Dk)(a n:Int)(b:List UInt8):Dk×Int:=
 if D.dead=true then (D,30) else if n<0\/65536<=n\/64<b.length then (D,31) else if (D.sec a n).isSome=false/\D.room=0 then (D,32)
 else ((D.laid a n b).stp,if (D.laid a n b).stp.dead=true then 30 else 0)
def secS(s:Sec):Sec:=⟨[s.vs.getLastD []],true⟩
def Dk.synA(D:Dk)(a:Int):List (Int×Ar):=
 match mget a D.areas with
 | some l=>mset a (l.map fun x=>(x.1,secS x.2)) D.areas
 | none=>D.areas
def Dk.sync(D:Dk)(a:Int):Dk×Int:=
 if D.dead=true then (D,30) else if D.stp.dead=true then (D.stp,30)
 else ({ D.stp with areas:=D.synA a },0)
def Dk.free(D:Dk)(a:Int):Dk×Int:=
 if D.dead=true then (D,30) else if D.stp.dead=true then (D.stp,30)
 else ({ D.stp with room:=D.room+((D.ar a).length:Int),areas:=mdel a D.areas },0)
def Dk.read(D:Dk)(a n:Int):Option (List UInt8):=(D.sec a n).map fun s=>s.vs.getLastD []
structure Dk.Ok (c:Nat) (D:Dk):Prop where
 keys:(D.areas.map (·.1)).Nodup
 ns:∀ x∈D.areas,(x.2.map (·.1)).Nodup/\x.2.length<=c
 vs:∀ x∈D.areas,∀ y∈x.2,y.2.vs≠[]/\y.2.vs.length<=c/\∀ b∈y.2.vs,b.length=64
 room:0<=D.room/\D.room<=1099511627776
 steps:0<=D.steps/\D.steps<=c
 left : -1<=D.left/\D.left<=9223372036854775807
 at_:∀ x∈D.areas,∀ y∈x.2,0<=y.1/\y.1<65536
section
variable {κ ν:Type} [DecidableEq κ]
theorem mset_mem{k:κ}{v:ν}{x:κ×ν}:∀ {m:List (κ×ν)},x∈mset k v m->x=(k,v)\/x∈m
 | [],h=>by simp[mset] at h;exact .inl h
 | (j,u)::m,h=>by
  by_cases e:k=j
  ·grind [mset]
  ·simp only[mset,e,if_false,List.mem_cons] at h;rcases h with h|h
   ·exact .inr (by simp[h])
   ·rcases mset_mem h with h|h
    ·exact .inl h
    ·exact .inr (by simp[h])
theorem mset_nodup{k:κ}{v:ν}{m:List (κ×ν)}(h:(m.map (·.1)).Nodup):((mset k v m).map (·.1)).Nodup:=by
 rw[mset_keys]
 split
 ·exact h
 ·rename_i hn;rw[List.nodup_append];refine ⟨h,by simp,?_⟩;intro a ha b hb;simp only[List.mem_singleton] at hb;subst hb;intro e
  simp_all [mget_none]
theorem mdel_sub{k:κ}:∀ (m:List (κ×ν)),(mdel k m).Sublist m
 | []=>by simp[mdel]
 | (j,u)::m=>by
  by_cases e:k=j
  ·simp only[mdel,e,if_true]
   first|exact List.sublist_cons_self _ _|exact (mdel_sub m).trans (List.sublist_cons_self _ _)
  ·simp only[mdel,e,if_false];exact (mdel_sub m).cons_cons _
end
theorem padS_len{b:List UInt8}(h:b.length<=64):(padS b).length=64:=by simp[padS];omega
theorem Dk.ar_mem{D:Dk}{a:Int}(x:Int×Sec)(h:x∈D.ar a):∃ l,(a,l)∈D.areas/\D.ar a=l:=by
 unfold Dk.ar at h ⊢;cases hg:mget a D.areas with
 | none=>rw[hg] at h;simp at h
 | some l=>exact ⟨l,mget_mem hg,rfl⟩
theorem Dk.Ok.arNodup{c:Nat}{D:Dk}(o:D.Ok c)(a:Int):((D.ar a).map (·.1)).Nodup/\(D.ar a).length<=c:=by
 unfold Dk.ar;cases hg:mget a D.areas with
 | none=>simp
 | some l=>exact o.ns _ (mget_mem hg)
theorem Dk.Ok.secOk{c:Nat}{D:Dk}(o:D.Ok c){a n:Int}{s:Sec}(h:D.sec a n=some s):s.vs≠[]/\s.vs.length<=c/\∀ b∈s.vs,b.length=64:=by
 have hm:=mget_mem h;obtain ⟨l,h1,h2⟩:=Dk.ar_mem _ hm;rw[h2] at hm;exact o.vs _ h1 _ hm
theorem Dk.Ok.up{c d:Nat}{D:Dk}(o:D.Ok c)(h:c<=d):D.Ok d:=
 ⟨o.keys,fun x hx=>⟨(o.ns x hx).1,Nat.le_trans (o.ns x hx).2 h⟩,fun x hx y hy=>⟨(o.vs x hx y hy).1,Nat.le_trans (o.vs x hx y hy).2.1 h,(o.vs x hx y hy).2.2⟩,o.room,⟨o.steps.1,by have:=o.steps.2;omega⟩,o.left,o.at_⟩
theorem stp_left{x:Int}(h : -1<=x/\x<=9223372036854775807): -1<=(if x>0 then x-1 else x)/\(if x>0 then x-1 else x)<=9223372036854775807:=by
 omega
theorem Dk.Ok.stp{c:Nat}{D:Dk}(o:D.Ok c):D.stp.Ok (c+1):=
 ⟨o.keys,fun x hx=>⟨(o.ns x hx).1,Nat.le_trans (o.ns x hx).2 (Nat.le_succ c)⟩,fun x hx y hy=>⟨(o.vs x hx y hy).1,Nat.le_trans (o.vs x hx y hy).2.1 (Nat.le_succ c),(o.vs x hx y hy).2.2⟩,o.room,⟨by have:=o.steps.1;simp only[Dk.stp];omega,by have:=o.steps.2;simp only[Dk.stp];omega⟩,stp_left o.left,o.at_⟩
theorem Dk.Ok.write{c:Nat}{D:Dk}(o:D.Ok c)(a n:Int)(b:List UInt8):(D.write a n b).1.Ok (c+1):=by
 unfold Dk.write
 split
 ·exact o.up<|Nat.le_succ c
 ·split
  ·exact o.up<|Nat.le_succ c
  ·rename_i hform
   split
   ·exact o.up<|Nat.le_succ c
   ·rename_i hfull;have hn:0<=n/\n<65536/\b.length<=64:=by omega
    have hsec:(secW (D.sec a n) b).vs≠[]/\(secW (D.sec a n) b).vs.length<=c+1/\∀ d∈(secW (D.sec a n) b).vs,d.length=64:=by
     unfold secW;cases hs:D.sec a n with
     | none=>
      simp_all [padS_len]
     | some s=>
      obtain ⟨h1,h2,h3⟩:=o.secOk hs;simp only[Option.getD_some];refine ⟨by simp,by simp;omega,?_⟩;intro d hd;rcases List.mem_append.1 hd with hd|hd
      all_goals simp_all [padS_len]
    have hrm:0<=(D.laid a n b).room/\(D.laid a n b).room<=1099511627776:=by
     have:=o.room
     grind [Dk.laid]
    obtain ⟨hnd,hlc⟩:=o.arNodup a;refine ⟨?_,?_,?_,hrm,⟨by have:=o.steps.1;simp only[Dk.stp,Dk.laid];omega,by have:=o.steps.2;simp only[Dk.stp,Dk.laid];omega⟩,stp_left o.left,?_⟩
    ·exact mset_nodup o.keys
    ·intro x hx;rcases mset_mem hx with rfl|hx
     ·grind [mset_nodup,mset_length]
     ·exact ⟨(o.ns x hx).1,Nat.le_trans (o.ns x hx).2 (Nat.le_succ c)⟩
    ·intro x hx y hy;rcases mset_mem hx with rfl|hx
     ·rcases mset_mem hy with rfl|hy
      ·exact hsec
      ·obtain ⟨l,h1,h2⟩:=Dk.ar_mem _ hy;rw[h2] at hy;obtain ⟨h3,h4,h5⟩:=o.vs _ h1 _ hy
       grind
     ·obtain ⟨h3,h4,h5⟩:=o.vs _ hx _ hy
      grind
    ·intro x hx y hy;rcases mset_mem hx with rfl|hx
     ·rcases mset_mem hy with rfl|hy
      ·omega
      ·obtain ⟨l,h1,h2⟩:=Dk.ar_mem _ hy;rw[h2] at hy;exact o.at_ _ h1 _ hy
     ·exact o.at_ _ hx _ hy
theorem Dk.Ok.sync{c:Nat}{D:Dk}(o:D.Ok c)(a:Int):(D.sync a).1.Ok (c+1):=by
 unfold Dk.sync
 split
 ·exact o.up<|Nat.le_succ c
 ·split
  ·exact o.stp
  ·have os:=o.stp;unfold Dk.synA;cases hg:mget a D.areas with
   | none=>exact os
   | some l=>
    have hl:=mget_mem hg;refine ⟨mset_nodup o.keys,?_,?_,os.room,os.steps,os.left,?_⟩
    ·intro x hx;rcases mset_mem hx with rfl|hx
     ·have h1:=(o.ns _ hl)
      grind
     ·exact os.ns x hx
    ·intro x hx y hy;rcases mset_mem hx with rfl|hx
     ·obtain ⟨z,hz,rfl⟩:=List.mem_map.1 hy;obtain ⟨h3,h4,h5⟩:=o.vs _ hl _ hz
      simp_all [List.getLast?_eq_some_getLast,secS]
     ·exact os.vs x hx y hy
    ·intro x hx y hy;rcases mset_mem hx with rfl|hx
     ·obtain ⟨z,hz,rfl⟩:=List.mem_map.1 hy;exact o.at_ (a,l) hl z hz
     ·exact o.at_ _ hx _ hy
theorem Dk.Ok.free{c:Nat}{D:Dk}(o:D.Ok c)(a:Int)(hr:D.room+((D.ar a).length:Int)<=1099511627776):(D.free a).1.Ok (c+1):=by
 unfold Dk.free
 split
 ·exact o.up<|Nat.le_succ c
 ·split
  ·exact o.stp
  ·have os:=o.stp;have hs:=mdel_sub (k:=a) D.areas;exact ⟨(hs.map _).nodup o.keys,fun x hx=>os.ns x (hs.subset hx),fun x hx=>os.vs x (hs.subset hx),⟨by have:=o.room;dsimp only;omega,hr⟩,os.steps,os.left,fun x hx=>o.at_ x (hs.subset hx)⟩
end
section
attribute [local irreducible] Code.wp wpList Calls
def saOp(l:Sl)(o:Oper):Option (Nat×Addr×Option Int×Option Int):=
 match o.op with
 | .slice t x none none none=>match ev l x with
  | some (.pointer (some a))=>some (t,a,none,none)
  | _=>none
 | .slice t x (some lo) none none=>match ev l x,ev l lo with
  | some (.pointer (some a)),some (.int _ i)=>some (t,a,some i,none)
  | _,_=>none
 | .slice t x none (some hi) none=>match ev l x,ev l hi with
  | some (.pointer (some a)),some (.int _ i)=>some (t,a,none,some i)
  | _,_=>none
 | .slice t x (some lo) (some hi) none=>match ev l x,ev l lo,ev l hi with
  | some (.pointer (some a)),some (.int _ i),some (.int _ j)=>some (t,a,some i,some j)
  | _,_,_=>none
 | _=>none
theorem run_bound{P:Program}{w:World}{k:IntKind}{i:Int}{y:Nat}(c:BoundsCode)(H:Nat)(h:i=(H:Int))(hy:H<=y):(Instr.sliceBound (.int k i) y c).run P w=.ok H w:=by
 simp_all [Instr.sliceBound,asIntOf]
theorem sla_run{P:Program}{l:Sl}{n:Nat}{o:Oper}{t len e sz:Nat}{a:Addr}{lo hi:Option Int}(L N:Nat)(h1:saOp l o=some (t,a,lo,hi))(hu:P.underlying t=some (.array len e))(he:(P.info? e).map (·.size)=some sz)
  (hL:lo.getD 0=(L:Int)) (hH:hi.getD len=((L+N:Nat):Int)) (hN:L+N<=len) (hlt:L<len):∀ A w,Ag n l A->(execOp A.eval o).run P w=.ok (.value (.slice (some (a.add (L*sz))) N (len-L))) w:=by
 intro A w ha;cases hii:P.info? e with
 | none=>rw[hii] at he;cases he
 | some ii=>
 rw[hii] at he;have hsz:ii.size=sz:=by simpa using he
 have hne:¬len=L:=by omega
 have fin:∀ (lv hv:Option Value),(Instr.sliceBounds false len len lv hv none).run P w=.ok (L,L+N,len) w->(Instr.sliceAt t (.pointer (some a)) lv hv none).run P w=.ok (.slice (some (a.add (L*sz))) N (len-L)) w:=by
  simp_all [run_underlying,Instr.sliceAt,Instr.sureAddr,sizeOf,typeInfo]
 unfold saOp at h1
 split at h1
 ·rename_i t' x hop
  split at h1
  ·rename_i a' hx;simp only[Option.some.injEq,Prod.mk.injEq] at h1;obtain ⟨rfl,rfl,rfl,rfl⟩:=h1;simp only[execOp,hop,ha.ev hx,Option.map_none];simp only[Option.getD_none] at hL hH;rw[Sem.run_bind,fin none none (by unfold Instr.sliceBounds;simp;omega)]
   rfl
  ·simp at h1
 ·rename_i t' x lo' hop
  split at h1
  ·rename_i a' k i hx hlo;simp only[Option.some.injEq,Prod.mk.injEq] at h1;obtain ⟨rfl,rfl,rfl,rfl⟩:=h1;simp only[execOp,hop,ha.ev hx,ha.ev hlo,Option.map_none,Option.map_some];simp only[Option.getD_none,Option.getD_some] at hL hH
   rw[Sem.run_bind,fin (some _) none (by
    have hb:(Instr.sliceBound (.int k i) len .sliceB).run P w=.ok L w:=run_bound _ L hL qo;unfold Instr.sliceBounds;simp[Sem.run_bind,Result.andThen,hb];omega)]
   rfl
  ·simp at h1
 ·rename_i t' x hi' hop
  split at h1
  ·rename_i a' k i hx hlo;simp only[Option.some.injEq,Prod.mk.injEq] at h1;obtain ⟨rfl,rfl,rfl,rfl⟩:=h1;simp only[execOp,hop,ha.ev hx,ha.ev hlo,Option.map_none,Option.map_some];simp only[Option.getD_none,Option.getD_some] at hL hH;have hL0:L=0:=by omega
   rw[Sem.run_bind,fin none (some _) (by
    have hb:(Instr.sliceBound (.int k i) len .sliceAlen).run P w=.ok (L+N) w:=run_bound _ (L+N) hH hN
    simp_all [Instr.sliceBounds])]
   rfl
  ·simp at h1
 ·rename_i t' x lo' hi' hop
  split at h1
  ·rename_i a' k i k2 j hx hlo hhi;simp only[Option.some.injEq,Prod.mk.injEq] at h1;obtain ⟨rfl,rfl,rfl,rfl⟩:=h1;simp only[execOp,hop,ha.ev hx,ha.ev hlo,ha.ev hhi,Option.map_none,Option.map_some];simp only[Option.getD_some] at hL hH
   rw[Sem.run_bind,fin (some _) (some _) (by
    have hb:(Instr.sliceBound (.int k2 j) len .sliceAlen).run P w=.ok (L+N) w:=run_bound _ (L+N) hH hN;have hb2:(Instr.sliceBound (.int k i) (L+N) .sliceB).run P w=.ok L w:=run_bound _ L hL qo
    simp_all [Instr.sliceBounds])]
   rfl
  ·simp at h1
 ·simp at h1
section rules
variable {P:Program} {T:Tab} {w0:World} {ops:Array Oper} {Q:Exit->Act->World->Prop} {rest rest':List Oper} {n:Nat} {l l':Sl} {K:PH} {hs:List PH}
theorem sla[hT:TabOK P T](k:Nat){d:Nat}{o:Oper}{t len e sz:Nat}{a:Addr}{lo hi:Option Int}(L N:Nat)(h0:ovAt T ops n k rest l=some (d,o,rest',l'))(h1:saOp l' o=some (t,a,lo,hi))(hu:P.underlying t=some (.array len e))(he:(P.info? e).map (·.size)=some sz)
  (hL:lo.getD 0=(L:Int)) (hH:hi.getD len=((L+N:Nat):Int)) (hN:L+N<=len) (hlt:L<len) (hk:WL P w0 ops Q rest' n ((d,.slice (some (a.add (L*sz))) N (len-L))::l') K hs):WL P w0 ops Q rest n l K hs:=
 opr k h0 (fun A w ha _=>sla_run L N h1 hu he hL hH hN hlt A w ha) hk
theorem dsla{plan plan':List Nat}{z:Nat}{listed listed':Array Bool}{K0:PH}{A:List PH}[hT:TabOK P T](hsel:Region.noSelect ops=true)(k:Nat){d:Nat}{o:Oper}{t len e sz:Nat}{a:Addr}{lo hi:Option Int}(L N:Nat)(h0:dlkAt T ops n z k plan listed l=some (d,o,plan',listed',l'))(h1:saOp l' o=some (t,a,lo,hi))(hu:P.underlying t=some (.array len e))(he:(P.info? e).map (·.size)=some sz)
  (hL:lo.getD 0=(L:Int)) (hH:hi.getD len=((L+N:Nat):Int)) (hN:L+N<=len) (hlt:L<len) (hk:WA P w0 ops Q K0 A z plan' listed' n ((d,.slice (some (a.add (L*sz))) N (len-L))::l') K hs):WA P w0 ops Q K0 A z plan listed n l K hs:=
 dopr hsel k h0 (fun A w ha _=>sla_run L N h1 hu he hL hH hN hlt A w ha) hk
def dlwAt(T:Tab)(ops:Array Oper)(n z k:Nat)(plan:List Nat)(L:Array Bool)(l:Sl):Option (Nat×Nat×Oper×List Nat×Array Bool×Sl):=
 match headAt T ops n z k plan L l with
 | some (p,o,r,L',l')=>match Nat.beq (p % 2) 0,Nat.beq (p / 2) z,gOK ops l' o.guard,o.dst with
  | true,false,some true,some d=>match Nat.blt d n with
   | true=>some (p,d,o,r,L'.setIfInBounds (p / 2) true,l')
   | false=>none
  | _,_,_,_=>none
 | none=>none
theorem doprw{plan plan':List Nat}{z:Nat}{listed listed':Array Bool}{K0:PH}{A:List PH}[hT:TabOK P T](hsel:Region.noSelect ops=true)(k:Nat){p d:Nat}{o:Oper}{v:Value}(h0:dlwAt T ops n z k plan listed l=some (p,d,o,plan',listed',l'))(hwf:cond (Nat.blt z ops.size) (Region.waitsFor .any ops z (p / 2)) true=true)
  (hv:∀ a w,Ag n l' a->HasL K0 A w->(execOp a.eval o).run P w=.ok (.value v) w) (hk:WA P w0 ops Q K0 A z plan' listed' n ((d,v)::l') K hs):WA P w0 ops Q K0 A z plan listed n l K hs:=by
 unfold dlwAt at h0
 split at h0
 ·rename_i p' o' r L' l2 hh
  split at h0
  ·rename_i dd hp hz hg hd
   split at h0
   ·rename_i hb;simp only[Option.some.injEq,Prod.mk.injEq] at h0;obtain ⟨rfl,rfl,rfl,rfl,rfl,rfl⟩:=h0;obtain ⟨g1,g2⟩:=headAt_spec hh;refine WA.pures hsel k g1 ?_;have hp2:p'=2*(p' / 2):=by have:=Nat.eq_of_beq_eq_true hp;omega
    rw[hp2];refine WA.look g2 hsel hz hd hb (fun A' ha=>.inl ⟨gOK_wanted ha hg,fun w hw=>?_⟩) hk;obtain ⟨L,hcl,hun,hst⟩:=hw;exact hv A' w ha (hst (closed_waits hcl hun hwf))
   ·simp at h0
  ·simp at h0
 ·simp at h0
theorem dslaw{plan plan':List Nat}{z:Nat}{listed listed':Array Bool}{K0:PH}{A:List PH}[hT:TabOK P T](hsel:Region.noSelect ops=true)(k:Nat){p d:Nat}{o:Oper}{t len e sz:Nat}{a:Addr}{lo hi:Option Int}(L N:Nat)(h0:dlwAt T ops n z k plan listed l=some (p,d,o,plan',listed',l'))(hwf:cond (Nat.blt z ops.size) (Region.waitsFor .any ops z (p / 2)) true=true)(h1:saOp l' o=some (t,a,lo,hi))(hu:P.underlying t=some (.array len e))(he:(P.info? e).map (·.size)=some sz)
  (hL:lo.getD 0=(L:Int)) (hH:hi.getD len=((L+N:Nat):Int)) (hN:L+N<=len) (hlt:L<len) (hk:WA P w0 ops Q K0 A z plan' listed' n ((d,.slice (some (a.add (L*sz))) N (len-L))::l') K hs):WA P w0 ops Q K0 A z plan listed n l K hs:=
 doprw hsel k h0 hwf (fun A w ha _=>sla_run L N h1 hu he hL hH hN hlt A w ha) hk
def cvOp(l:Sl)(o:Oper):Option (Nat×Nat×(Option Addr×Nat×Nat)):=
 match o.op with
 | .convert t t' x=>match ev l x with
  | some (.slice ao m c)=>some (t,t',(ao,m,c))
  | _=>none
 | _=>none
theorem dcvsw{plan plan':List Nat}{z:Nat}{listed listed':Array Bool}{K0:PH}{A:List PH}[hT:TabOK P T](hsel:Region.noSelect ops=true)(k:Nat){p d t t' m c:Nat}{o:Oper}{ao:Option Addr}{h:PH}(xs:List UInt8)(h0:dlwAt T ops n z k plan listed l=some (p,d,o,plan',listed',l'))(hwf:cond (Nat.blt z ops.size) (Region.waitsFor .any ops z (p / 2)) true=true)(h1:cvOp l' o=some (t,t',(ao,m,c)))(hm:In K0 A h)
  (x:IsS h ao m c 1 (xs.map fun b=>Value.int .u8 b.toNat)) (hs':isStr P t t'=true)
  (hk:WA P w0 ops Q K0 A z plan' listed' n ((d,str xs)::l') K hs):WA P w0 ops Q K0 A z plan listed n l K hs:=by
 refine doprw hsel k h0 hwf (fun A' w ha hw=>?_) hk;unfold cvOp at h1
 split at h1
 ·rename_i t1 t2 y hop
  split at h1
  ·rename_i ao' m' c' hx;simp only[Option.some.injEq,Prod.mk.injEq] at h1;obtain ⟨rfl,rfl,rfl,rfl,rfl⟩:=h1
   have h2:=run_toStr (P:=P) (w:=w) (c:=c') hs' xs (by have:=x.1;simpa using this) (fun j u hj=>by
    obtain ⟨a,h3,h4⟩:=x.2.2 j u hj;exact ⟨a,h3,hw.cell hm h4⟩)
   simp only[execOp,hop,ha.ev hx];simp[h2]
  ·simp at h1
 ·simp at h1
def luOp(l:Sl)(o:Oper):Option (Nat×Value×Value×Bool):=
 match o.op with
 | .lookup t x y ok=>match ev l x,ev l y with
  | some u,some v=>some (t,u,v,ok)
  | _,_=>none
 | _=>none
theorem luOp_spec{l:Sl}{n:Nat}{o:Oper}{t:Nat}{u v:Value}{ok:Bool}(h:luOp l o=some (t,u,v,ok)):∀ a,Ag n l a->execOp a.eval o=(do let x <- Instr.lookup t u v ok;pure (.value x)):=by
 intro a ha;unfold luOp at h
 split at h
 ·rename_i t' x y ok' hop
  split at h
  ·rename_i u' v' hx hy;simp only[Option.some.injEq,Prod.mk.injEq] at h;obtain ⟨rfl,rfl,rfl,rfl⟩:=h;simp only[execOp,hop,ha.ev hx,ha.ev hy]
  ·simp at h
 ·simp at h
theorem dlkuw{κ ν:Type}[DecidableEq κ]{enc:κ->Value}{encv:ν->Value}{h:PH}{b:Nat}{m:List (κ×ν)}{plan plan':List Nat}{z:Nat}{listed listed':Array Bool}{K0:PH}{A:List PH}[hT:TabOK P T](hsel:Region.noSelect ops=true)(k:Nat){p d t kt et:Nat}{o:Oper}{zv v:Value}{ok:Bool}(j:κ)(h0:dlwAt T ops n z k plan listed l=some (p,d,o,plan',listed',l'))(hwf:cond (Nat.blt z ops.size) (Region.waitsFor .any ops z (p / 2)) true=true)(h1:luOp l' o=some (t,.map (some b),v,ok))(hu:P.underlying t=some (.map kt et))(hz:(P.info? et).bind (·.zero)=some zv)(hK:KeyOK P kt enc)(hv:v=enc j)(hin:In K0 A h)(hm:MpO enc encv h b m)
  (hk:WA P w0 ops Q K0 A z plan' listed' n ((d,lkV ok (match mget j m with|some v=>encv v|none=>zv) (mget j m).isSome)::l') K hs):WA P w0 ops Q K0 A z plan listed n l K hs:=by
 subst hv;refine doprw hsel k h0 hwf (fun a w ha hw=>?_) hk;have:=run_lookup (P:=P) hu hK hz hm (hw.inn hin) j ok;rw[luOp_spec h1 a ha,Sem.run_bind,this]
 rfl
def mlOp(l:Sl)(o:Oper):Option (Nat×Value):=
 match o.op with
 | .call { callee:=.builtin .len,args,argTypes }=>match args.toList,argTypes.toList with
  | [x],[t]=>match ev l x with
   | some u=>some (t,u)
   | _=>none
  | _,_=>none
 | _=>none
theorem mlOp_spec{l:Sl}{n:Nat}{o:Oper}{t:Nat}{u:Value}(h:mlOp l o=some (t,u)){w:World}{N:Int}(hr:(Builtin.len_ #[t] o.type #[u]).run P w=.ok (.int .i64 N) w):∀ a,Ag n l a->(execOp a.eval o).run P w=.ok (.value (.int .i64 N)) w:=by
 intro a ha;unfold mlOp at h
 split at h
 ·rename_i args argTypes hop
  split at h
  ·rename_i x t' e1 e2
   split at h
   ·rename_i u' hx;simp only[Option.some.injEq,Prod.mk.injEq] at h;obtain ⟨rfl,rfl⟩:=h;have a1':args=#[x]:=by cases args;simp_all
    have a2':argTypes=#[t']:=by cases argTypes;simp_all
    subst a1' a2';simp only[execOp,hop];simp[resolve,invoke,builtin,ha.ev hx,hr]
   ·simp at h
  ·simp at h
 ·simp at h
theorem dmlw{κ ν:Type}[DecidableEq κ]{enc:κ->Value}{encv:ν->Value}{h:PH}{b:Nat}{m:List (κ×ν)}{plan plan':List Nat}{z:Nat}{listed listed':Array Bool}{K0:PH}{A:List PH}[hT:TabOK P T](hsel:Region.noSelect ops=true)(k:Nat){p d t kt et:Nat}{o:Oper}(h0:dlwAt T ops n z k plan listed l=some (p,d,o,plan',listed',l'))(hwf:cond (Nat.blt z ops.size) (Region.waitsFor .any ops z (p / 2)) true=true)(h1:mlOp l' o=some (t,.map (some b)))(hu:P.underlying t=some (.map kt et))(hin:In K0 A h)(hm:MpO enc encv h b m)
  (hk:WA P w0 ops Q K0 A z plan' listed' n ((d,.int .i64 (m.length:Int))::l') K hs):WA P w0 ops Q K0 A z plan listed n l K hs:=
 doprw hsel k h0 hwf (fun a w ha hw=>mlOp_spec h1 (run_maplen hu hm (hw.inn hin)) a ha) hk
theorem dmlnw{plan plan':List Nat}{z:Nat}{listed listed':Array Bool}{K0:PH}{A:List PH}[hT:TabOK P T](hsel:Region.noSelect ops=true)(k:Nat){p d t kt et:Nat}{o:Oper}(h0:dlwAt T ops n z k plan listed l=some (p,d,o,plan',listed',l'))(hwf:cond (Nat.blt z ops.size) (Region.waitsFor .any ops z (p / 2)) true=true)(h1:mlOp l' o=some (t,.map none))(hu:P.underlying t=some (.map kt et))
  (hk:WA P w0 ops Q K0 A z plan' listed' n ((d,.int .i64 0)::l') K hs):WA P w0 ops Q K0 A z plan listed n l K hs:=
 doprw hsel k h0 hwf (fun a w ha hw=>mlOp_spec h1 (by simp_all [run_underlying,Builtin.len_,goInt]) a ha) hk
def mdAt(T:Tab)(ops:Array Oper)(n k:Nat)(rest:List Oper)(l:Sl):Option (Oper×Nat×Value×Value×List Oper×Sl):=
 match opAt T ops n k rest l with
 | some (o,r,l')=>match o.dst,o.op with
  | none,.call { callee:=.builtin .delete,args,argTypes }=>match args.toList,argTypes.toList with
   | [x,y],[t,_]=>match ev l' x,ev l' y with
    | some u,some v=>some (o,t,u,v,r,l')
    | _,_=>none
   | _,_=>none
  | _,_=>none
 | none=>none
theorem mdl{κ ν:Type}[DecidableEq κ]{enc:κ->Value}{encv:ν->Value}{h:PH}{b:Nat}{m:List (κ×ν)}[hT:TabOK P T](k i:Nat){t kt et:Nat}{o:Oper}{v:Value}(j:κ)(h0:mdAt T ops n k rest l=some (o,t,.map (some b),v,rest',l'))(hi:hs[i]?=some h)(hu:P.underlying t=some (.map kt et))(hK:KeyOK P kt enc)(hv:v=enc j)(hm:MpO enc encv h b m)
  (hk:∀ h',MpO enc encv h' b (mdel j m)->WL P w0 ops Q rest' n l' K (hs.set i h')):WL P w0 ops Q rest n l K hs:=by
 unfold mdAt at h0
 split at h0
 ·rename_i o' r l2 ho
  split at h0
  ·rename_i args argTypes hd hop
   split at h0
   ·rename_i x y t' t2 e1 e2
    split at h0
    ·rename_i u v' hx hy;simp only[Option.some.injEq,Prod.mk.injEq] at h0;obtain ⟨rfl,rfl,rfl,rfl,rfl,rfl⟩:=h0;subst hv;have a1':args=#[x,y]:=by cases args;simp_all
     have a2':argTypes=#[t',t2]:=by cases argTypes;simp_all
     subst a1' a2';refine WL.at' ho fun hg=>?_;intro a w ha hw;obtain ⟨h',w',g1,g2,g3⟩:=run_delete (P:=P) hu hK hm hw hi j #[t',t2] rfl o'.type;have hw1:=gOK_wanted ha hg;unfold wpList;rw[if_pos hw1];refine .inl ?_;unfold Oper.wp
     have hrun:(execOp a.eval o').run P w=.ok (.value (.tuple #[])) w':=by
      simp only[execOp,hop];simp[resolve,invoke,builtin,ha.ev hx,ha.ev hy,g2]
     rw[hrun];simp only[Oper.upon,hd,Act.put];exact hk h' g1 _ _ ha g3
    ·simp at h0
   ·simp at h0
  ·simp at h0
 ·simp at h0
end rules
section joink
variable {P:Program} {w0:World} {Q:Exit->Act->World->Prop} {n:Nat} {l:Sl} {K:PH} {hs:List PH}
def JKK(w0:World){σ:Type}(F:σ->Sl)(HK:σ->PH)(H:σ->List PH)(J:σ->Prop)(n:Nat)(Q:Exit->Act->World->Prop):Exit->Act->World->Prop
 | .normal,a,w=>∃ s,J s/\Ag n (F s) a/\Sat w0 w (HK s) (H s)
 | e,a,w=>Q e a w
theorem jnK{σ:Type}{x y:Code}(F:σ->Sl)(HK:σ->PH)(H:σ->List PH)(J:σ->Prop)(h1:WC P w0 x (JKK w0 F HK H J n Q) n l K hs)(h2:∀ s,J s->WC P w0 y Q n (F s) (HK s) (H s)):WC P w0 (.seq x y) Q n l K hs:=
 sq fun a w ha hw=>Code.wp_mono (fun e a w h=>by
  cases e with
  | normal=>obtain ⟨s,hJ,ha,hw⟩:=h;exact h2 s hJ a w ha hw
  | _=>exact h) (h1 a w ha hw)
theorem jxK{σ:Type}{F:σ->Sl}{HK:σ->PH}{H:σ->List PH}{J:σ->Prop}(s:σ)(hJ:J s)(hF:Sub l (F s))(hK:K=HK s)(hH:hs=H s):WQ w0 (JKK w0 F HK H J n Q) .normal n l K hs:=
 fun a w ha hw=>⟨s,hJ,ha.sub hF,by rw[<-hK,<-hH];exact hw⟩
theorem jrK{σ:Type}{F:σ->Sl}{HK:σ->PH}{H:σ->List PH}{J:σ->Prop}(h:WQ w0 Q .ret n l K hs):WQ w0 (JKK w0 F HK H J n Q) .ret n l K hs:=h
end joink
end
section
def tvv(l:List (List UInt8)):List Value:=l.map str
def SecR(K:PH)(v:Value)(s:Sec):Prop:=∃ ao c,v=.agg #[.slice ao s.vs.length c,.bool s.syn]/\IsS K ao s.vs.length c 1 (tvv s.vs)
def encU(n:Int):Value:=.int .u64 n
def encI(n:Int):Value:=.int .i64 n
def encB(b:Nat):Value:=.map (some b)
def dkA(D:Dk)(bo:Nat):Array Value:=#[.int .i64 D.room,.int .i64 D.steps,.map (some bo),.int .i64 D.left,.bool D.dead]
abbrev Ins:=List (Int×Nat×PH)
def InsR(K:PH):Ins->List (Int×Ar)->Prop
 | [],[]=>True
 | x::r,y::q=>x.1=y.1/\(∃ mv,MpO encI id x.2.2 x.2.1 mv/\MR (SecR K) mv y.2)/\InsR K r q
 | _,_=>False
theorem SecR.le{K K':PH}(l:Le K K'){v:Value}{s:Sec}(h:SecR K v s):SecR K' v s:=let ⟨a,c,h1,h2⟩:=h;⟨a,c,h1,h2.le l⟩
theorem InsR.le{K K':PH}(l:Le K K'):∀ {i:Ins} {q:List (Int×Ar)},InsR K i q->InsR K' i q
 | [],[],h=>h
 | x::r,y::q,⟨h1,⟨mv,h2,h3⟩,h4⟩=>⟨h1,⟨mv,h2,h3.imp fun _ _ h=>h.le l⟩,InsR.le l h4⟩
 | [],_::_,h=>h.elim
 | _::_,[],h=>h.elim
theorem insGet{K:PH}{a:Int}:∀ {i:Ins} {q:List (Int×Ar)} {l:Ar},InsR K i q->mget a q=some l->∃ i1 bi hi mv i2 q1 q2,i=i1++(a,bi,hi)::i2/\q=q1++(a,l)::q2/\a∉q1.map (·.1)/\InsR K i1 q1/\InsR K i2 q2/\MpO encI id hi bi mv/\MR (SecR K) mv l
 | [],[],_,_,h=>by cases h
 | x::r,y::q,l,⟨h1,⟨mv,h2,h3⟩,h4⟩,h=>by
  obtain ⟨y1,y2⟩:=y;obtain ⟨x1,x2,x3⟩:=x;dsimp only at h1 h2 h3;subst h1
  by_cases e:a=x1
  ·subst e;simp only[mget,if_true,Option.some.injEq] at h;subst h;exact ⟨[],x2,x3,mv,r,[],q,I,I,by simp,trivial,h4,h2,h3⟩
  ·simp only[mget,e,if_false] at h;obtain ⟨i1,bi,hi,mv',i2,q1,q2,g1,g2,g3,g4,g5,g6,g7⟩:=insGet h4 h;exact ⟨(x1,x2,x3)::i1,bi,hi,mv',i2,(x1,y2)::q1,q2,by rw[g1];rfl,by rw[g2];rfl,by simp[e];simpa using g3,⟨rfl,⟨mv,h2,h3⟩,g4⟩,g5,g6,g7⟩
 | [],_::_,_,h,_=>h.elim
 | _::_,[],_,h,_=>h.elim
theorem insKeys{K:PH}:∀ {i:Ins} {q:List (Int×Ar)},InsR K i q->i.map (·.1)=q.map (·.1)
 | [],[],_=>rfl
 | x::r,y::q,⟨h1,_,h4⟩=>by simp[h1,insKeys h4]
 | [],_::_,h=>h.elim
 | _::_,[],h=>h.elim
theorem InsR.app{K:PH}:∀ {i j:Ins} {q r:List (Int×Ar)},InsR K i q->InsR K j r->InsR K (i++j) (q++r)
 | [],_,[],_,_,h=>h
 | x::i,_,y::q,_,⟨h1,h2,h3⟩,h=>⟨h1,h2,InsR.app h3 h⟩
 | [],_,_::_,_,h,_=>h.elim
 | _::_,_,[],_,h,_=>h.elim
theorem mset_at{κ ν:Type}[DecidableEq κ]{k:κ}{u v:ν}{q2:List (κ×ν)}:∀ {q1:List (κ×ν)},k∉q1.map (·.1)->mset k v (q1++(k,u)::q2)=q1++(k,v)::q2
 | [],_=>by simp[mset]
 | (j,w)::q1,h=>by
  simp only[List.map_cons,List.mem_cons,not_or] at h;simp only[List.cons_append,mset,h.1,if_false];rw[mset_at h.2]
theorem mdel_at{κ ν:Type}[DecidableEq κ]{k:κ}{u:ν}{q2:List (κ×ν)}:∀ {q1:List (κ×ν)},k∉q1.map (·.1)->mdel k (q1++(k,u)::q2)=q1++q2
 | [],_=>by simp[mdel]
 | (j,w)::q1,h=>by
  simp only[List.map_cons,List.mem_cons,not_or] at h;simp only[List.cons_append,mdel,h.1,if_false];rw[mdel_at h.2]
theorem mget_at{κ ν:Type}[DecidableEq κ]{k:κ}{u:ν}{q2:List (κ×ν)}:∀ {q1:List (κ×ν)},k∉q1.map (·.1)->mget k (q1++(k,u)::q2)=some u
 | [],_=>by simp[mget]
 | (j,w)::q1,h=>by
  simp only[List.map_cons,List.mem_cons,not_or] at h;simp only[List.cons_append,mget,h.1,if_false];exact mget_at h.2
theorem mset_new{κ ν:Type}[DecidableEq κ]{k:κ}{v:ν}:∀ {q:List (κ×ν)},mget k q=none->mset k v q=q++[(k,v)]
 | [],_=>rfl
 | (j,w)::q,h=>by
  by_cases e:k=j
  ·simp[mget,e] at h
  ·simp only[mget,e,if_false] at h;simp only[mset,e,if_false,List.cons_append];rw[mset_new h]
def insO(i:Ins):List (Int×Nat):=i.map fun x=>(x.1,x.2.1)
def insH(i:Ins):List PH:=i.map (·.2.2)
attribute [local irreducible] Code.wp wpList Calls
def DskM(K:PH)(b:Nat)(D:Dk)(m:List PH):Prop:=∃ bo ho ins,m=pt b (dkA D bo) 126::ho::insH ins/\MpO encU encB ho bo (insO ins)/\InsR K ins D.areas
theorem DskM.le{K K':PH}(l:Le K K'){b:Nat}{D:Dk}{m:List PH}(h:DskM K b D m):DskM K' b D m:=let ⟨bo,ho,ins,h1,h2,h3⟩:=h;⟨bo,ho,ins,h1,h2,h3.le l⟩
theorem clipSC{w0:World}{K:PH}{hs:List PH}(ao:Option Addr)(n c:Nat)(hn:n<=c):Ct Tryz.prog w0 249 [.slice ao n c] K hs (fun v K' hs'=>K'=K/\hs'=hs/\v=.slice (cutA ao n 0 1) n n):=by
 refine entA Tryz.func249 ?_;refine sl3g 5 0 n n I I (by simp) I qo hn (au ?_);exact ret1 I I ⟨I,I,I⟩
theorem keyU:KeyOK Tryz.prog 29 encU:=keyInt Tryz.underlying29
theorem keyI:KeyOK Tryz.prog 3 encI:=keyInt Tryz.underlying3
theorem stepC{w0:World}{K:PH}{hs:List PH}(b bo:Nat)(D:Dk)(h1:0<=D.steps/\D.steps<=1099511627776)(h2 : -1<=D.left/\D.left<=9223372036854775807):
  Ct Tryz.prog w0 110 [.pointer (some ⟨b,0,none⟩)] K (pt b (dkA D bo) 126::hs) (fun v K' hs'=>K'=K/\hs'=pt b (dkA D.stp bo) 126::hs/\v=.bool D.stp.dead):=by
 refine entA Tryz.func110 ?_;refine ar 0 I (i64w qo) (au ?_);refine ar 0 I (v':=.bool (decide (D.left=0))) (congrArg Value.bool (by rw[Bool.eq_iff_iff];simp)) (stp 2 0 rfl rfl rfl rfl (fin 0 rfl (th (jn (σ:=Unit) (fun _=>[(0,.pointer (some ⟨b,0,none⟩))]) (fun _=>pt b (dkA D.stp bo) 126::hs) (fun _=>True) ?_ ?_))))
 ·refine au ?_;refine cmpS 0 I fun b22 h22=>fin 0 I (th (ifP h22 I (fun e1=>?_) (fun e1=>?_)))
  ·refine au ?_;exact ar 0 I (i64w qo) (stp 2 0 I I I I (fin 0 I (jx () trivial ⟨I,trivial⟩ I (by simp only[dkA,Dk.stp,if_pos e1];rfl))))
  ·exact sk (jx () trivial ⟨I,trivial⟩ I (by simp only[dkA,Dk.stp,if_neg e1];rfl))
 ·rintro - -;refine au ?_;exact ret1 I I ⟨I,I,I⟩
end
section
theorem In.tail{K x:PH}{hs:List PH}(l:List PH)(hm:In K hs x):In K (l++hs) x:=by
 induction l with
 | nil=>exact hm
 | cons a l ih=>exact ih.cons
def ArH(K:PH)(D:Dk)(a:Int)(ins:Ins)(hs:List PH)(bi:Option Nat)(h:PH)(tl:List PH):Prop:=
 (mget a D.areas=none/\bi=none/\h=em/\tl=insH ins++hs) \/
 ∃ b i1 mv i2 q1 q2,bi=some b/\ins=i1++(a,b,h)::i2/\D.areas=q1++(a,D.ar a)::q2/\a∉q1.map (·.1)/\InsR K i1 q1/\InsR K i2 q2/\MpO encI id h b mv/\MR (SecR K) mv (D.ar a)/\tl=insH i1++(insH i2++hs)
theorem insO_keys(i:Ins):(insO i).map (·.1)=i.map (·.1):=by simp[insO]
theorem mget_insO{K:PH}{D:Dk}{a:Int}{ins:Ins}(hI:InsR K ins D.areas){hs:List PH}{bi:Option Nat}{h:PH}{tl:List PH}(x:ArH K D a ins hs bi h tl):mget a (insO ins)=bi:=by
 rcases x with ⟨h1,h2,_⟩|⟨b,i1,mv,i2,q1,q2,h1,h2,h3,h4,h5,h6,_⟩
 ·rw[h2,mget_none,insO_keys,insKeys hI];exact mget_none.1 h1
 ·rw[h1,h2];have:a∉(insO i1).map (·.1):=by rw[insO_keys,insKeys h5];exact h4
  unfold insO at this ⊢;rw[List.map_append,List.map_cons];generalize (i1.map fun x:Int×Nat×PH=>(x.1,x.2.1))=z at this ⊢
  induction z with
  | nil=>simp[mget]
  | cons y z ih=>
   simp only[List.map_cons,List.mem_cons,not_or] at this;simp only[List.cons_append,mget,this.1,if_false];exact ih this.2
theorem arH{K:PH}{D:Dk}{ins:Ins}(hI:InsR K ins D.areas)(a:Int)(hs:List PH):∃ bi h tl,ArH K D a ins hs bi h tl/\∀ P O:PH,(bi=none->(P::O::(insH ins++hs))=(P::O::tl))/\(bi≠none->(P::O::(insH ins++hs)).Perm (h::P::O::tl)):=by
 cases hg:mget a D.areas with
 | none=>exact ⟨none,em,_,.inl ⟨hg,rfl,rfl,rfl⟩,fun P O=>⟨fun _=>rfl,fun h=>absurd rfl h⟩⟩
 | some l=>
  obtain ⟨i1,bi,hi,mv,i2,q1,q2,g1,g2,g3,g4,g5,g6,g7⟩:=insGet hI hg;have hl:D.ar a=l:=by unfold Dk.ar;rw[hg];rfl
  refine ⟨some bi,hi,insH i1++(insH i2++hs),.inr ⟨bi,i1,mv,i2,q1,q2,I,g1,by rw[hl];exact g2,g3,g4,g5,g6,by rw[hl];exact g7,I⟩,fun P O=>⟨fun h=>(by cases h),fun _=>?_⟩⟩;rw[g1];unfold insH;rw[List.map_append,List.map_cons,List.append_assoc,List.cons_append];have p:(i1.map (·.2.2)++hi::(i2.map (·.2.2)++hs)).Perm (hi::(i1.map (·.2.2)++(i2.map (·.2.2)++hs))):=List.perm_middle;exact ((p.cons O).trans (List.Perm.swap hi O _)).cons P |>.trans (List.Perm.swap hi P _)
theorem cpyk(k:Nat)(bs:List UInt8):(List.take 0 (Array.replicate k (Value.int .u8 0)).toList++List.take (bs.length*1) (bv bs)++List.drop (0+bs.length*1) (Array.replicate k (Value.int .u8 0)).toList).toArray=(bv (bs++List.replicate (k-bs.length) 0)).toArray:=by
 have h1:List.take (bs.length*1) (bv bs)=bv bs:=List.take_of_length_le (by simp[bv]);rw[h1];simp[bv]
theorem cpy64(bs:List UInt8):(List.take 0 (Array.replicate 64 (Value.int .u8 0)).toList++List.take (bs.length*1) (bv bs)++List.drop (0+bs.length*1) (Array.replicate 64 (Value.int .u8 0)).toList).toArray=(bv (padS bs)).toArray:=cpyk 64 bs
attribute [local irreducible] Code.wp wpList Calls
theorem writeC{w0:World}{K hv:PH}{hs m:List PH}(b:Nat)(D:Dk)(c:Nat)(o:D.Ok c)(hc:c<=1099511627)(hm:DskM K b D m)(area n:Int)(ha:0<=area/\area<=18446744073709551615)(ao:Option Addr)(cap:Nat)(bs:List UInt8)(hin:In K hs hv)(x:IsS hv ao bs.length cap 1 (bv bs)):
  Ct Tryz.prog w0 207 [.pointer (some ⟨b,0,none⟩),.int .u64 area,.int .i64 n,.slice ao bs.length cap] K (m++hs)
   (fun v K' hs'=>Le K K'/\∃ m',hs'=m'++hs/\DskM K' b (D.write area n bs).1 m'/\v=.int .i64 (D.write area n bs).2):=by
 obtain ⟨bo,ho,ins,rfl,hO,hI⟩:=hm;obtain ⟨bi,hA,tl,hAr,hperm⟩:=arH hI area hs;have hmo:=mget_insO hI hAr;obtain ⟨old,hold⟩:∃ old,old=(D.sec area n).getD ⟨[],false⟩:=⟨_,rfl⟩;have hro:=o.room;refine ent Tryz.func207 ?_;refine sq (rg ?_)
 refine fin 1 I (th (jn (σ:=Option Addr×Nat×Nat) (fun s=>[(0,.pointer (some ⟨b,0,none⟩)),(1,.int .u64 area),(2,.int .i64 n),(3,.slice ao bs.length cap),(8,.int .i64 0),(9,.pointer (some ⟨s.2.2,0,none⟩)),(10,.bool (D.sec area n).isSome)])
  (fun s=>pt s.2.2 #[.slice s.1 old.vs.length s.2.1,.bool old.syn] 136::hA::pt b (dkA D bo) 126::ho::tl) (fun s=>IsS K s.1 old.vs.length s.2.1 1 (tvv old.vs)) ?_ ?_))
 ·cases hbi:bi with
  | none=>
   rw[hbi] at hmo hAr;rw[show ((pt b (dkA D bo) 126::ho::insH ins)++hs)=(pt b (dkA D bo) 126::ho::tl) from (hperm _ _).1 hbi];rcases hAr with ⟨g1,_,rfl,g3⟩|⟨b',_,_,_,_,_,g1,_⟩
   ·have hs0:D.sec area n=none:=by unfold Dk.sec Dk.ar;rw[g1];rfl
    rw[hs0] at hold;refine rg (WL.em (au ?_));refine lku 1 (z:=.map none) area I Tryz.underlying124 qk keyU I (.inr ⟨2,I⟩) hO ?_;rw[hmo];refine lkn 1 (z:=.agg #[.slice none 0 0,.bool false]) n I Tryz.underlying129 qk keyI I (al 3 (.agg #[.slice none 0 0,.bool false]) I qk fun b9=>?_);refine stS 0 0 I I qk I I ?_;refine fin 1 I ?_;rw[show old=⟨[],false⟩ from hold];exact jx (none,0,b9) (IsS.nil _ _ _ _) ⟨I,I,I,I,I,I,by rw[hs0];rfl,trivial⟩ rfl rfl
   ·cases g1
  | some bi=>
   rw[hbi] at hmo hAr;rcases hAr with ⟨_,g1,_⟩|⟨b',i1,mv,i2,q1,q2,g1,g2,g3,g4,g5,g6,hMv,hMR,g9⟩
   ·cases g1
   ·cases g1;refine WC.perm ((hperm _ _).2 (by rw[hbi];simp)) ?_;have hsec:D.sec area n=mget n (D.ar area):=rfl;rcases MR.get n hMR with ⟨h1,h2⟩|⟨v,s,h1,h2,aoV,cV,rfl,h3⟩
    ·rw[hsec,h2] at hold;refine au ?_;refine lku 1 (z:=.map none) area I Tryz.underlying124 qk keyU I (.inr ⟨2,I⟩) hO ?_;rw[hmo];refine lku 1 (z:=.agg #[.slice none 0 0,.bool false]) n I Tryz.underlying129 qk keyI I (.inr ⟨0,I⟩) hMv ?_;rw[h1];refine al 3 (.agg #[.slice none 0 0,.bool false]) I qk fun b9=>?_;refine stS 0 0 I I qk I I ?_;refine fin 1 I ?_;rw[show old=⟨[],false⟩ from hold];exact jx (none,0,b9) (IsS.nil _ _ _ _) ⟨I,I,I,I,I,I,by rw[hsec,h2];rfl,trivial⟩ rfl rfl
    ·rw[hsec,h2] at hold;refine au ?_;refine lku 1 (z:=.map none) area I Tryz.underlying124 qk keyU I (.inr ⟨2,I⟩) hO ?_;rw[hmo];refine lku 1 (z:=.agg #[.slice none 0 0,.bool false]) n I Tryz.underlying129 qk keyI I (.inr ⟨0,I⟩) hMv ?_;rw[h1];refine al 3 (.agg #[.slice none 0 0,.bool false]) I qk fun b9=>?_;refine stS 0 0 I I qk I I ?_;refine fin 1 I ?_;rw[show old=s from hold];exact jx (aoV,cV,b9) h3 ⟨I,I,I,I,I,I,by rw[hsec,h2];rfl,trivial⟩ rfl rfl
 ·rintro ⟨aoV,cV,b9⟩ hV;dsimp only at *
  have back:∀ (P O:PH),bi=none/\hA=em/\(P::O::tl)=(P::O::(insH ins++hs))\/(hA::P::O::tl).Perm (P::O::(insH ins++hs)):=fun P O=>by
   cases hbi:bi with
   | none=>
    left
    rcases hAr with ⟨_,_,g2,g3⟩|⟨b',_,_,_,_,_,g1,_⟩
    ·exact ⟨I,g2,by rw[g3]⟩
    ·rw[hbi] at g1;cases g1
   | some z=>exact .inr ((hperm P O).2 (by rw[hbi];simp)).symm
  have giveup:∀ {fn:Func} {R:Value->PH->List PH->Prop} {l:Sl},WQ w0 (bodyPost Tryz.prog fn (endR w0 R)) .ret 93 l K (pt b (dkA D bo) 126::ho::(insH ins++hs))->WQ w0 (bodyPost Tryz.prog fn (endR w0 R)) .ret 93 l K (pt b9 #[.slice aoV old.vs.length cV,.bool old.syn] 136::hA::pt b (dkA D bo) 126::ho::tl):=fun {fn R l} h=>by
   refine WQ.drop ?_;rcases back (pt b (dkA D bo) 126) ho with ⟨_,_,e⟩|p
   ·rw[e];exact WQ.drop h
   ·exact WQ.perm p h
  refine jn (σ:=Unit) (fun _=>[(0,.pointer (some ⟨b,0,none⟩)),(1,.int .u64 area),(2,.int .i64 n),(3,.slice ao bs.length cap),(9,.pointer (some ⟨b9,0,none⟩)),(10,.bool (D.sec area n).isSome)]) (fun _=>pt b9 #[.slice aoV old.vs.length cV,.bool old.syn] 136::hA::pt b (dkA D bo) 126::ho::tl) (fun _=>¬D.dead=true/\¬(n<0\/65536<=n\/64<bs.length)/\¬((D.sec area n).isSome=false/\D.room=0)) ?_ ?_
  ·refine bk (sq (rg (ldp 3 2 (v:=.bool D.dead) I I I ?_)));cases hdead:D.dead with
   | true=>
    refine au ?_;refine jr (giveup ?_);have e:D.write area n bs=(D,30):=by unfold Dk.write;rw[if_pos hdead]
    rw[e];exact ret1 I I ⟨Le.refl _,_,I,⟨bo,ho,ins,I,hO,hI⟩,I⟩
   | false=>
    refine fin 1 I (th (ifF I ?_));have hd0:¬D.dead=true:=by rw[hdead];simp
    refine sq<|rg (cmp 1 I (fun h2=>?_) (fun h2=>?_))
    ·refine au ?_;refine jr (giveup ?_);have e:D.write area n bs=(D,31):=by unfold Dk.write;rw[if_neg hd0,if_pos (.inl h2)]
     rw[e];exact ret1 I I ⟨Le.refl _,_,I,⟨bo,ho,ins,I,hO,hI⟩,I⟩
    ·refine cmp 2 I (fun h3=>?_) (fun h3=>?_)
     ·refine au ?_;refine jr (giveup ?_);have e:D.write area n bs=(D,31):=by unfold Dk.write;rw[if_neg hd0,if_pos (.inr (.inl qo))]
      rw[e];exact ret1 I I ⟨Le.refl _,_,I,⟨bo,ho,ins,I,hO,hI⟩,I⟩
     ·refine cmp 4 I (fun h4=>?_) (fun h4=>?_)
      ·refine au ?_;refine jr (giveup ?_);have e:D.write area n bs=(D,31):=by unfold Dk.write;rw[if_neg hd0,if_pos (.inr (.inr qo))]
       rw[e];exact ret1 I I ⟨Le.refl _,_,I,⟨bo,ho,ins,I,hO,hI⟩,I⟩
      ·have hnf:¬(n<0\/65536<=n\/64<bs.length):=by omega
       refine fin 2 I<|th (ifF I ?_)
       by_cases hfull:(D.sec area n).isSome=false/\D.room=0
       ·refine sq (rg ?_);rw[hfull.1];refine au ?_;refine cmp 0 I (fun h5=>au ?_) (fun h5=>absurd hfull.2 h5);refine jr (giveup ?_);have e:D.write area n bs=(D,32):=by unfold Dk.write;rw[if_neg hd0,if_neg hnf,if_pos hfull]
        rw[e];exact ret1 I I ⟨Le.refl _,_,I,⟨bo,ho,ins,I,hO,hI⟩,I⟩
       ·refine sq (rg ?_);have hg:¬D.dead=true/\¬(n<0\/65536<=n\/64<bs.length)/\¬((D.sec area n).isSome=false/\D.room=0):=⟨hd0,hnf,hfull⟩;cases hse:(D.sec area n).isSome with
        | true=>
         refine fin 10 I (th (ifF I (sk (bl ?_))));exact jx () (by rw[hse,hdead] at hg;exact hg) ⟨I,I,I,I,I,I,trivial⟩ I I
        | false=>
         refine au ?_;refine cmp 0 I (fun h5=>absurd ⟨hse,h5⟩ hfull) (fun h5=>fin 2 I (th (ifF I (sk (bl ?_)))));exact jx () (by rw[hse,hdead] at hg;exact hg) ⟨I,I,I,I,I,I,trivial⟩ I I
  ·rintro-⟨hd0,hnf,hfull⟩;have e:D.write area n bs=((D.laid area n bs).stp,if (D.laid area n bs).stp.dead=true then 30 else 0):=by unfold Dk.write;rw[if_neg hd0,if_neg hnf,if_neg hfull]
   rw[e];obtain ⟨D1,hD1⟩:∃ D1:Dk,D1={ D with room:=if (D.sec area n).isSome=true then D.room else D.room-1 }:=⟨_,rfl⟩;refine jn (σ:=Unit) (fun _=>[(0,.pointer (some ⟨b,0,none⟩)),(1,.int .u64 area),(2,.int .i64 n),(3,.slice ao bs.length cap),(9,.pointer (some ⟨b9,0,none⟩)),(10,.bool (D.sec area n).isSome)]) (fun _=>pt b9 #[.slice aoV old.vs.length cV,.bool old.syn] 136::hA::pt b (dkA D1 bo) 126::ho::tl) (fun _=>True) ?_ ?_
   ·refine sq (rg ?_);cases hse:(D.sec area n).isSome with
    | true=>
     refine fin 2 I (th (ifF I (sk ?_)));exact jx () trivial ⟨I,I,I,I,I,I,trivial⟩ I (by rw[hD1,if_pos hse])
    | false=>
     have hr0:0<D.room:=by
      have:¬D.room=0:=fun h=>hfull ⟨hse,h⟩;omega
     refine au ?_;refine ar 0 I (i64w qo) (stp 2 2 I I I I (fin 0 I ?_));exact jx () trivial ⟨I,I,I,I,I,I,trivial⟩ I (by rw[hD1,if_neg (by rw[hse];simp)];rfl)
   ·rintro - -
    refine jn (σ:=PH×PH×List PH) (fun _=>[(0,.pointer (some ⟨b,0,none⟩)),(1,.int .u64 area),(2,.int .i64 n),(3,.slice ao bs.length cap),(9,.pointer (some ⟨b9,0,none⟩)),(10,.bool (D.sec area n).isSome)]) (fun s=>pt b9 #[.slice aoV old.vs.length cV,.bool old.syn] 136::s.1::pt b (dkA D1 bo) 126::s.2.1::s.2.2)
     (fun s=>∃ i1 bi mv i2 q1 q2,MpO encI id s.1 bi mv/\MR (SecR K) mv (D.ar area)/\MpO encU encB s.2.1 bo (insO (i1++(area,bi,s.1)::i2))/\InsR K i1 q1/\InsR K i2 q2/\area∉q1.map (·.1)/\(∀ l,mset area l D.areas=q1++(area,l)::q2)/\s.2.2=insH i1++(insH i2++hs)) ?_ ?_
    ·refine au ?_;refine lku 1 (z:=.map none) area I Tryz.underlying124 qk keyU I (.inr ⟨3,I⟩) hO ?_;rw[hmo];cases hbi:bi with
     | none=>
      rw[hbi] at hmo hAr;rcases hAr with ⟨g1,_,rfl,rfl⟩|⟨b',_,_,_,_,_,g1,_⟩
      ·refine cbS 0 True I (by simp) fun b65 h65=>fin 0 I (th (ifP h65 I (fun _=>au ?_) (fun h=>absurd trivial h)));refine mkm 1 I fun bm=>mpu 0 4 area bm I I Tryz.underlying124 keyU I I hO fun ho' hO'=>fin 0 I (WQ.perm (perm_front _ 2 _ I) (WQ.drop (WQ.perm (List.Perm.swap _ _ _) (jx (sg bm (.map #[] 0),ho',insH ins++hs) ⟨ins,bm,[],[],D.areas,[],MpO.empty _ _,?_,?_,hI,trivial,mget_none.1 g1,fun l=>by rw[mset_new g1],I⟩ ⟨I,I,I,I,I,I,trivial⟩ I I))))
       ·unfold Dk.ar;rw[g1];trivial
       ·rw[mset_new hmo] at hO';simpa[insO] using hO'
      ·cases g1
     | some bi=>
      rw[hbi] at hmo hAr;rcases hAr with ⟨_,g1,_⟩|⟨b',i1,mv,i2,q1,q2,g1,g2,g3,g4,g5,g6,hMv,hMR,g9⟩
      ·cases g1
      ·cases g1;refine cbS 0 False I (by simp[encB]) fun b65 h65=>fin 0 I (th (ifP h65 I (fun h=>h.elim) (fun _=>sk (jx (hA,ho,tl) ⟨i1,bi,mv,i2,q1,q2,hMv,hMR,by rw[<-g2];exact hO,g5,g6,g4,fun l=>?_,g9⟩ ⟨I,I,I,I,I,I,trivial⟩ I I))));rw[g3];exact mset_at g4
    ·rintro ⟨hA1,ho1,tl1⟩ ⟨i1,bi1,mv,i2,q1,q2,hMv,hMR,hO1,g5,g6,g4,hset,rfl⟩;dsimp only at *;have hb64:bs.length<=64:=by omega
     have hk:old.vs.length<=c:=by
      cases hs0:D.sec area n with
      | none=>rw[hold,hs0];simp
      | some s=>rw[hold,hs0];exact (o.secOk hs0).2.1
     have hnone:aoV=none->old.vs.length=0:=fun h=>by
      rcases Nat.eq_zero_or_pos old.vs.length with h2|h2
      ·exact h2
      ·obtain ⟨a,ha⟩:=hV.addr h2 (by decide);rw[h] at ha;cases ha
     have xC:IsS K (cutA aoV old.vs.length 0 1) old.vs.length old.vs.length 1 (tvv old.vs):=by rw[cutA_0];exact ⟨hV.1,Nat.le_refl _,hV.2.2⟩
     refine sq (rg (al 0 (.agg (Array.replicate 64 (.int .u8 0))) I qk fun b11=>au ?_));refine sla 0 (sz:=1) 0 64 I I Tryz.underlying245 qk I I (Nat.le_refl _) (by decide) ?_;simp only[add_mk,Nat.zero_mul,Nat.add_zero];refine cpy 1 0 bs.length I I I (In.tail (_::_::_::_::_::insH i1) (In.tail (insH i2) hin)) x qo (fun u hu=>bv_one bs u (List.mem_of_mem_take hu)) (by show 0+bs.length*1<=64;omega) ?_;refine WL.hs (pt b11 (bv (padS bs)).toArray 245::pt b9 #[.slice aoV old.vs.length cV,.bool old.syn] 136::hA1::pt b (dkA D1 bo) 126::ho1::(insH i1++(insH i2++hs))) (congrArg (fun z=>pt b11 z 245::pt b9 #[.slice aoV old.vs.length cV,.bool old.syn] 136::hA1::pt b (dkA D1 bo) 126::ho1::(insH i1++(insH i2++hs))) (cpy64 bs)) ?_
     have xW:IsS (pt b11 (bv (padS bs)).toArray 245) (some ⟨b11,0,none⟩) 64 64 1 ((padS bs).map fun b=>Value.int .u8 b.toNat):=by
      have:=(Own.ofPt (b:=b11) (c:=(bv (padS bs)).toArray) (e:=245) (n:=64) (size:=1) (by simp[bv,padS_len hb64]) (by simp[maxLen])).isS;simpa[bv] using this
     refine fin 0 I (th (jnK (σ:=PH×Option Addr×Nat) (fun _=>[(0,.pointer (some ⟨b,0,none⟩)),(1,.int .u64 area),(2,.int .i64 n),(9,.pointer (some ⟨b9,0,none⟩))]) (fun s=>s.1) (fun s=>pt b9 #[.slice s.2.1 (old.vs.length+1) s.2.2,.bool old.syn] 136::hA1::pt b (dkA D1 bo) 126::ho1::(insH i1++(insH i2++hs)))
      (fun s=>Le K s.1/\IsS s.1 s.2.1 (old.vs.length+1) s.2.2 1 (tvv (old.vs++[padS bs]))) ?_ ?_))
     ·refine rgm [1,0] 8 [0,2,6,8,5,11,13,14,17] ?_;refine au ?_;refine dslaw qk 0 (sz:=1) 0 64 I qk I Tryz.underlying245 qk I I (Nat.le_refl _) (by decide) ?_;simp only[add_mk,Nat.zero_mul,Nat.add_zero];refine dcvsw qk 0 (padS bs) I qk I (.inr ⟨1,I⟩) xW qk (dfork 5 qk 0 [5,13,14,17] I qk ?_ ?_)
      ·refine cl 0 I (clipSC aoV old.vs.length cV hV.2.1) ?_;rintro v77 K77 hs77 ⟨rfl,rfl,rfl⟩;exact dnx (by simp) I (dact qk 0 I (lit 0 #[str (padS bs)] I (by decide) qk fun b80=>dnx (by simp) I (dact qk 0 I (appf 0 I (.inl I) xC (by rw[cutA_0];exact hnone) (.inr ⟨0,I⟩) (Own.ofPt (b:=b80) (c:=#[str (padS bs)]) (e:=9) (n:=1) (size:=1) I (by simp[maxLen])).isS I (by decide) qo (by show (old.vs.length+1)*16<=_;omega) (by simp only[maxLen];omega) fun ao81 c81 g81 o81=>WL.frz fun K2 le2 l2=>WL.drop (dnxL (by simp) le2 (dact qk 1 rfl (stp 0 1 rfl rfl rfl rfl (dnext (.inl qk) (dend qk 0 rfl (WQ.drop (jxK (K2,ao81,c81) ⟨le2,by simpa[tvv] using o81.isS.le l2⟩ ⟨rfl,rfl,rfl,rfl,trivial⟩ rfl rfl)))))))))))
      ·refine lit 0 #[str (padS bs)] I (by decide) qk fun b80=>dnx (by simp) I (dact qk 0 I (cl 0 I (clipSC aoV old.vs.length cV hV.2.1) ?_));rintro v77 K77 hs77 ⟨rfl,rfl,rfl⟩;exact dnx (by simp) I (dact qk 0 I (appf 0 I (.inl I) xC (by rw[cutA_0];exact hnone) (.inr ⟨0,I⟩) (Own.ofPt (b:=b80) (c:=#[str (padS bs)]) (e:=9) (n:=1) (size:=1) I (by simp[maxLen])).isS I (by decide) qo (by show (old.vs.length+1)*16<=_;omega) (by simp only[maxLen];omega) fun ao81 c81 g81 o81=>WL.frz fun K2 le2 l2=>WL.drop (dnxL (by simp) le2 (dact qk 1 rfl (stp 0 1 rfl rfl rfl rfl (dnext (.inl qk) (dend qk 0 rfl (WQ.drop (jxK (K2,ao81,c81) ⟨le2,by simpa[tvv] using o81.isS.le l2⟩ ⟨rfl,rfl,rfl,rfl,trivial⟩ rfl rfl)))))))))
     ·rintro ⟨K2,ao81,c81⟩ ⟨le2,x81⟩;dsimp only at *
      have hsec2:SecR K2 (.agg #[.slice ao81 (old.vs.length+1) c81,.bool old.syn]) (secW (D.sec area n) bs):=by
       refine ⟨ao81,c81,?_,?_⟩
       ·unfold secW;rw[<-hold];simp
       ·unfold secW;rw[<-hold];simpa using x81
      refine sq (rga [pt b (dkA D1 bo) 126,ho1,pt b9 #[.slice ao81 (old.vs.length+1) c81,.bool old.syn] 136] 9 [0,2,4,6,8,10,12,14,17] (by simp) qk qk (au ?_));refine dlku qk 1 (zv:=.map none) area I Tryz.underlying124 qk keyU I (.inr ⟨1,I⟩) hO1 ?_
      have hmo1:mget area (insO (i1++(area,bi1,hA1)::i2))=some bi1:=by
       have h0:area∉(insO i1).map (·.1):=by rw[insO_keys,insKeys g5];exact g4
       have:=mget_at (u:=bi1) (q2:=insO i2) h0;simpa[insO] using this
      rw[hmo1];refine dldS qk 1 2 I qk I qk (dact qk 0 I (mpu 0 1 n (.agg #[.slice ao81 (old.vs.length+1) c81,.bool old.syn]) I I Tryz.underlying129 keyI I I hMv fun hA2 hMv2=>dnx (by simp) I (dend qk 0 I (th (WC.drop (WC.perm (List.Perm.swap _ _ _) (sq (sq (rg ?_)))))))));have e1:dkA D1 bo=dkA (D.laid area n bs) bo:=by rw[hD1];rfl
      refine WL.hs (pt b (dkA (D.laid area n bs) bo) 126::hA2::ho1::(insH i1++(insH i2++hs))) (by rw[e1]) (cl 1 I (stepC b bo (D.laid area n bs) (by have:=o.steps;simp only[Dk.laid];omega) o.left) ?_);rintro v92 K92 hs92 ⟨rfl,rfl,rfl⟩
      have fin:∀ {fn:Func} {R:Value->PH->List PH->Prop} {l:Sl},(∀ m',DskM K92 b (D.laid area n bs).stp m'->WQ w0 (bodyPost Tryz.prog fn (endR w0 R)) .ret 93 l K92 (m'++hs))->WQ w0 (bodyPost Tryz.prog fn (endR w0 R)) .ret 93 l K92 (pt b (dkA (D.laid area n bs).stp bo) 126::hA2::ho1::(insH i1++(insH i2++hs))):=fun {fn R l} h=>by
       have hm':DskM K92 b (D.laid area n bs).stp (pt b (dkA (D.laid area n bs).stp bo) 126::ho1::insH (i1++(area,bi1,hA2)::i2)):=by
        refine ⟨bo,ho1,i1++(area,bi1,hA2)::i2,I,by simpa[insO] using hO1,?_⟩;show InsR K92 _ (mset area (mset n (secW (D.sec area n) bs) (D.ar area)) D.areas);rw[hset];exact (g5.le le2).app ⟨I,⟨_,hMv2,MR.set hsec2 (hMR.imp fun _ _ h=>h.le le2)⟩,g6.le le2⟩
       refine WQ.perm ?_ (h _ hm');unfold insH;rw[List.map_append,List.map_cons,List.cons_append,List.cons_append,List.append_assoc,List.cons_append];exact ((List.Perm.swap ho1 hA2 _).trans (List.perm_middle.symm.cons ho1)).cons _
      cases hst:(D.laid area n bs).stp.dead with
      | true=>
       exact WL.perm (List.Perm.refl _)<|En.fin 0 I (th<|ifT I (sq<|rg (En.fin 1 I<|th (rt<|rT (fin fun m' hm'=>ret1 I I ⟨le2,m',I,hm',I⟩)))))
      | false=>
       exact En.fin 0 I<|th (ifF I<|sk (th<|sq (rg<|En.fin 1 I (th<|rt (fin fun m' hm'=>ret1 I I ⟨le2,m',I,hm',I⟩)))))
end
section
theorem mdel_none{κ ν:Type}[DecidableEq κ]{k:κ}:∀ {q:List (κ×ν)},mget k q=none->mdel k q=q
 | [],_=>rfl
 | (j,w)::q,h=>by
  by_cases e:k=j
  ·simp[mget,e] at h
  ·simp only[mget,e,if_false] at h;simp only[mdel,e,if_false];rw[mdel_none h]
attribute [local irreducible] Code.wp wpList Calls
def dk0(r:Int):Dk:=⟨r,0,[],-1,false⟩
theorem dk0_ok{r:Int}(h:0<=r/\r<=1099511627776):(dk0 r).Ok 0:=⟨by simp[dk0],by simp[dk0],by simp[dk0],h,by simp[dk0],by simp[dk0],by simp[dk0]⟩
theorem newDC{w0:World}{K:PH}{hs:List PH}(r:Int)(hr:0<=r/\r<=1099511627776):Ct Tryz.prog w0 47 [.int .i64 r] K hs
  (fun v K' hs'=>K'=K/\∃ b m,hs'=m++hs/\DskM K b (dk0 r) m/\v=.pointer (some ⟨b,0,none⟩)):=by
 refine entA Tryz.func47 ?_;refine ar 1 I (v':=.int .i64 r) (by rw[show (if r<0 then (0:Int) else r)=r from by rw[if_neg qo]]) (mkm 0 I fun bm=>bd 0 (.agg (dkA (dk0 r) bm)) I (fun w=>by kernel_rfl) (bx 0 I fun b7=>au ?_));exact ret1 I I ⟨I,b7,_,I,⟨bm,_,[],I,MpO.empty _ _,trivial⟩,I⟩
theorem deadC{w0:World}{K:PH}{hs m:List PH}(b:Nat)(D:Dk)(hm:DskM K b D m):Ct Tryz.prog w0 100 [.pointer (some ⟨b,0,none⟩)] K (m++hs)
  (fun v K' hs'=>K'=K/\hs'=m++hs/\v=.bool D.dead):=by
 obtain ⟨bo,ho,ins,rfl,hO,hI⟩:=hm;refine ent Tryz.func100 ?_;refine sq (rg (fin 1 I (th (sq (rg (ldp 3 0 (v:=.bool D.dead) I I I (au ?_)))))));exact ret1 I I ⟨I,I,I⟩
theorem readDC{w0:World}{K:PH}{hs m:List PH}(b:Nat)(D:Dk)(c:Nat)(o:D.Ok c)(hc:c<=1099511627)(hm:DskM K b D m)(area n:Int):
  Ct Tryz.prog w0 109 [.pointer (some ⟨b,0,none⟩),.int .u64 area,.int .i64 n] K (m++hs)
   (fun v K' hs'=>Le K K'/\hs'=m++hs/\((D.read area n=none/\v=.tuple #[.slice none 0 0,.bool false]) \/
    ∃ bs ao cap,D.read area n=some bs/\bs.length=64/\v=.tuple #[.slice ao bs.length cap,.bool true]/\IsS K' ao bs.length cap 1 (bv bs))):=by
 obtain ⟨bo,ho,ins,rfl,hO,hI⟩:=hm;obtain ⟨bi,hA,tl,hAr,hperm⟩:=arH hI area hs;have hmo:=mget_insO hI hAr;refine ent Tryz.func109 ?_;refine sq (rg (fin 2 I (th ?_)));cases hbi:bi with
 | none=>
  rw[hbi] at hmo hAr;rcases hAr with ⟨g1,_,rfl,g3⟩|⟨b',_,_,_,_,_,g1,_⟩
  ·have hs0:D.read area n=none:=by unfold Dk.read Dk.sec Dk.ar;rw[g1];rfl
   refine au ?_;refine lku 1 (z:=.map none) area I Tryz.underlying124 qk keyU I (.inr ⟨1,I⟩) hO ?_;rw[hmo];refine lkn 1 (z:=.agg #[.slice none 0 0,.bool false]) n I Tryz.underlying129 qk keyI I (al 3 (.agg #[.slice none 0 0,.bool false]) I qk fun b9=>?_);refine stS 0 0 I I qk I I ?_;exact fin 1 I (th (sq (sq (rg (fin 2 I (th (ifT I (sq (rg (fin 2 I (th (rt (rT (WQ.drop (ret2 I I I ⟨Le.refl _,I,.inl ⟨hs0,I⟩⟩)))))))))))))))
  ·cases g1
 | some bi=>
  rw[hbi] at hmo hAr;rcases hAr with ⟨_,g1,_⟩|⟨b',i1,mv,i2,q1,q2,g1,g2,g3,g4,g5,g6,hMv,hMR,g9⟩
  ·cases g1
  ·cases g1;have hp:=(hperm (pt b (dkA D bo) 126) ho).2 (by rw[hbi];simp);refine WC.perm hp ?_;have hsec:D.sec area n=mget n (D.ar area):=rfl;rcases MR.get n hMR with ⟨h1,h2⟩|⟨v,s,h1,h2,aoV,cV,rfl,h3⟩
   ·have hs0:D.read area n=none:=by unfold Dk.read;rw[hsec,h2];rfl
    refine au ?_;refine lku 1 (z:=.map none) area I Tryz.underlying124 qk keyU I (.inr ⟨2,I⟩) hO ?_;rw[hmo];refine lku 1 (z:=.agg #[.slice none 0 0,.bool false]) n I Tryz.underlying129 qk keyI I (.inr ⟨0,I⟩) hMv ?_;rw[h1];refine al 3 (.agg #[.slice none 0 0,.bool false]) I qk fun b9=>?_;refine stS 0 0 I I qk I I ?_;exact fin 1 I (th (sq (sq (rg (fin 2 I (th (ifT I (sq (rg (fin 2 I (th (rt (rT (WQ.drop (WQ.perm hp.symm (ret2 I I I ⟨Le.refl _,I,.inl ⟨hs0,I⟩⟩))))))))))))))))
   ·obtain ⟨k1,k2,k3⟩:=o.secOk (show D.sec area n=some s by rw[hsec,h2])
    have hlen:0<s.vs.length:=by
     rcases Nat.eq_zero_or_pos s.vs.length with h|h
     ·exact absurd (List.eq_nil_of_length_eq_zero h) k1
     ·exact h
    have hs0:D.read area n=some (s.vs.getLastD []):=by unfold Dk.read;rw[hsec,h2];rfl
    have hget:(tvv s.vs)[s.vs.length-1]?=some (str (s.vs.getLastD [])):=by
     unfold tvv;rw[List.getElem?_map,List.getLastD_eq_getLast?,List.getLast?_eq_getElem?];rw[List.getElem?_eq_getElem qo]
     rfl
    have hl64:(s.vs.getLastD []).length=64:=by
     rw[List.getLastD_eq_getLast?,List.getLast?_eq_some_getLast k1];exact k3 _ (List.getLast_mem k1)
    refine au ?_;refine lku 1 (z:=.map none) area I Tryz.underlying124 qk keyU I (.inr ⟨2,I⟩) hO ?_;rw[hmo];refine lku 1 (z:=.agg #[.slice none 0 0,.bool false]) n I Tryz.underlying129 qk keyI I (.inr ⟨0,I⟩) hMv ?_;rw[h1];refine al 3 (.agg #[.slice none 0 0,.bool false]) I qk fun b9=>?_;refine stS 0 0 I I qk I I ?_;exact fin 1 I (th (sq (sq (rg (fin 2 I (th (ifF I (sk (th (sq (rg (ldp 1 0 I I I (ldp 1 0 I I I (ar 1 I (i64w qo) (ix1 0 (s.vs.length-1) I qo I h3 hget fun a29 hc29=>ld 0 I (.inl I) hc29 (cvb 0 I qk fun b31 c31 g31 x31=>WL.frz fun K2 le2 l2=>fin 2 I (th (rt (WQ.drop (WQ.perm hp.symm (ret2 I I I ⟨le2,I,.inr ⟨_,_,c31,hs0,hl64,I,x31.le l2⟩⟩)))))))))))))))))))))
theorem freeC{w0:World}{K:PH}{hs m:List PH}(b:Nat)(D:Dk)(c:Nat)(o:D.Ok c)(hc:c<=1099511627)(hm:DskM K b D m)(area:Int):
  Ct Tryz.prog w0 58 [.pointer (some ⟨b,0,none⟩),.int .u64 area] K (m++hs)
   (fun v K' hs'=>K'=K/\∃ m',hs'=m'++hs/\DskM K b (D.free area).1 m'/\v=.int .i64 (D.free area).2):=by
 obtain ⟨bo,ho,ins,rfl,hO,hI⟩:=hm;have hr:=o.room;have har:=(o.arNodup area).2;refine ent Tryz.func58 ?_;refine sq (rg (fin 1 I (th (sq (sq (rg (ldp 3 0 (v:=.bool D.dead) I I I ?_)))))));cases hd:D.dead with
 | true=>
  have e:D.free area=(D,30):=by unfold Dk.free;rw[if_pos hd]
  rw[e];refine au ?_;exact ret1 I I ⟨I,_,I,⟨bo,ho,ins,I,hO,hI⟩,I⟩
 | false=>
  refine cl 2 I (stepC b bo D (by have:=o.steps;omega) o.left) ?_;rintro v11 K11 hs11 ⟨rfl,rfl,rfl⟩;cases hst:D.stp.dead with
  | true=>
   have e:D.free area=(D.stp,30):=by unfold Dk.free;rw[if_neg (by rw[hd];simp),if_pos hst]
   rw[e];refine au ?_;exact ret1 I I ⟨I,pt b (dkA D.stp bo) 126::ho::insH ins,I,⟨bo,ho,ins,I,hO,hI⟩,I⟩
  | false=>
   have e:D.free area=({ D.stp with room:=D.room+((D.ar area).length:Int),areas:=mdel area D.areas },0):=by unfold Dk.free;rw[if_neg (by rw[hd];simp),if_neg (by rw[hst];simp)]
   rw[e];refine fin 1 I (th (ifF I (sk (th ?_))));obtain ⟨bi,hA,tl,hAr,hperm⟩:=arH hI area hs;have hmo:=mget_insO hI hAr;cases hbi:bi with
   | none=>
    rw[hbi] at hmo hAr;rcases hAr with ⟨g1,_,rfl,g3⟩|⟨b',_,_,_,_,_,g1,_⟩
    ·have hl0:D.ar area=[]:=by unfold Dk.ar;rw[g1];rfl
     refine sq (rga [pt b (dkA D.stp bo) 126,ho] 14 [0,2,4,6,8,10,12,14,16,18,20,22,24,26,29] (by simp) qk qk (dldpw qk 3 0 (v:=.int .i64 D.room) I qk I I (au ?_)));refine dlkuw qk 1 (zv:=.map none) area I qk I Tryz.underlying124 qk keyU I (.inr ⟨1,I⟩) hO ?_;rw[hmo];refine dmlnw qk 0 I qk I Tryz.underlying129 (dar qk 0 I (v':=.int .i64 (D.room+((D.ar area).length:Int))) (by rw[hl0];exact i64w (by simp;omega)) (au ?_));refine mdl 1 1 area I I Tryz.underlying124 keyU I hO fun ho' hO'=>au ?_;rw[mdel_none hmo] at hO';refine ret1 I I ⟨I,pt b (dkA { D.stp with room:=D.room+((D.ar area).length:Int),areas:=mdel area D.areas } bo) 126::ho'::insH ins,I,⟨bo,ho',ins,I,hO',?_⟩,I⟩;show InsR K11 ins (mdel area D.areas);rw[mdel_none g1];exact hI
    ·cases g1
   | some bi=>
    rw[hbi] at hmo hAr;rcases hAr with ⟨_,g1,_⟩|⟨b',i1,mv,i2,q1,q2,g1,g2,g3,g4,g5,g6,hMv,hMR,rfl⟩
    ·cases g1
    ·cases g1;have hp:=(hperm (pt b (dkA D.stp bo) 126) ho).2 (by rw[hbi];simp);refine WC.perm hp (sq (rgm [1,2,0] 14 [0,2,4,6,8,10,12,14,16,18,20,22,24,26,29] ?_));refine dldpw qk 3 0 (v:=.int .i64 D.room) I qk I I (au ?_);refine dlkuw qk 1 (zv:=.map none) area I qk I Tryz.underlying124 qk keyU I (.inr ⟨1,I⟩) hO ?_;rw[hmo];refine dmlw qk 0 I qk I Tryz.underlying129 (.inr ⟨2,I⟩) hMv ?_;rw[hMR.len];refine dar qk 0 I (v':=.int .i64 (D.room+((D.ar area).length:Int))) (i64w qo) (dact qk 2 I (stp 0 1 I I I I (dnext (.inl qk) (dend qk 0 I (th (WC.drop (sq (rg (au ?_)))))))));refine mdl 1 1 area I I Tryz.underlying124 keyU I hO fun ho' hO'=>au ?_;refine ret1 I I ⟨I,pt b (dkA { D.stp with room:=D.room+((D.ar area).length:Int),areas:=mdel area D.areas } bo) 126::ho'::insH (i1++i2),by simp[insH];rfl,⟨bo,ho',i1++i2,rfl,?_,?_⟩,rfl⟩
     ·rw[g2] at hO';have h0:area∉(insO i1).map (·.1):=by rw[insO_keys,insKeys g5];exact g4
      have:=mdel_at (u:=bi) (q2:=insO i2) h0;have h3:insO (i1++(area,bi,hA)::i2)=insO i1++(area,bi)::insO i2:=by simp[insO]
      rw[h3,this] at hO';simpa[insO] using hO'
     ·show InsR K11 (i1++i2) (mdel area D.areas);rw[g3,mdel_at g4];exact g5.app g6
end
section
def synF(ks:List Int)(x:Int×Sec):Int×Sec:=if x.1∈ks then (x.1,secS x.2) else x
theorem synF_key(ks:List Int)(x:Int×Sec):(synF ks x).1=x.1:=by unfold synF;split <;> rfl
theorem synF_keys(ks:List Int)(l:Ar):(l.map (synF ks)).map (·.1)=l.map (·.1):=by
 rw[List.map_map];exact List.map_congr_left fun x _=>synF_key ks x
theorem synF_other{ks:List Int}{k:Int}{x:Int×Sec}(h:x.1≠k):synF (ks++[k]) x=synF ks x:=by
 unfold synF
 by_cases e:x.1∈ks
 ·rw[if_pos e,if_pos (by simp[e])]
 ·rw[if_neg e,if_neg (by simp[e,h])]
theorem syn_set{k:Int}{s:Sec}{ks:List Int}(hk:k∉ks):∀ {l:Ar},(l.map (·.1)).Nodup->(k,s)∈l.map (synF ks)->mset k (secS s) (l.map (synF ks))=l.map (synF (ks++[k]))
 | [],_,h=>by simp at h
 | (j,t)::l,hnd,h=>by
  simp only[List.map_cons,List.nodup_cons] at hnd
  by_cases e:k=j
  ·subst e;have hf:synF ks (k,t)=(k,t):=by unfold synF;rw[if_neg hk]
   have hf2:synF (ks++[k]) (k,t)=(k,secS t):=by unfold synF;rw[if_pos (by simp)]
   have hst:s=t:=by
    rw[List.map_cons,List.mem_cons,hf] at h;rcases h with h|h
    ·exact (Prod.mk.injEq _ _ _ _ ▸ h).2
    ·exfalso
     obtain ⟨x,hx,hxe⟩:=List.mem_map.1 h;have:x.1=k:=by rw[<-synF_key ks x,hxe]
     exact hnd.1<|List.mem_map.2 ⟨x,hx,this⟩
   subst hst;rw[List.map_cons,hf,List.map_cons,hf2];simp only[mset,if_true]
   congr 1
   exact List.map_congr_left fun x hx=>(synF_other (fun h=>hnd.1<|List.mem_map.2 ⟨x,hx,h⟩)).symm
  ·have hj:(synF ks (j,t)).1=j:=synF_key ks _
   have h2:(k,s)∈l.map (synF ks):=by
    rw[List.map_cons,List.mem_cons] at h;rcases h with h|h
    ·exact absurd (by rw[<-h] at hj;exact hj) e
    ·exact h
   rw[List.map_cons,List.map_cons,synF_other (by exact fun h=>e h.symm)];cases hq:synF ks (j,t) with
   | mk a b=>
    rw[hq] at hj;dsimp only at hj;subst hj;simp only[mset,e,if_false];rw[syn_set hk hnd.2 h2]
theorem syn_all{ks:List Int}{l:Ar}(h:∀ x∈l,x.1∈ks):l.map (synF ks)=l.map fun x=>(x.1,secS x.2):=
 List.map_congr_left fun x hx=>by unfold synF;rw[if_pos (h x hx)]
def todoK:Ar->List Int->Nat
 | [],_=>0
 | x::l,ks=>(if x.1∈ks then 0 else 1)+todoK l ks
theorem todo_le(ks:List Int)(k:Int):∀ l:Ar,todoK l (ks++[k])<=todoK l ks
 | []=>Nat.le_refl _
 | x::l=>by
  have:=todo_le ks k l;simp only[todoK]
  by_cases e:x.1∈ks
  ·rw[if_pos e,if_pos (by simp[e])];omega
  ·rw[if_neg e];split <;> omega
theorem todo_lt{ks:List Int}{k:Int}(hk:k∉ks):∀ {l:Ar},k∈l.map (·.1)->todoK l (ks++[k])<todoK l ks
 | [],h=>by simp at h
 | x::l,h=>by
  simp only[todoK]
  by_cases e:x.1=k
  ·have:=todo_le ks k l;rw[if_pos (by simp[e]),if_neg (by rw[e];exact hk)];omega
  ·have h2:k∈l.map (·.1):=by
    rw[List.map_cons,List.mem_cons] at h;rcases h with h|h
    ·exact absurd h.symm e
    ·exact h
   have:=todo_lt hk h2
   by_cases e1:x.1∈ks
   ·rw[if_pos e1,if_pos (by simp[e1])];omega
   ·rw[if_neg e1,if_neg (by simp[e1,e])];omega
attribute [local irreducible] Code.wp wpList Calls
theorem syncC{w0:World}{K:PH}{hs m:List PH}(b:Nat)(D:Dk)(c:Nat)(o:D.Ok c)(hc:c<=1099511627)(hm:DskM K b D m)(area:Int):
  Ct Tryz.prog w0 175 [.pointer (some ⟨b,0,none⟩),.int .u64 area] K (m++hs)
   (fun v K' hs'=>K'=K/\∃ m',hs'=m'++hs/\DskM K b (D.sync area).1 m'/\v=.int .i64 (D.sync area).2):=by
 obtain ⟨bo,ho,ins,rfl,hO,hI⟩:=hm;have hr:=o.room;refine ent Tryz.func175 ?_;refine sq (rg (fin 1 I (th (sq (sq (rg (ldp 3 0 (v:=.bool D.dead) I I I ?_)))))));cases hd:D.dead with
 | true=>
  have e:D.sync area=(D,30):=by unfold Dk.sync;rw[if_pos hd]
  rw[e];refine au ?_;exact ret1 I I ⟨I,_,I,⟨bo,ho,ins,I,hO,hI⟩,I⟩
 | false=>
  refine cl 2 I (stepC b bo D (by have:=o.steps;omega) o.left) ?_;rintro v11 K11 hs11 ⟨rfl,rfl,rfl⟩;cases hst:D.stp.dead with
  | true=>
   have e:D.sync area=(D.stp,30):=by unfold Dk.sync;rw[if_neg (by rw[hd];simp),if_pos hst]
   rw[e];refine au ?_;exact ret1 I I ⟨I,pt b (dkA D.stp bo) 126::ho::insH ins,I,⟨bo,ho,ins,I,hO,hI⟩,I⟩
  | false=>
   have e:D.sync area=({ D.stp with areas:=D.synA area },0):=by unfold Dk.sync;rw[if_neg (by rw[hd];simp),if_neg (by rw[hst];simp)]
   rw[e];refine fin 1 I (th (ifF I (sk (th ?_))));obtain ⟨bi,hA,tl,hAr,hperm⟩:=arH hI area hs;have hmo:=mget_insO hI hAr;cases hbi:bi with
   | none=>
    rw[hbi] at hmo hAr;rcases hAr with ⟨g1,_,rfl,g3⟩|⟨b',_,_,_,_,_,g1,_⟩
    ·refine au ?_;refine lku 1 (z:=.map none) area I Tryz.underlying124 qk keyU I (.inr ⟨1,I⟩) hO ?_;rw[hmo];refine mrgn 0 I Tryz.underlying129 fun r=>au ?_;refine loop (σ:=Unit) (fun _=>[(21,.pointer (some ⟨r,0,none⟩))]) (fun _=>K11) (fun _=>sg r (.mapIter none 0 #[] 0)::pt b (dkA D.stp bo) 126::ho::(insH ins++hs)) (fun _=>True) (fun _=>0) () trivial ⟨I,trivial⟩ I I ?_;rintro - -;refine sq (rg (mnxn 0 I (.inr ⟨0,I⟩) (fin 1 I (th (sq (ifF I (ex (xt (xt (xb (th (sq (rg (fin 1 I (th (rt (WQ.drop (ret1 I I ⟨I,pt b (dkA D.stp bo) 126::ho::insH ins,I,⟨bo,ho,ins,I,hO,?_⟩,I⟩))))))))))))))))));show InsR K11 ins (D.synA area);unfold Dk.synA;rw[g1];exact hI
    ·cases g1
   | some bi=>
    rw[hbi] at hmo hAr;rcases hAr with ⟨_,g1,_⟩|⟨b',i1,mv,i2,q1,q2,g1,g2,g3,g4,g5,g6,hMv,hMR,rfl⟩
    ·cases g1
    ·cases g1;have hp:=(hperm (pt b (dkA D.stp bo) 126) ho).2 (by rw[hbi];simp);have hnd:=(o.arNodup area).1;have hga:mget area D.areas=some (D.ar area):=by rw[g3];exact mget_at g4
     refine WC.perm hp (au ?_);refine lku 1 (z:=.map none) area I Tryz.underlying124 qk keyU I (.inr ⟨2,I⟩) hO ?_;rw[hmo];refine mrg 0 I Tryz.underlying129 (.inr ⟨0,I⟩) hMv fun r hi hI0=>au ?_
     refine loop (σ:=PH×PH×List (Int×Value)×List Int) (fun _=>[(0,.pointer (some ⟨b,0,none⟩)),(1,.int .u64 area),(21,.pointer (some ⟨r,0,none⟩))]) (fun _=>K11)
      (fun s=>s.1::s.2.1::pt b (dkA D.stp bo) 126::ho::(insH i1++(insH i2++hs))) (fun s=>MpI encI id s.2.1 s.1 bi r s.2.2.1 s.2.2.2/\MR (SecR K11) s.2.2.1 ((D.ar area).map (synF s.2.2.2))) (fun s=>todoK (D.ar area) s.2.2.2)
      (hi,hA,mv,[]) ⟨hI0,by rw[show (D.ar area).map (synF [])=D.ar area from by rw[List.map_congr_left (g:=id) (fun x _=>by simp[synF])];simp];exact hMR⟩ ⟨I,I,I,trivial⟩ I I ?_
     rintro ⟨hi,hA,mv,ks⟩ ⟨hJ,hR⟩;dsimp only at *;have hkeys:mv.map (·.1)=(D.ar area).map (·.1):=by rw[hR.keys,synF_keys]
     refine sq (rg (mnx 0 0 I (.inr ⟨1,I⟩) I hJ (by rw[hkeys];exact hnd) (fun k v hi' hmem hnk hS=>?_) (fun hall=>?_)))
     ·obtain ⟨s,hsm,ao,cv,rfl,hV⟩:=hR.mem hmem;have hkm:k∈(D.ar area).map (·.1):=by rw[<-hkeys];exact List.mem_map.2 ⟨_,hmem,I⟩
      have hs2:(k,s)∈D.ar area:=by
       obtain ⟨x,hx,hxe⟩:=List.mem_map.1 hsm;have hx1:x.1=k:=by rw[<-synF_key ks x,hxe]
       have:synF ks x=x:=by unfold synF;rw[if_neg (by rw[hx1];exact hnk)]
       rw[this] at hxe;rw[<-hxe];exact hx
      obtain ⟨l0,hl1,hl2⟩:=Dk.ar_mem _ hs2;rw[hl2] at hs2;obtain ⟨v1,v2,_⟩:=o.vs _ hl1 _ hs2
      replace v2:s.vs.length<=c:=v2
      replace v1:s.vs≠[]:=v1
      have hlen:0<s.vs.length:=by
       rcases Nat.eq_zero_or_pos s.vs.length with h|h
       ·exact absurd (List.eq_nil_of_length_eq_zero h) v1
       ·exact h
      have hlast:((tvv s.vs).drop ((s.vs.length-1)*1)).take (1*1)=tvv [s.vs.getLastD []]:=by
       unfold tvv
       have hdr:s.vs.drop (s.vs.length-1)=[s.vs.getLast v1]:=by
        rw[List.drop_eq_getElem_cons qo,List.getLast_eq_getElem,List.drop_of_length_le qo]
       rw[Nat.mul_one,Nat.mul_one,<-List.map_drop,<-List.map_take,hdr];rw[List.getLastD_eq_getLast?,List.getLast?_eq_some_getLast v1]
       rfl
      have hcut:=hV.cut (s.vs.length-1) 1 qo hlast;refine au ?_;refine men 0 I (.inr ⟨1,I⟩) (.inr ⟨0,I⟩) hS (al 2 (.agg #[.slice none 0 0,.bool false]) I qk fun b6=>?_);refine stS 1 0 I I qk I I ?_;refine fin 0 I (th (rgm [3,4,0] 16 [0,2,4,6,8,10,12,14,16,18,20,22,24,26,28,31] ?_));refine au ?_;refine dlku qk 1 (zv:=.map none) area I Tryz.underlying124 qk keyU I (.inr ⟨1,I⟩) hO ?_;rw[hmo];refine au ?_;refine dar qk 1 I (v':=.int .i64 (s.vs.length-1:Nat)) (by rw[show ((s.vs.length:Nat):Int)-1=((s.vs.length-1:Nat):Int) from by omega];exact i64w qo) (dslx qk 0 (s.vs.length-1) 1 I I I (by simp;omega) (by have:=hV.2.1;omega) (dbd qk 0 (.agg #[.slice (cutA ao cv (s.vs.length-1) 1) 1 (cv-(s.vs.length-1)),.bool true]) rfl (fun w=>by kernel_rfl) (au ?_)));refine mpuI 0 2 k (.agg #[.slice (cutA ao cv (s.vs.length-1) 1) 1 (cv-(s.vs.length-1)),.bool true]) I I Tryz.underlying129 keyI I I hS.1 ?_ fun hA2 hJ2=>?_
      ·cases hg:mget k mv with
       | some u=>rfl
       | none=>exact absurd (List.mem_map.2 ⟨_,hmem,rfl⟩) (mget_none.1 hg)
      refine dnx (by simp) I (dend qk 0 I (bl (WQ.drop (again (x:=(hi,hA,mv,ks)) (hi',hA2,mset k _ mv,ks++[k]) ⟨I,I,I,trivial⟩ I I ⟨hJ2,?_⟩ (todo_lt hnk hkm)))));dsimp only;rw[<-syn_set hnk hnd hsm];exact hR.set ⟨_,_,I,hcut⟩
     ·refine fin 1 I<|th (sq<|ifF I (ex<|xt (xt<|xb (th<|sq (rg<|fin 1 I (th<|rt (WQ.drop ?_)))))))
      have hall2:∀ x∈D.ar area,x.1∈ks:=fun x hx=>by
       have:x.1∈mv.map (·.1):=by rw[hkeys];exact List.mem_map.2 ⟨x,hx,I⟩
       obtain ⟨y,hy,hye⟩:=List.mem_map.1 this;rw[<-hye];exact hall y hy
      have hm':DskM K11 b { D.stp with areas:=D.synA area } (pt b (dkA D.stp bo) 126::ho::insH (i1++(area,bi,hA)::i2)):=by
       refine ⟨bo,ho,i1++(area,bi,hA)::i2,I,?_,?_⟩
       ·rw[g2] at hO;simpa[insO] using hO
       ·show InsR K11 _ (D.synA area);unfold Dk.synA;rw[hga];dsimp only
        rw[show mset area ((D.ar area).map fun x=>(x.1,secS x.2)) D.areas=q1++(area,(D.ar area).map fun x=>(x.1,secS x.2))::q2 from by
         conv=>lhs;rw[g3]
         exact mset_at g4]
        rw[syn_all hall2] at hR;exact g5.app ⟨I,⟨_,hJ.map,hR⟩,g6⟩
      refine WQ.perm ?_ (ret1 I I ⟨I,_,I,hm',I⟩);unfold insH;rw[List.map_append,List.map_cons,List.cons_append,List.cons_append,List.append_assoc,List.cons_append];exact ((List.Perm.swap (pt b (dkA D.stp bo) 126) hA _).trans (((List.Perm.swap ho hA _).trans (List.perm_middle.symm.cons ho)).cons _))
end
section
def swp(i j:Nat)(xs:List Nat):List Nat:=(xs.set i (xs.getD j 0)).set j (xs.getD i 0)
theorem swp_len(i j:Nat)(xs:List Nat):(swp i j xs).length=xs.length:=by simp[swp]
theorem swp_get{i j:Nat}{xs:List Nat}(hi:i<xs.length)(hj:j<xs.length)(k:Nat):(swp i j xs)[k]?=if k=j then some (xs.getD i 0) else if k=i then some (xs.getD j 0) else xs[k]?:=by
 unfold swp;rw[List.getElem?_set]
 by_cases e1:j=k
 ·rw[if_pos e1,if_pos e1.symm,if_pos (by simpa using hj)]
 ·rw[if_neg e1,if_neg (Ne.symm e1),List.getElem?_set]
  by_cases e2:i=k
  ·rw[if_pos e2,if_pos e2.symm,if_pos qo]
  ·rw[if_neg e2,if_neg (Ne.symm e2)]
structure SegP (a b:Nat) (xs ys:List Nat):Prop where
 len:ys.length=xs.length
 out:∀ i,i<a\/b<=i->ys[i]?=xs[i]?
 perm:ys.Perm xs
theorem SegP.refl(a b:Nat)(xs:List Nat):SegP a b xs xs:=⟨rfl,fun _ _=>rfl,List.Perm.refl _⟩
theorem SegP.trans{a b:Nat}{xs ys zs:List Nat}(h:SegP a b xs ys)(g:SegP a b ys zs):SegP a b xs zs:=
 ⟨g.len.trans h.len,fun i hi=>(g.out i hi).trans (h.out i hi),g.perm.trans h.perm⟩
theorem SegP.wide{a b c d:Nat}{xs ys:List Nat}(h:SegP a b xs ys)(h1:c<=a)(h2:b<=d):SegP c d xs ys:=
 ⟨h.len,fun i hi=>h.out i qo,h.perm⟩
theorem swp_perm{i j:Nat}{xs:List Nat}(hi:i<xs.length)(hj:j<xs.length):(swp i j xs).Perm xs:=by
 rw[List.perm_iff_count];intro v;unfold swp;have hgi:xs.getD i 0=xs[i]:=by rw[List.getD_eq_getElem?_getD,List.getElem?_eq_getElem hi];rfl
 have hgj:xs.getD j 0=xs[j]:=by rw[List.getD_eq_getElem?_getD,List.getElem?_eq_getElem hj];rfl
 rw[hgi,hgj,List.count_set (by simpa using hj),List.count_set hi]
 by_cases e:i=j
 ·subst e
  simp
  by_cases h:xs[i]=v
  ·have:0<List.count v xs:=List.count_pos_iff.2 (by rw[<-h];exact List.getElem_mem hi);simp[h];omega
  ·simp[h]
 ·have h3:(xs.set i xs[j])[j]'(by simpa using hj)=xs[j]:=by rw[List.getElem_set_ne (fun h=>e h)]
  rw[h3]
  have c1:(if (xs[i] == v)=true then 1 else 0)<=List.count v xs:=by
   split
   ·rename_i h;have h:=eq_of_beq h;exact List.count_pos_iff.2 (by rw[<-h];exact List.getElem_mem hi)
   ·exact Nat.zero_le _
  omega
theorem SegP.swp{a b i j:Nat}{xs:List Nat}(h1:a<=i/\i<b)(h2:a<=j/\j<b)(hb:b<=xs.length):SegP a b xs (swp i j xs):=
 ⟨swp_len i j xs,fun k hk=>by rw[swp_get qo qo,if_neg qo,if_neg qo],swp_perm qo qo⟩
def Srt(a b:Nat)(xs:List Nat):Prop:=∀ i j,a<=i->i<j->j<b->xs.getD i 0<=xs.getD j 0
def uvv(l:List Nat):List Value:=l.map fun x=>Value.int .u64 (x:Nat)
abbrev kI(kd:Bool):IntKind:=match kd with|true=>.u64|false=>.i64
abbrev sf(kd:Bool)(a b:Nat):Nat:=match kd with|true=>a|false=>b
def kvv(kd:Bool)(l:List Nat):List Value:=l.map fun x=>Value.int (kI kd) ((x:Nat):Int)
def encK(kd:Bool)(n:Int):Value:=.int (kI kd) n
def kA(kd:Bool)(pre:List Value)(xs:List Nat)(post:List Value):Array Value:=(pre++kvv kd xs++post).toArray
theorem kA_get{kd:Bool}{pre:List Value}{xs:List Nat}{post:List Value}{i:Nat}(h:i<xs.length):(kA kd pre xs post)[pre.length+i]?=some (.int (kI kd) ((xs.getD i 0:Nat):Int)):=by
 unfold kA;rw[List.getElem?_toArray,List.append_assoc,List.getElem?_append_right qo,Nat.add_sub_cancel_left,List.getElem?_append_left (by simpa[kvv] using h)];simp[kvv,h,List.getD_eq_getElem?_getD]
theorem kA_set{kd:Bool}{pre:List Value}{xs:List Nat}{post:List Value}{i v:Nat}(h:i<xs.length):(kA kd pre xs post).setIfInBounds (pre.length+i) (.int (kI kd) ((v:Nat):Int))=kA kd pre (xs.set i v) post:=by
 unfold kA;rw[List.setIfInBounds_toArray,List.append_assoc,List.set_append_right _ _ qo,Nat.add_sub_cancel_left,List.set_append_left _ _ (by simpa[kvv] using h)];simp[kvv]
theorem kA_isS{kd:Bool}{g e:Nat}{pre:List Value}{xs:List Nat}{post:List Value}{cap:Nat}(hc:xs.length<=cap):IsS (pt g (kA kd pre xs post) e) (some ⟨g,pre.length,none⟩) xs.length cap 1 (kvv kd xs):=by
 refine ⟨by simp[kvv],hc,fun j u hu=>⟨_,I,?_⟩⟩
 have hj:j<xs.length:=by
  have:=(List.getElem?_eq_some_iff.1 hu).1;simpa[kvv] using this
 rw[add_mk];refine Cell.pt ?_;rw[kA_get hj];simp[kvv,hj] at hu;rw[<-hu];simp[List.getD_eq_getElem?_getD,hj]
end
end Go.En
