/-
  Part 2.
-/
import Derived.KernelRfl
import Derived.Test.YtaifbolghjccjaaGreatRows
import Derived.Test.YtaifbolghjccjaaGreatSm1
set_option linter.defProp false
set_option linter.unusedSectionVars false
set_option linter.unusedSimpArgs false
set_option linter.unusedVariables false
set_option maxRecDepth 4000
namespace Go.En
open Go.Proofs Go.Proofs.YtaifbolghjccjaaGreat
open List renaming length -> eq
variable {w0 : World} {K : PH} {hs : List PH} {P : Program} {Q : Nat->Nat->Prop}
section
def rF:Op->Bool
 | .move ..|.assign ..|.pick ..|.nilCheck ..|.extract ..|.fieldAddr ..|.makeFunc ..|.unOp .not ..=>true
 | .call { callee:=.builtin .len,.. }|.call { callee:=.builtin .max,.. }|.call { callee:=.builtin .min,.. }=>true
 | _=>false
def pZ(T:bg)(ops:Array Oper)(n:Nat):List Oper->Sl->Option (List Oper×Sl)
 | [],l=>some ([],l)
 | o::r,l=>match o.dst with
  | none=>some (o::r,l)
  | some d=>match Nat.blt d n,fo ops l o.guard with
   | true,some true=>cond (rF o.op) (match gV T l o.op with
    | some v=>pZ T ops n r ((d,v)::l)
    | none=>some (o::r,l)) (some (o::r,l))
   | true,some false=>pZ T ops n r ((d,undef)::l)
   | _,_=>some (o::r,l)
def p6(T:bg)(ops:Array Oper)(n z:Nat):List Nat->Array Bool->Sl->Option (List Nat×Array Bool×Sl)
 | [],L,l=>some ([],L,l)
 | p::r,L,l=>match Nat.beq (p % 2) 0,Nat.beq (p / 2) z,ops[p / 2]? with
  | true,false,some o=>match o.dst with
   | some d=>match Nat.blt d n,fo ops l o.guard with
    | true,some true=>cond (rF o.op) (match gV T l o.op with
     | some v=>p6 T ops n z r (L.setIfInBounds (p / 2) true) ((d,v)::l)
     | none=>some (p::r,L,l)) (some (p::r,L,l))
    | true,some false=>p6 T ops n z r (L.setIfInBounds (p / 2) true) ((d,undef)::l)
    | _,_=>some (p::r,L,l)
   | none=>some (p::r,L,l)
  | _,_,_=>some (p::r,L,l)
section
variable {P:Program} {T:bg} {w0:World} {ops:Array Oper} {Q:Exit->Act->World->Prop} {rest rest':List Oper} {n:Nat} {l l':Sl} {K K0:PH} {hs A:List PH}
def Nc{α:Type}{x:α}{l:List α}:(x::l)[0]?=some x:=rfl
def Nb{α:Type}{a x:α}{l:List α}:(a::x::l)[1]?=some x:=rfl
def at2{α:Type}{a b x:α}{l:List α}:(a::b::x::l)[2]?=some x:=rfl
def at3{α:Type}{a b c x:α}{l:List α}:(a::b::c::x::l)[3]?=some x:=rfl
def M9{α:Type}{a b c d x:α}{l:List α}:(a::b::c::d::x::l)[4]?=some x:=rfl
def M8{α:Type}{a b c d e x:α}{l:List α}:(a::b::c::d::e::x::l)[5]?=some x:=rfl
def M7{α:Type}{a b c d e f x:α}{l:List α}:(a::b::c::d::e::f::x::l)[6]?=some x:=rfl
def M6{α:Type}{a b c d e f g x:α}{l:List α}:(a::b::c::d::e::f::g::x::l)[7]?=some x:=rfl
def M5{α:Type}{a b c d e f g h x:α}{l:List α}:(a::b::c::d::e::f::g::h::x::l)[8]?=some x:=rfl
def mY{p:Prop}(h:p:=by first|exact Nc|exact Nb|exact at2|exact at3|exact M9|exact M8|exact M7|exact M6|exact M5):p:=h
theorem WL.all[hT:bc P T]:∀ {rest:List Oper} {l:Sl},pZ T ops n rest l=some (rest',l')->WL P w0 ops Q rest' n l' K hs->WL P w0 ops Q rest n l K hs
 | [],l,h,hk=>by
  unfold pZ at h;simp only[aae,aag] at h;obtain ⟨rfl,rfl⟩:=h;exact hk
 | o::r,l,h,hk=>by
  have st:some (o::r,l)=some (rest',l')->WL P w0 ops Q (o::r) n l K hs:=fun e=>by
   simp only[aae,aag] at e;obtain ⟨rfl,rfl⟩:=e;exact hk
  unfold pZ at h
  split at h
  ·exact st h
  rename_i d hd
  split at h
  ·rename_i hb hg;cases hs':rF o.op with
   | false=>rw[hs'] at h;exact st h
   | true=>
    rw[hs'] at h;simp only[cond_true] at h
    split at h
    ·rename_i v hv;exact WL.pure1 hd hb hg hv (WL.all h hk)
    exact st h
  ·rename_i hb hg;exact WL.unwanted hd hb hg (WL.all h hk)
  exact st h
def MV[hT:bc P T]{i d b off ty:Nat}{v:Value}{c:Array Value}{fr:Nat×Nat}(h0:sH T ops n 0 rest l=some (d,⟨b,off,none⟩,rest',l'))(hi:hs[i]?=some (pt b c ty fr))(hv:c[off]?=some v)
  (hk:WL P w0 ops Q rest' n ((d,v)::l') K hs):WL P w0 ops Q rest n l K hs:=a9 _ i h0 hi hv hk
def Mr[hT:bc P T]{i d t b ty:Nat}{c:Array Value}{fr:Nat×Nat}(h0:sF T ops n 0 rest l=some (d,t,⟨b,0,none⟩,rest',l'))(hi:hs[i]?=some (pt b c ty fr))(hm:iA P t c.size=true)
  (hk:WL P w0 ops Q rest' n ((d,.agg c)::l') K hs):WL P w0 ops Q rest n l K hs:=fh _ i h0 hi hm hk
def MH[hT:bc P T]{i b off ty:Nat}{v u:Value}{c:Array Value}(h0:wr T ops n 0 rest l=some (⟨b,off,none⟩,v,rest',l'))(hi:hs[i]?=some (pt b c ty))(hu:c[off]?=some u)(hv:v.oneCell'=true)
  (hk:WL P w0 ops Q rest' n l' K (hs.set i (pt b (c.setIfInBounds off v) ty))):WL P w0 ops Q rest n l K hs:=stp _ i h0 hi hu hv hk
def Md[hT:bc P T]{i t b ty:Nat}{c cs:Array Value}(h0:sm T ops n 0 rest l=some (t,⟨b,0,none⟩,cs,rest',l'))(hi:hs[i]?=some (pt b c ty))(hsz:(P.info? t).map (·.size)=some cs.size)
  (hf:cs.size=c.size) (h1:cs.toList.all (·.oneCell')=true) (hk:WL P w0 ops Q rest' n l' K (hs.set i (pt b cs ty))):WL P w0 ops Q rest n l K hs:=bJ _ i h0 hi hsz hf h1 hk
variable {plan plan':List Nat} {z:Nat} {listed listed':Array Bool}
theorem WA.all[hT:bc P T](hsel:Region.noSelect ops=true):∀ {plan:List Nat} {listed:Array Bool} {l:Sl},p6 T ops n z plan listed l=some (plan',listed',l')->WA P w0 ops Q K0 A z plan' listed' n l' K hs->WA P w0 ops Q K0 A z plan listed n l K hs
 | [],L,l,h,hk=>by
  unfold p6 at h;simp only[aae,aag] at h;obtain ⟨rfl,rfl,rfl⟩:=h;exact hk
 | p::r,L,l,h,hk=>by
  have st:some (p::r,L,l)=some (plan',listed',l')->WA P w0 ops Q K0 A z (p::r) L n l K hs:=fun e=>by
   simp only[aae,aag] at e;obtain ⟨rfl,rfl,rfl⟩:=e;exact hk
  unfold p6 at h
  split at h
  ·rename_i o hp hz ho;have hp2:p=2*(p / 2):=by have:=aaB hp;omega
   split at h
   ·rename_i d hd
    split at h
    ·rename_i hb hg;cases hs':rF o.op with
     | false=>rw[hs'] at h;exact st h
     | true=>
      rw[hs'] at h;simp only[cond_true] at h
      split at h
      ·rename_i v hv;rw[hp2];exact WA.pure ho hsel hz hd hb (.inl ⟨hg,hv⟩) (WA.all hsel h hk)
      exact st h
    ·rename_i hb hg;rw[hp2];exact WA.pure ho hsel hz hd hb (.inr ⟨hg,I⟩) (WA.all hsel h hk)
    exact st h
   exact st h
  exact st h
def LT[hT:bc P T](hsel:Region.noSelect ops=true)(hk:WQ w0 Q .normal n l K hs):WA P w0 ops Q K0 A z [] listed n l K hs:=aM hsel 0 rfl hk
def Mx[hT:bc P T](hsel:Region.noSelect ops=true){i p d b off ty:Nat}{v:Value}{c:Array Value}{fr:Nat×Nat}(h0:lJ T ops n z 0 plan listed l=some (p,d,⟨b,off,none⟩,plan',listed',l'))(hwf:cond (Nat.blt z ops.size) (Region.waitsFor .any ops z (p / 2)) true=true)
  (hi:A[i]?=some (pt b c ty fr)) (hv:c[off]?=some v) (hk:WA P w0 ops Q K0 A z plan' listed' n ((d,v)::l') K hs):WA P w0 ops Q K0 A z plan listed n l K hs:=bP hsel _ i h0 hwf hi hv hk
def CX(ops:Array Oper):Nat->Nat->Nat->Option (List Nat)
 | 0,_,_=>none
 | f+1,z,i=>cond (Region.waitsFor .any ops z i) (some []) (match ops[z]? with
  | some o=>(o.after.toList.filter (Region.binds .any)).findSome? (fun e=>(CX ops f e.on i).map (e.on :: ·))
  | none=>none)
def LQ[hT:bc P T](hsel:Region.noSelect ops=true){i p d b off ty:Nat}{v:Value}{c:Array Value}{fr:Nat×Nat}(h0:lJ T ops n z 0 plan listed l=some (p,d,⟨b,off,none⟩,plan',listed',l'))(hwf:lD ops z ((CX ops 9 z (p / 2)).getD []) (p / 2)=true)
  (hi:A[i]?=some (pt b c ty fr)) (hv:c[off]?=some v) (hk:WA P w0 ops Q K0 A z plan' listed' n ((d,v)::l') K hs):WA P w0 ops Q K0 A z plan listed n l K hs:=dk _ hsel _ i h0 hwf hi hv hk
def LR[hT:bc P T](hsel:Region.noSelect ops=true){i p d t b ty:Nat}{c:Array Value}{fr:Nat×Nat}(h0:mC T ops n z 0 plan listed l=some (p,d,t,⟨b,0,none⟩,plan',listed',l'))(hwf:cond (Nat.blt z ops.size) (Region.waitsFor .any ops z (p / 2)) true=true)
  (hi:A[i]?=some (pt b c ty fr)) (hm:iA P t c.size=true) (hk:WA P w0 ops Q K0 A z plan' listed' n ((d,.agg c)::l') K hs):WA P w0 ops Q K0 A z plan listed n l K hs:=kT hsel _ i h0 hwf hi hm hk
def LX[hT:bc P T](hsel':(Region.noSelect ops && mG ops plan listed)=true){o:Oper}(h0:wj T ops n z 0 plan listed l=some (o,plan',listed',l'))
  (hk:WL P w0 ops (fun e a w=>fu .any ops plan' listed'=true->eX .any ops listed'->jU P w0 ops Q K0 A z plan' listed' e a w) [o] n l' K hs):WA P w0 ops Q K0 A z plan listed n l K hs:=aJ hsel' _ h0 hk
inductive mO (hs:List PH):List Nat->List PH->Prop
 | nil:mO hs [] []
 | cons {i:Nat} {h:PH} {ix:List Nat} {A:List PH} (e:hs[i]?=some h) (p:mO hs ix A):mO hs (i::ix) (h::A)
def mO.sub{ix:List Nat}(p:mO hs ix A):∀ h∈A,h∈hs:=by
 induction p with
 | nil=>simp
 | cons e p ih=>exact List.forall_mem_cons.2 ⟨aao e,ih⟩
def bQ{id:Nat}{o:List Oper}(ix:List Nat)(z:Nat)(pl:List Nat)(h:WA P w0 o.toArray Q K A z pl (Array.replicate o.toArray.size false) n l K hs)(hA:mO hs ix A:=by first|exact .nil|exact .cons rfl .nil|exact .cons rfl (.cons rfl .nil)|exact .cons rfl (.cons rfl (.cons rfl .nil))|exact .cons rfl (.cons rfl (.cons rfl (.cons rfl .nil)))|exact .cons rfl (.cons rfl (.cons rfl (.cons rfl (.cons rfl .nil))))|exact .cons rfl (.cons rfl (.cons rfl (.cons rfl (.cons rfl (.cons rfl .nil)))))|exact .cons rfl (.cons rfl (.cons rfl (.cons rfl (.cons rfl (.cons rfl (.cons rfl .nil)))))))(hm:P.follows .mixedOrders=true:=by kernel_rfl)
  (hq:(fu .any o.toArray pl (Array.replicate o.toArray.size false) && Nat.beq (eq pl) o.toArray.size)=true:=by kernel_rfl):WC P w0 (.region id o.toArray true) Q n l K hs:=bG A z pl hA.sub hm hq h
def n4{r:Option Nat}{ds:List Deferred}{id:Nat}{o:List Oper}(ix:List Nat)(z:Nat)(pl:List Nat)(h:WA P w0 o.toArray (jc ds Q) K A z pl (Array.replicate o.toArray.size false) n l K hs)(hA:mO hs ix A:=by first|exact .nil|exact .cons rfl .nil|exact .cons rfl (.cons rfl .nil)|exact .cons rfl (.cons rfl (.cons rfl .nil))|exact .cons rfl (.cons rfl (.cons rfl (.cons rfl .nil)))|exact .cons rfl (.cons rfl (.cons rfl (.cons rfl (.cons rfl .nil))))|exact .cons rfl (.cons rfl (.cons rfl (.cons rfl (.cons rfl (.cons rfl .nil)))))|exact .cons rfl (.cons rfl (.cons rfl (.cons rfl (.cons rfl (.cons rfl (.cons rfl .nil)))))))(hm:P.follows .mixedOrders=true:=by kernel_rfl)
  (hq:(fu .any o.toArray pl (Array.replicate o.toArray.size false) && Nat.beq (eq pl) o.toArray.size)=true:=by kernel_rfl):WX P w0 r ds (.region id o.toArray true) Q n l K hs:=n5 A z pl hA.sub hm hq h
inductive n0:Nat->PH->List PH->List PH->Prop
 | here {x y:PH} {l:List PH} (e:y=x):n0 0 x (y::l) (x::l)
 | there {i:Nat} {x a:PH} {l l':List PH} (s:n0 i x l l'):n0 (i+1) x (a::l) (a::l')
def n0.eq{i:Nat}{x:PH}{l l':List PH}(s:n0 i x l l'):l=l':=by
 induction s with
 | here e=>rw[e]
 | there s ih=>rw[ih]
def WL.h{hs':List PH}(i:Nat)(x:PH)(hk:WL P w0 ops Q rest n l K hs')(s:n0 i x hs hs':=by first|exact .here rfl|exact .there (.here rfl)|exact .there (.there (.here rfl))|exact .there (.there (.there (.here rfl)))|exact .there (.there (.there (.there (.here rfl))))|exact .there (.there (.there (.there (.there (.here rfl)))))|exact .there (.there (.there (.there (.there (.there (.here rfl))))))|exact .there (.there (.there (.there (.there (.there (.there (.here rfl)))))))|exact .there (.there (.there (.there (.there (.there (.there (.there (.here rfl))))))))|exact .there (.there (.there (.there (.there (.there (.there (.there (.there (.here rfl)))))))))|exact .there (.there (.there (.there (.there (.there (.there (.there (.there (.there (.here rfl))))))))))|exact .there (.there (.there (.there (.there (.there (.there (.there (.there (.there (.there (.here rfl)))))))))))|exact .there (.there (.there (.there (.there (.there (.there (.there (.there (.there (.there (.there (.here rfl))))))))))))):WL P w0 ops Q rest n l K hs:=by
 rw[s.eq];exact hk
def ent{f:FuncId}{fn:Func}{c:Code}{args:List Value}{R:Value->PH->List PH->Prop}(hf:P.funcs[f]?=some fn)(h:WC P w0 c (bodyPost P fn (fg w0 R)) n (params 0 args) K hs)(hcal:iG P f=true:=by kernel_rfl)(hb:fn.body=some c:=by exact rfl)(hn:fn.ntmps=n:=by exact rfl)(hl:Nat.ble (eq args) n=true:=by exact rfl):
  Ct P w0 f args K hs R:=enter hf hcal hb hn hl h
def Dz{f:FuncId}{fn:Func}{c:Code}{args:List Value}{R:Value->PH->List PH->Prop}(hf:P.funcs[f]?=some fn)(h:WX P w0 none [] c (bodyPostM (fz none) 0 P fn (fg w0 R)) n (params 0 args) K hs)(hcal:iG P f=true:=by kernel_rfl)(hb:fn.body=some c:=by exact rfl)(hn:fn.ntmps=n:=by exact rfl)(hl:Nat.ble (eq args) n=true:=by exact rfl):
  Ct P w0 f args K hs R:=mu hf hcal hb hn hl h
def M1(h:WL P w0 ops Q rest n l K hs):WL P w0 ops Q rest n l K hs:=h
def M3(h:WA P w0 ops Q K0 A z plan listed n l K hs):WA P w0 ops Q K0 A z plan listed n l K hs:=h
def M2{c:Code}(h:WC P w0 c Q n l K hs):WC P w0 c Q n l K hs:=h
def M0{e:Exit}(h:WQ w0 Q e n l K hs):WQ w0 Q e n l K hs:=h
def MZ{r:Option Nat}{ds:List Deferred}{c:Code}(h:WX P w0 r ds c Q n l K hs):WX P w0 r ds c Q n l K hs:=h
def MY{ds:List Deferred}{e:Exit}(h:cW ds w0 Q e n l K hs):cW ds w0 Q e n l K hs:=h
def au{G G':Prop}(x:G')(h:G'->G:=by (intro x;(repeat (first|((with_reducible refine M1 ?_);first|with_reducible refine ci (.inl qk) ?_|with_reducible refine ba Nm rfl ?_|(refine WL.all rfl ?_;first|with_reducible refine nl ?_|refine MV rfl (by exact mY) (by exact rfl) ?_|refine MH rfl (by exact mY) (by exact rfl) (by exact rfl) ?_|refine Mr rfl (by exact mY) qk ?_|refine Md rfl (by exact mY) qk (by exact rfl) (by exact rfl) ?_))|((with_reducible refine M0 ?_);with_reducible first|refine th ?_|refine dc ?_|refine bl ?_|refine rT ?_|refine rB ?_|refine xt ?_|refine xb ?_|refine xn rfl ?_)|((with_reducible refine M2 ?_);first|with_reducible refine sq ?_|with_reducible refine rg ?_|with_reducible refine sk ?_|with_reducible refine bk ?_|with_reducible refine rt ?_|with_reducible refine ex ?_|refine cU rfl ?_|refine bY rfl ?_)|((with_reducible refine M3 ?_);refine WA.all qk I ?_;first|with_reducible refine LT qk ?_|refine Mx qk rfl qk (by exact mY) (by exact rfl) ?_|refine LX qk rfl ?_|refine LR qk rfl qk (by exact mY) qk ?_|refine LQ qk rfl qk (by exact mY) (by exact rfl) ?_)|((with_reducible refine MY ?_);with_reducible first|refine da ?_|refine kx ?_|refine oJ ?_|refine oK ?_|refine mT ?_|refine sQ ?_|refine MF rfl ?_)|((with_reducible refine MZ ?_);first|with_reducible refine cI ?_|with_reducible refine ey ?_|with_reducible refine kX ?_|with_reducible refine jy ?_|with_reducible refine jQ ?_|with_reducible refine sX ?_|refine qc rfl ?_|refine qd rfl ?_)));exact x)):G:=h x
def cB{G':Prop}{f:FuncId}{fn:Func}{c:Code}{args:List Value}{R:Value->PH->List PH->Prop}(hf:P.funcs[f]?=some fn)(x:G')(hcal:iG P f=true:=by kernel_rfl)(hb:fn.body=some c:=by exact rfl)(hn:fn.ntmps=n:=by exact rfl)(hl:Nat.ble (eq args) n=true:=by exact rfl)(h:G'->WC P w0 c (bodyPost P fn (fg w0 R)) n (params 0 args) K hs:=by (intro x;exact au x)):
  Ct P w0 f args K hs R:=enter hf hcal hb hn hl (h x)
end
end
section
theorem xZ:∀ (b:List UInt8) (i acc:Nat),i<=9->(eM i acc b).2.2=0->∃ (m:Nat) (r:List UInt8),b=aI m++r/\(eM i acc b).1=acc+m*128 ^ i/\(eM i acc b).2.1=i+eq (aI m)/\(0<i->0<m)
 | [],i,acc,hi,h=>by simp[eM] at h
 | c::r,i,acc,hi,h=>by
  have hc:=c.toNat_lt;rw[qy] at h ⊢
  by_cases h1:i=9/\1<c.toNat
  ·rw[aab h1] at h;simp at h
  rw[aaa h1] at h ⊢
  by_cases h2:128<=c.toNat
  ·rw[aab h2] at h ⊢;obtain ⟨m,r',hb,hn,hk,hp⟩:=xZ r (i+1) (acc+c.toNat % 128*128 ^ i) qo h;have hm:=hp qo;refine ⟨c.toNat % 128+128*m,r',?_,?_,?_,fun _=>by omega⟩
   ·rw[ma qo,show (c.toNat % 128+128*m) / 128=m from qo,show (c.toNat % 128+128*m) % 128+128=c.toNat from qo,hb]
    simp
   ·grind
   rw[hk,ma (n:=c.toNat % 128+128*m) qo,show (c.toNat % 128+128*m) / 128=m from qo,aan];omega
  rw[aaa h2] at h ⊢
  by_cases h3:c.toNat=0/\0<i
  ·rw[aab h3] at h;simp at h
  rw[aaa h3] at h ⊢;refine ⟨c.toNat,r,?_,?_,?_,fun _=>by omega⟩
  all_goals simp_all [nF,aaQ]
def nt{m:Nat}{b:List UInt8}(h:(aG m (b,0)).2.2=0):b=aI (aG m (b,0)).1++(aG m (b,0)).2.1/\(aG m (b,0)).1<=m:=by
 unfold aG at h ⊢;simp only[if_true] at h ⊢
 by_cases h1:(eM 0 0 b).2.2=0
 ·rw[aab h1] at h ⊢
  by_cases h2:m<(eM 0 0 b).1
  ·rw[aab h2] at h;simp at h
  rw[aaa h2];obtain ⟨k,r,hb,hn,hk,_⟩:=xZ b 0 0 qo h1
  simp_all
 rw[aaa h1] at h;exact absurd h h1
theorem xY:∀ (k m i acc:Nat) (r:List UInt8),m<128 ^ k->i<=9->(0<i->0<m)->acc+m*128 ^ i<18446744073709551616->eM i acc (aI m++r)=(acc+m*128 ^ i,i+eq (aI m),0)
 | 0,m,i,acc,r,hk,hi,hp,hb=>by
  have:m=0:=qo
  subst this;rw[nF qo];have:¬0<i:=fun h=>by omega
  obtain rfl:i=0:=qo
  rfl
 | k+1,m,i,acc,r,hk,hi,hp,hb=>by
  have h9:i=9->m<=1:=fun h=>by grind
  by_cases hm:m<128
  ·rw[nF hm];have e:(UInt8.ofNat m).toNat=m:=abP (ab4 (m:=256) qo Nn);simp only[ab5,qy,e,abv]
   grind
  rw[ma hm];have e:(UInt8.ofNat (m % 128+128)).toNat=m % 128+128:=abP (ab4 (m:=256) qo Nn);simp only[aaJ,qy,e,aan]
  have hi9:i<9:=by
   omega
  rw[aaa qo,aab qo,show (m % 128+128) % 128=m % 128 from qo];have hdiv:m=m % 128+128*(m / 128):=qo
  have hsum:acc+m % 128*128 ^ i+m / 128*128 ^ (i+1)=acc+m*128 ^ i:=by
   grind
  rw[xY k (m / 128) (i+1) (acc+m % 128*128 ^ i) r qo qo (fun _=>by omega) (by rw[hsum];exact hb),hsum]
  grind
theorem iU{m n:Nat}(r:List UInt8)(hn:n<18446744073709551616)(hm:n<=m):aG m (aI n++r,0)=(n,(r,0)):=by
 have h:=xY 10 n 0 0 r qo qo (fun h=>by omega) qo
 simp_all [aG]
def qA{most:Int}{x:List UInt8}(r:List UInt8)(hx:eq x<18446744073709551616)(hm:(eq x:Int)<=most):bR most (cm x++r,0)=(x,(r,0)):=by
 have h:=iU (m:=most.toNat) (n:=eq x) (x++r) hx qo
 simp_all [bR,cm]
def dQ:List UInt8->Nat
 | []=>0
 | c::r=>c.toNat+256*dQ r
def Gf(m:Int)(b:List UInt8)(e:Int):eq (bR m (b,e)).1<=eq b/\eq (bR m (b,e)).2.1<=eq b:=by
 have h:=(nu m.toNat b e).2
 grind [bR]
theorem rC:∀ (l:List UInt8) (k:Nat),eq l<=k->dQ l<256 ^ k
 | [],k,_=>by simp[Nat.pow_pos,dQ]
 | c::l,0,h=>by simp at h
 | c::l,k+1,h=>by
  have:=rC l k (by simpa using h);have hc:=c.toNat_lt;rw[dQ,ab6];omega
end
section
def qJ{b:List UInt8}{e:Int}(h:(br (b,e)).2.2=0):e=0/\∃ c:UInt8,b=c::(br (b,e)).2.1/\(br (b,e)).1=c.toNat:=by
 unfold br at h ⊢
 grind
def lr{m:Nat}{b:List UInt8}{e:Int}(h:(aG m (b,e)).2.2=0):e=0/\b=aI (aG m (b,e)).1++(aG m (b,e)).2.1/\(aG m (b,e)).1<=m:=by
 by_cases he:e=0
 ·subst he;exact ⟨I,nt h⟩
 simp_all [aG]
def qB{m:Int}{b:List UInt8}{e:Int}(h:(bR m (b,e)).2.2=0):e=0/\b=cm (bR m (b,e)).1++(bR m (b,e)).2.1/\eq (bR m (b,e)).1<=m.toNat:=by
 unfold bR at h ⊢;dsimp only at h ⊢
 by_cases h1:(aG m.toNat (b,e)).2.2=0
 ·obtain ⟨he,hb,hm⟩:=lr h1;rw[aab h1] at h ⊢
  by_cases h2:eq (aG m.toNat (b,e)).2.1<(aG m.toNat (b,e)).1
  ·rw[aab h2] at h;simp at h
  rw[aaa h2]
  grind [List.take_append_drop,cm]
 rw[aaa h1] at h;exact absurd h h1
def Fs(c:UInt8)(r:List UInt8):br (c::r,0)=(c.toNat,(r,0)):=rfl
theorem pJ{b:List UInt8}{e:Int}:jp (b,e)=0↔e=0/\b=[]:=by
 show (if e=0/\0<eq b then (23:Int) else e)=0↔_
 grind
structure dy where
 kind:Int
 ses:Nat
 seq:Nat
 word:List UInt8
 wt:Int
 deriving DecidableEq
def dy.ok(c:dy):Prop:=(c.kind=1/\c.ses=0/\c.seq=0/\c.word=[]/\c.wt=0)\/((c.kind=2\/c.kind=3)/\eq c.word<=96/\0<=c.wt/\c.wt<=1073741824/\(c.kind=3->c.wt=0))
instance (c:dy):Decidable c.ok:=by unfold dy.ok;infer_instance
def dy.bytes(c:dy):List UInt8:=
 if c.kind=1 then [1] else if c.kind=2 then 2::(aI c.ses++(aI c.seq++(cm c.word++aI c.wt.toNat))) else 3::(aI c.ses++(aI c.seq++cm c.word))
def iH(c:dy):Option (List UInt8):=if c.ok then some c.bytes else none
def ac:Nat:=18446744073709551615
def ji(b:List UInt8):dy×Rd:=
 let x:=br (b,0)
 if x.1=1 then (⟨1,0,0,[],0⟩,x.2)
 else if x.1=2\/x.1=3 then
  let s:=aG ac x.2
  let q:=aG ac s.2
  let w:=bR 96 q.2
  if x.1=2 then (let t:=aG 1073741824 w.2;(⟨2,s.1,q.1,w.1,t.1⟩,t.2)) else (⟨3,s.1,q.1,w.1,0⟩,w.2)
 else (⟨x.1,0,0,[],0⟩,(x.2.1,if x.2.2=0 then 170 else x.2.2))
def iJ(b:List UInt8):Option dy:=if jp (ji b).2=0 then some (ji b).1 else none
def IP{c:dy}{b:List UInt8}(h:iJ b=some c):iH c=some b/\c.ses<=ac/\c.seq<=ac:=by
 unfold iJ at h
 split at h
 ·rename_i hend;simp only[aae] at h;unfold ji at h hend;dsimp only at h hend
  split at h
  ·rename_i h1;rw[aab h1] at hend;subst h;obtain ⟨e1,e2⟩:=pJ.1 hend;obtain ⟨_,c,hb,hc⟩:=qJ e1;rw[e2] at hb;rw[h1] at hc;have:c=1:=ab7.1 (by rw[<-hc];rfl);subst this;subst hb;exact ⟨I,aad _,aad _⟩
  rename_i h1;rw[aaa h1] at hend
  split at h
  ·rename_i h2;rw[aab h2] at hend
   split at h
   ·rename_i h3;rw[aab h3] at hend;subst h;obtain ⟨e1,e2⟩:=pJ.1 hend;obtain ⟨f1,hb1,hm1⟩:=lr e1;obtain ⟨f2,hb2,hm2⟩:=qB f1;obtain ⟨f3,hb3,hm3⟩:=lr f2;obtain ⟨f4,hb4,hm4⟩:=lr f3;obtain ⟨_,c,hb,hc⟩:=qJ f4;have:c=2:=ab7.1 (by rw[<-hc,h3];rfl);subst this;refine ⟨?_,hm4,hm3⟩;have hw:eq (bR 96 (aG ac (aG ac (br (b,0)).2).2).2).1<=96:=hm2;have ht:(aG 1073741824 (bR 96 (aG ac (aG ac (br (b,0)).2).2).2).2).1<=1073741824:=hm1;unfold iH;rw[aab (.inr ⟨.inl rfl,hw,Nm,aH,fun h=>by cases h⟩)];simp only[aae];rw[e2,aar] at hb1;have e:∀ (s q:Nat) (w:List UInt8) (t:Nat),(dy.mk 2 s q w t).bytes=2::(aI s++(aI q++(cm w++aI t))):=fun s q w t=>by rfl
    grind
   rename_i h3;rw[aaa h3] at hend;subst h;obtain ⟨e1,e2⟩:=pJ.1 hend;obtain ⟨f2,hb2,hm2⟩:=qB e1;obtain ⟨f3,hb3,hm3⟩:=lr f2;obtain ⟨f4,hb4,hm4⟩:=lr f3;obtain ⟨_,c,hb,hc⟩:=qJ f4;have h2':=h2.resolve_left h3;have:c=3:=ab7.1 (by rw[<-hc];exact h2');subst this;refine ⟨?_,hm4,hm3⟩;have hw:eq (bR 96 (aG ac (aG ac (br (b,0)).2).2).2).1<=96:=hm2;unfold iH;rw[aab (.inr ⟨.inr rfl,hw,aaC _,Nm,fun _=>rfl⟩)]
   grind [dy.bytes]
  rename_i h2;rw[aaa h2] at hend
  grind [pJ]
 cases h
theorem fZ(m:Nat)(s:Rd):(aG m s).1<=m:=by
 grind [aG]
def ec{α:Type}:Option α->Int
 | some _=>0
 | none=>170
def ob(o:Option (List UInt8)):List UInt8:=o.getD []
def dy.zero:dy:=⟨0,0,0,[],0⟩
def dy.v(c:dy):Array Value:=#[.int .i64 c.kind,.int .u64 (c.ses:Nat),.int .u64 (c.seq:Nat),.string ⟨c.word.toArray⟩,.int .i64 c.wt]
def lC{α:Type}{o:Option α}:ec o=0↔o.isSome=true:=by cases o <;> simp[ec]
def dy.bytes_length(c:dy)(h1:c.ses<=ac)(h2:c.seq<=ac)(h3:eq c.word<=96)(h4:c.wt<=1073741824):eq c.bytes<=200:=by
 have hmx:ac=18446744073709551615:=rfl
 grind [dH,dy.bytes,cm]
def confOK(last:Int):List Int->Prop
 | []=>True
 | v::r=>last<v/\v<7/\confOK v r
instance:∀ (last:Int) (l:List Int),Decidable (confOK last l)
 | _,[]=>.isTrue trivial
 | last,v::r=>by
  have:=instDecidableConfOK v r;unfold confOK
  infer_instance
def eH:List Int->Nat
 | []=>0
 | v::r=>2 ^ v.toNat+eH r
def bU(l:List Int):Option (List UInt8):=if l≠[]/\confOK (-1) l then some [UInt8.ofNat (eH l)] else none
def gG(n:Nat)(k:Nat):List Int:=((List.range k).filter (fun v=>decide (n / 2 ^ v % 2=1))).map Int.ofNat
def ft:List UInt8->Option (List Int)
 | [c]=>if c.toNat=0\/128<=c.toNat then none else some (gG c.toNat 7)
 | _=>none
def xP(n k:Nat):gG n (k+1)=gG n k++if n / 2 ^ k % 2=1 then [(k:Int)] else []:=by
 unfold gG;rw[List.range_succ,abG,aaX]
 grind
theorem tA(n:Nat):∀ k,eq (gG n k)<=k
 | 0=>by simp[gG]
 | k+1=>by
  rw[xP,aah];have:=tA n k
  split <;> simp <;> omega
theorem pq:∀ (l:List Int) (last:Int),confOK last l -> -1<=last->last<=6->(eq l:Int)<=6-last
 | [],_,_,_,_=>by simp;omega
 | v::r,last,h,h1,h2=>by
  obtain ⟨h3,h4,h5⟩:=h;have:=pq r v h5 qo qo;simp only[aan];omega
theorem pp:∀ (l:List Int) (last:Int),confOK last l -> -1<=last->∀ v∈l,0<=v/\v<7
 | [],_,_,_=>by simp
 | v::r,last,h,h1=>by
  obtain ⟨h3,h4,h5⟩:=h;intro u hu;simp only[aay] at hu;rcases hu with rfl|hu
  ·omega
  exact pp r v h5 qo u hu
def kP:Nat->List (List Int)
 | 0=>[[]]
 | m+1=>kP m++(kP m).map (fun l=>(6-(m:Int))::l)
theorem qT:∀ (m:Nat) (l:List Int) (last:Int),confOK last l->6-(m:Int)<=last->l∈kP m
 | 0,[],_,_,_=>by simp[kP]
 | 0,v::r,last,h,hm=>by obtain ⟨h1,h2,_⟩:=h;omega
 | m+1,[],last,h,hm=>by
  have:[]∈kP m:=qT m [] 6 trivial qo;simp[kP,this]
 | m+1,v::r,last,h,hm=>by
  obtain ⟨h1,h2,h3⟩:=h
  by_cases hv:v=6-(m:Int)
  ·have:=qT m r v h3 qo
   simp_all [kP]
  have:=qT m (v::r) (v-1) ⟨qo,h2,h3⟩ qo
  simp_all [kP]
def F1:∀ l∈kP 7,eH l<128/\gG (eH l) 7=l/\(l≠[]->0<eH l):=by decide +kernel
def zj{l:List Int}(h:confOK (-1) l):eH l<128/\gG (eH l) 7=l/\(l≠[]->0<eH l):=F1 l (qT 7 l (-1) h Nn)
def ET{l:List Int}{b:List UInt8}(h:bU l=some b):ft b=some l:=by
 unfold bU at h
 split at h
 ·rename_i hl;simp only[aae] at h;subst h;obtain ⟨h1,h2,h3⟩:=zj hl.2;have h4:=h3 hl.1;have e:(UInt8.ofNat (eH l)).toNat=eH l:=abP (show eH l<256 by omega);show (if (UInt8.ofNat (eH l)).toNat=0\/128<=(UInt8.ofNat (eH l)).toNat then none else some (gG (UInt8.ofNat (eH l)).toNat 7))=some l;rw[e,aaa qo,h2]
 cases h
def KA(x v:Nat)(hv:v<7)(hx:x<2 ^ v):Value.int .u8 (IntKind.u8.wrap (BitVec.ofInt 8 ((x:Nat):Int) ||| BitVec.ofInt 8 ((2 ^ v:Nat):Int)).toNat)=.int .u8 (x+2 ^ v:Nat):=by
 have hp:2 ^ v<=2 ^ 6:=abD qo qo
 have e:(BitVec.ofInt 8 ((x:Nat):Int) ||| BitVec.ofInt 8 ((2 ^ v:Nat):Int)).toNat=x+2 ^ v:=by
  rw[BitVec.toNat_or,abl,abl,abm,abm,aaQ qo,aaQ qo,Nat.or_comm];have:=acj hx 1
  grind
 rw[e,ju,aaQ qo]
def Mf(v:Nat)(hv:v<7):Value.int .u8 (IntKind.u8.wrap (1*2 ^ (min ((v:Nat):Int).toNat IntKind.u8.bits)))=.int .u8 (2 ^ v:Nat):=by
 obtain rfl|rfl|rfl|rfl|rfl|rfl|rfl:v=0\/v=1\/v=2\/v=3\/v=4\/v=5\/v=6:=qo
 all_goals rfl
def Me(x v:Nat)(hv:v<7):Value.int .u8 (((x:Nat):Int).fdiv (2 ^ (min ((v:Nat):Int).toNat IntKind.u8.bits)))=.int .u8 (x / 2 ^ v:Nat):=by
 have:min ((v:Nat):Int).toNat IntKind.u8.bits=v:=by
  have:IntKind.u8.bits=8:=rfl;omega
 grind
def L9(x:Nat)(hx:x<256):Value.int .u8 (IntKind.u8.wrap (BitVec.ofInt 8 ((x:Nat):Int) &&& BitVec.ofInt 8 1).toNat)=.int .u8 (x % 2:Nat):=by
 grind [ju]
theorem qw:∀ (l r:List Int) (last:Int),confOK last (l++r)↔confOK last l/\confOK (l.getLastD last) r
 | [],r,last=>by simp[confOK]
 | v::l,r,last=>by
  show (last<v/\v<7/\confOK v (l++r))↔(last<v/\v<7/\confOK v l)/\confOK ((v::l).getLastD last) r;rw[qw l r v]
  grind
theorem yb:∀ l r:List Int,eH (l++r)=eH l+eH r
 | [],r=>by simp[eH]
 | v::l,r=>by simp[eH,yb l r];omega
theorem BN:∀ (l:List Int) (last:Int),confOK last l -> -1<=last->eH l+2 ^ (last+1).toNat<=2 ^ (l.getLastD last+1).toNat
 | [],last,_,_=>by simp[eH]
 | v::l,last,h,h1=>by
  obtain ⟨h2,h3,h4⟩:=h;have:=BN l v h4 qo;have e:(v::l).getLastD last=l.getLastD v:=by cases l <;> simp[List.getLastD]
  rw[e];have h5:2 ^ (last+1).toNat<=2 ^ v.toNat:=abD Nn qo
  have h6:2 ^ (v+1).toNat=2*2 ^ v.toNat:=by
   rw[show (v+1).toNat=v.toNat+1 from qo,ab6];omega
  simp only[eH];omega
def iv(l:List Int):List Value:=l.map fun n=>Value.int .i64 n
def lH{l:List Int}{j:Nat}(h:j<eq l):(iv l)[j]?=some (.int .i64 l[j]):=by simp[iv,h]
def Gx(l r:List Int):iv (l++r)=iv l++iv r:=by simp[iv]
def vA(l:List Int):∀ u∈iv l,u.oneCell'=true:=by
 intro u hu;obtain ⟨b,_,rfl⟩:=aap.1 hu
 rfl
def Et(l:List Int)(i:Nat)(h:i<eq l)(d:Int):(l.take (i+1)).getLastD d=l[i]:=by
 grind
structure af where
 idx:Nat
 term:Nat
 kind:Int
 data:List UInt8
 deriving DecidableEq
def lT(kind:Int)(data:List UInt8):Prop:=(kind=0/\data=[])\/(kind=1/\(iJ data).isSome=true)\/(kind=2/\(ft data).isSome=true)
instance (k:Int) (d:List UInt8):Decidable (lT k d):=by unfold lT;infer_instance
def af.ok(e:af):Prop:=e.idx≠0/\e.term≠0/\lT e.kind e.data
instance (e:af):Decidable e.ok:=by unfold af.ok;infer_instance
def af.bytes(e:af):List UInt8:=aI e.idx++(aI e.term++(UInt8.ofNat e.kind.toNat::cm e.data))
def gH(e:af):Option (List UInt8):=if e.ok then some e.bytes else none
def jZ(b:List UInt8):af×Rd:=
 let i:=aG ac (b,0)
 let t:=aG ac i.2
 let k:=br t.2
 let d:=bR 512 k.2
 (⟨i.1,t.1,(k.1:Nat),d.1⟩,d.2)
def fL(b:List UInt8):Option af:=if jp (jZ b).2=0/\(jZ b).1.ok then some (jZ b).1 else none
theorem FI{b:List UInt8}{c:dy}(h:iJ b=some c):eq b<=200:=by
 obtain ⟨h1,h2,h3⟩:=IP h;unfold iH at h1
 split at h1
 ·rename_i hok;simp only[aae] at h1;rw[<-h1];rcases hok with ⟨h,_,_,hw,_⟩|⟨_,hw,h0,hm,_⟩
  ·rw[dy.bytes,aab h];simp
  exact dy.bytes_length c h2 h3 hw hm
 cases h1
theorem lu{k:Int}{d:List UInt8}(h:lT k d):eq d<=200:=by
 rcases h with ⟨_,rfl⟩|⟨_,h⟩|⟨_,h⟩
 ·simp
 ·grind [Option.isSome_iff_exists,FI]
 obtain ⟨c,hc⟩:=acn.1 h;unfold ft at hc
 split at hc
 ·simp
 cases hc
def qN{k:Int}{d:List UInt8}(h:lT k d):k=0\/k=1\/k=2:=by
 rcases h with ⟨h,_⟩|⟨h,_⟩|⟨h,_⟩
 all_goals omega
def af.bytes_length(e:af)(h:e.ok)(h1:e.idx<=ac)(h2:e.term<=ac):eq e.bytes<=250:=by
 have hmx:ac=18446744073709551615:=rfl;have e1:=dH (n:=e.idx) qo;have e2:=dH (n:=e.term) qo;have e3:=lu h.2.2
 grind [dH,af.bytes,cm]
def EA(e:af)(rest:List UInt8)(h:e.ok)(h1:e.idx<=ac)(h2:e.term<=ac):jZ (e.bytes++rest)=(e,(rest,0)):=by
 have hmx:ac=18446744073709551615:=rfl;have e3:=lu h.2.2;obtain ⟨k,hk⟩:∃ k:Nat,e.kind=(k:Nat):=aa2 (by have:=qN h.2.2;omega);have hk3:k<256:=by have:=qN h.2.2;omega
 have hb:e.bytes++rest=aI e.idx++(aI e.term++(UInt8.ofNat k::(cm e.data++rest))):=by simp[af.bytes,hk]
 unfold jZ;rw[hb];simp only[iU (m:=ac) _ (show e.idx<18446744073709551616 by omega) h1,iU (m:=ac) _ (show e.term<18446744073709551616 by omega) h2,Fs,qA (most:=512) _ (show eq e.data<18446744073709551616 by omega) qo];have:(UInt8.ofNat k).toNat=k:=abP qo;rw[this,<-hk]
def FF{e:af}{b:List UInt8}(h1:e.idx<=ac)(h2:e.term<=ac)(h:gH e=some b):fL b=some e:=by
 unfold gH at h
 split at h
 ·rename_i hok;simp only[aae] at h;have:=EA e [] hok h1 h2;rw[aar,h] at this;unfold fL;rw[this,aab ⟨rfl,hok⟩]
 cases h
def FG(b:List UInt8):(jZ b).1.idx<=ac/\(jZ b).1.term<=ac:=⟨fZ _ _,fZ _ _⟩
def Ft{e:af}{b:List UInt8}(h:fL b=some e):gH e=some b/\e.idx<=ac/\e.term<=ac:=by
 unfold fL at h
 split at h
 ·rename_i hc;obtain ⟨hend,hok⟩:=hc;simp only[aae] at h;have hbd:=FG b;rw[h] at hok hbd;refine ⟨?_,hbd⟩;obtain ⟨e1,e2⟩:=pJ.1 hend;unfold jZ at h;have e1:(bR 512 (br (aG ac (aG ac (b,0)).2).2).2).2.2=0:=e1;have e2:(bR 512 (br (aG ac (aG ac (b,0)).2).2).2).2.1=[]:=e2;dsimp only at h;obtain ⟨f1,hb1,_⟩:=qB e1;obtain ⟨f2,c,hb2,hc2⟩:=qJ f1;obtain ⟨f3,hb3,_⟩:=lr f2;obtain ⟨f4,hb4,_⟩:=lr f3;unfold gH;rw[aab hok];simp only[aae];rw[e2,aar] at hb1
  grind [Int.toNat_natCast,UInt8.ofNat_toNat,af.bytes]
 cases h
def af.zero:af:=⟨0,0,0,[]⟩
def af.v(e:af)(ao:Option Addr)(cap:Nat):Array Value:=#[.int .u64 (e.idx:Nat),.int .u64 (e.term:Nat),.int .i64 e.kind,.slice ao (eq e.data) cap]
structure aB where
 kind:Int
 frm:Int
 to:Int
 term:Nat
 idx:Nat
 lt:Nat
 com:Nat
 rnd:Nat
 good:Bool
 ents:List af
 off:Int
 whole:Int
 vot:List Int
 data:List UInt8
 deriving DecidableEq
inductive bT where
 | idx|lt|com|rnd|off|whole|good|ents|vot|data
 deriving DecidableEq
def cJ(k:Int):List bT:=
 if k=1 then [.idx,.lt] else if k=2 then [.good] else if k=3 then [.idx,.lt,.com,.rnd,.ents] else if k=4 then [.good,.idx,.rnd]
 else if k=5 then [.idx,.lt,.off,.whole,.vot,.data] else if k=6 then [.idx,.off] else []
def jI(x:Int):Nat:=(x % 18446744073709551616).toNat
def entsOK(at':Nat):Nat->List af->Prop
 | _,[]=>True
 | i,e::r=>e.ok/\e.idx=(at'+i+1) % 18446744073709551616/\at'<=e.idx/\entsOK at' (i+1) r
instance (at':Nat):∀ (i:Nat) (l:List af),Decidable (entsOK at' i l)
 | _,[]=>.isTrue trivial
 | i,e::r=>by
  have:=instDecidableEntsOK at' (i+1) r;unfold entsOK
  infer_instance
def fY:List af->List UInt8
 | []=>[]
 | e::r=>cm e.bytes++fY r
def bT.pok(m:aB):bT->Prop
 | .idx|.lt|.com|.rnd|.good=>True
 | .off=>0<=m.off/\m.off<=2097152
 | .whole=>0<=m.whole/\m.whole<=2097152
 | .ents=>entsOK m.idx 0 m.ents/\eq m.ents<=8
 | .vot=>(bU m.vot).isSome=true
 | .data=>eq m.data<=256/\m.off<=IntKind.i64.wrap (m.whole-eq m.data)
instance (m:aB) (f:bT):Decidable (f.pok m):=by cases f <;> unfold bT.pok <;> infer_instance
def bT.pby(m:aB):bT->List UInt8
 | .idx=>aI m.idx
 | .lt=>aI m.lt
 | .com=>aI m.com
 | .rnd=>aI m.rnd
 | .good=>[if m.good then 1 else 0]
 | .off=>aI (jI m.off)
 | .whole=>aI (jI m.whole)
 | .ents=>aI (eq m.ents)++fY m.ents
 | .vot=>ob (bU m.vot)
 | .data=>cm m.data
def bT.clr(m:aB):bT->aB
 | .idx=>{ m with idx:=0 }
 | .lt=>{ m with lt:=0 }
 | .com=>{ m with com:=0 }
 | .rnd=>{ m with rnd:=0 }
 | .good=>{ m with good:=false }
 | .off=>{ m with off:=0 }
 | .whole=>{ m with whole:=0 }
 | .ents=>{ m with ents:=[] }
 | .vot=>{ m with vot:=[] }
 | .data=>{ m with data:=[] }
def mA(c:Int)(s:Rd):Rd:=(s.1,if s.2=0 then c else s.2)
def lB:Nat->Rd->List af->Rd×List af
 | 0,s,l=>(s,l)
 | n+1,s,l=>lB n (mA (ec (fL (bR 512 s).1)) (bR 512 s).2) (l++[(fL (bR 512 s).1).getD af.zero])
def bT.get(s:Rd)(m:aB):bT->Rd×aB
 | .idx=>((aG ac s).2,{ m with idx:=(aG ac s).1 })
 | .lt=>((aG ac s).2,{ m with lt:=(aG ac s).1 })
 | .com=>((aG ac s).2,{ m with com:=(aG ac s).1 })
 | .rnd=>((aG ac s).2,{ m with rnd:=(aG ac s).1 })
 | .off=>((aG 2097152 s).2,{ m with off:=((aG 2097152 s).1:Nat) })
 | .whole=>((aG 2097152 s).2,{ m with whole:=((aG 2097152 s).1:Nat) })
 | .good=>(if 1<(br s).1 then mA 170 (br s).2 else (br s).2,{ m with good:=decide ((br s).1=1) })
 | .ents=>((lB (aG 8 s).1 (aG 8 s).2 m.ents).1,{ m with ents:=(lB (aG 8 s).1 (aG 8 s).2 m.ents).2 })
 | .vot=>(mA (ec (ft [UInt8.ofNat (br s).1])) (br s).2,{ m with vot:=(ft [UInt8.ofNat (br s).1]).getD [] })
 | .data=>((bR 256 s).2,{ m with data:=(bR 256 s).1 })
def gY:List bT->aB->aB
 | [],m=>m
 | f::r,m=>gY r (f.clr m)
def f9(m:aB):List bT->List UInt8
 | []=>[]
 | f::r=>f.pby m++f9 m r
def jo(m:aB):Prop:=m.idx=0/\m.lt=0/\m.com=0/\m.rnd=0/\m.good=false/\m.off=0/\m.whole=0/\m.ents=[]/\m.vot=[]/\m.data=[]
instance (m:aB):Decidable (jo m):=by unfold jo;infer_instance
def nG(n:Int):Prop:=0<=n/\n<7
instance (n:Int):Decidable (nG n):=by unfold nG;infer_instance
def fD(m:aB):List UInt8:=UInt8.ofNat m.kind.toNat::UInt8.ofNat m.frm.toNat::UInt8.ofNat m.to.toNat::aI m.term
def aB.pre(m:aB):Prop:=cJ m.kind≠[]/\nG m.frm/\nG m.to/\m.frm≠m.to/\m.term≠0
instance (m:aB):Decidable m.pre:=by unfold aB.pre;infer_instance
def aB.ok(m:aB):Prop:=m.pre/\(∀ f∈cJ m.kind,f.pok m)/\jo (gY (cJ m.kind) m)
instance (m:aB):Decidable m.ok:=by unfold aB.ok;infer_instance
def aB.body(m:aB):List UInt8:=fD m++f9 m (cJ m.kind)
def enc(m:aB):Option (List UInt8):=if m.ok then some (nO m.body) else none
def aB.zero:aB:=⟨0,0,0,0,0,0,0,0,false,[],0,0,[],[]⟩
structure aB.bd (m:aB):Prop where
 term:m.term<=ac
 idx:m.idx<=ac
 lt:m.lt<=ac
 com:m.com<=ac
 rnd:m.rnd<=ac
 off : -9223372036854775808<=m.off/\m.off<=9223372036854775807
 whole : -9223372036854775808<=m.whole/\m.whole<=9223372036854775807
 ents:∀ e∈m.ents,e.idx<=ac/\e.term<=ac/\eq e.data<=4194304
 entsL:eq m.ents<=4194304
 vot:∀ v∈m.vot,-9223372036854775808<=v/\v<=9223372036854775807
 votL:eq m.vot<=4194304
 dataL:eq m.data<=4194304
def E9(n:Nat):∀ k,k<=7->∀ v∈gG n k,0<=v/\v<7:=by
 intro k hk v hv;unfold gG at hv
 grind
def EV(x:List UInt8):eq ((ft x).getD [])<=7/\∀ v∈(ft x).getD [],0<=v/\v<7:=by
 unfold ft
 split
 ·split
  ·simp
  exact ⟨tA _ _,E9 _ 7 (aac _)⟩
 simp
end
section
def T:bg:={
 kinds:=[(1,.fn),(2,.int .i64),(3,.int .i64),(4,.bool),(5,.int .u8),(6,.int .u8),(9,.str),(10,.str),(11,.str),(12,.int .u64),(15,.ptr),(16,.ptr),(17,.ptr),(21,.int .i32),(22,.slice),(23,.ptr),(24,.ptr),(25,.ptr),(27,.fn),(28,.fn),(29,.int .u64),(30,.slice),(31,.slice),(32,.slice),(37,.int .i64),(38,.fn),(39,.slice),(40,.fn),(41,.fn),(42,.fn),(43,.fn),(44,.fn),(49,.fn),(53,.fn),(54,.fn),(55,.fn),(57,.fn),(58,.fn),(59,.fn),(60,.fn),(63,.slice),(64,.ptr),(65,.fn),(66,.fn),(67,.slice),(68,.slice),(69,.slice),(70,.map),(71,.slice),(76,.fn),(81,.fn),(86,.fn),(87,.fn),(88,.fn),(89,.fn),(91,.fn),(95,.fn),(96,.fn),(97,.fn),(98,.fn),(108,.fn),(109,.fn),(110,.fn),(113,.fn),(115,.fn),(116,.ptr),(117,.ptr),(120,.fn),(121,.fn),(122,.fn),(123,.fn),(124,.map),(127,.slice),(128,.fn),(129,.map),(130,.fn),(131,.fn),(132,.fn),(133,.fn),(134,.slice),(138,.fn),(139,.fn),(141,.fn),(142,.fn),(143,.fn),(145,.fn),(146,.fn),(147,.fn),(148,.fn),(149,.fn),(150,.fn),(151,.fn),(153,.fn),(154,.fn),(155,.fn),(156,.fn),(157,.fn),(158,.fn),(160,.fn),(161,.fn),(162,.fn),(164,.fn),(166,.fn),(167,.fn),(168,.fn),(169,.fn),(170,.fn),(171,.fn),(172,.fn),(173,.fn),(174,.fn),(175,.fn),(176,.fn),(180,.fn),(181,.ptr),(182,.fn),(183,.fn),(184,.fn),(185,.fn),(187,.fn),(188,.ptr),(189,.slice),(190,.slice),(194,.fn),(195,.fn),(198,.fn),(199,.fn),(200,.fn),(201,.fn),(203,.fn),(204,.fn),(205,.fn),(206,.fn),(207,.slice),(208,.fn),(209,.fn),(210,.fn),(211,.fn),(212,.fn),(215,.ptr),(216,.fn),(217,.fn),(218,.fn),(220,.fn),(221,.fn),(222,.fn),(224,.fn),(225,.ptr),(226,.fn),(227,.fn),(228,.ptr),(229,.fn),(230,.fn),(231,.fn),(232,.fn),(233,.fn),(234,.fn),(235,.fn),(236,.fn),(237,.fn),(238,.fn),(239,.fn),(240,.fn),(241,.fn),(242,.fn),(243,.fn),(244,.int .u64),(246,.fn),(247,.fn),(251,.fn),(253,.fn),(254,.fn),(257,.fn),(259,.ptr),(260,.fn),(261,.fn),(262,.fn),(263,.fn),(264,.fn),(265,.fn),(266,.int .u32),(267,.fn),(268,.fn),(269,.fn),(270,.fn),(271,.fn),(272,.fn),(273,.fn),(274,.fn),(275,.fn),(276,.fn),(277,.fn),(278,.fn),(279,.fn),(280,.int .i64),(282,.fn),(283,.fn),(284,.fn),(285,.fn),(286,.fn),(287,.fn),(288,.fn),(289,.fn),(290,.ptr),(291,.ptr),(294,.fn),(295,.fn),(299,.fn),(301,.fn),(303,.fn),(304,.fn),(305,.fn),(306,.fn),(307,.fn),(308,.fn),(309,.fn),(310,.int .u64),(311,.fn),(312,.fn),(313,.fn),(314,.fn),(315,.fn),(316,.ptr),(318,.fn),(319,.fn),(320,.fn),(326,.int .u8),(327,.int .u8),(328,.fn),(329,.ptr),(330,.int .i32),(331,.int .i32)],
 flds:=[(448,0),(449,1),(450,2),(451,3),(512,0),(513,1),(514,2),(515,3),(832,0),(833,1),(896,0),(897,1),(1152,0),(1216,0),(2112,0),(2113,1),(2114,2),(2115,3),(2116,4),(2117,5),(2118,6),(2119,7),(2120,8),(2121,9),(2122,10),(2123,11),(2124,12),(2125,13),(2176,0),(2177,1),(2178,2),(2179,3),(2180,4),(2181,5),(2182,6),(2183,7),(2184,8),(2185,9),(2186,10),(2187,11),(2188,12),(2189,13),(2240,0),(2241,1),(2242,2),(2243,3),(2304,0),(2305,1),(2306,2),(2307,3),(2880,0),(2944,0),(3008,0),(3009,1),(3010,2),(3011,3),(3072,0),(3073,1),(3074,2),(3075,3),(3200,0),(3201,1),(3202,2),(3203,3),(3264,0),(3265,1),(3266,2),(3267,3),(3904,0),(3905,1),(3968,0),(3969,1),(4608,0),(4609,1),(4610,2),(4611,3),(4612,4),(4613,5),(4614,6),(4615,7),(4616,8),(4617,9),(4672,0),(4673,1),(4674,2),(4675,3),(4676,4),(4677,5),(4678,6),(4679,7),(4680,8),(4681,9),(4736,0),(4737,1),(4800,0),(4801,1),(4928,0),(4929,1),(4930,2),(4992,0),(4993,1),(4994,2),(5056,0),(5057,1),(5058,2),(5059,3),(5060,4),(5120,0),(5121,1),(5122,2),(5123,3),(5124,4),(5248,0),(5249,1),(5250,2),(5251,3),(5252,4),(5253,5),(5312,0),(5313,1),(5314,2),(5315,3),(5316,4),(5317,5),(5376,0),(5377,1),(5378,2),(5440,0),(5441,1),(5442,2),(5888,0),(5889,1),(5890,2),(5891,3),(5892,4),(5952,0),(5953,1),(5954,2),(5955,3),(5956,4),(6336,0),(6337,1),(6338,2),(6339,3),(6340,4),(6400,0),(6401,1),(6402,2),(6403,3),(6404,4),(6528,0),(6529,1),(6592,0),(6593,1),(6720,0),(6721,1),(6722,2),(6723,3),(6724,4),(6725,5),(6726,6),(6727,7),(6728,8),(6729,9),(6730,10),(6731,45),(6732,50),(6733,51),(6784,0),(6785,1),(6786,2),(6787,3),(6788,4),(6789,5),(6790,6),(6791,7),(6792,8),(6793,9),(6794,10),(6795,45),(6796,50),(6797,51),(7104,0),(7105,1),(7168,0),(7169,1),(7552,0),(7553,1),(7554,2),(7555,3),(7556,4),(7557,6),(7558,10),(7559,11),(7560,12),(7561,13),(7616,0),(7617,1),(7618,2),(7619,3),(7620,4),(7621,6),(7622,10),(7623,11),(7624,12),(7625,13),(8000,0),(8001,1),(8002,2),(8003,3),(8004,4),(8064,0),(8065,1),(8066,2),(8067,3),(8068,4),(8640,0),(8641,1),(8704,0),(8705,1),(11328,0),(11329,1),(11330,2),(11331,3),(11392,0),(11393,1),(11394,2),(11395,3),(12224,0),(12225,1),(12226,2),(12227,3),(12228,4),(12229,5),(12230,6),(12288,0),(12289,1),(12290,2),(12291,3),(12292,4),(12293,5),(12294,6),(12544,0),(12545,1),(12608,0),(12609,1),(13632,0),(13633,1),(13634,2),(13696,0),(13697,1),(13698,2),(15872,0),(15873,1),(15936,0),(15937,1),(16320,0),(16321,4),(16384,0),(16385,4),(18688,0),(18689,2),(18690,3),(18752,0),(18753,2),(18754,3),(18944,0),(18945,1),(18946,2),(19008,0),(19009,1),(19010,2),(20544,0),(20545,1),(20546,2),(20547,3),(20608,0),(20609,1),(20610,2),(20611,3),(21248,0),(21249,1),(21250,2),(21251,3),(21252,4),(21253,5),(21254,6),(21255,7),(21256,8),(21257,9),(21258,10),(21312,0),(21313,1),(21314,2),(21315,3),(21316,4),(21317,5),(21318,6),(21319,7),(21320,8),(21321,9),(21322,10)],
 sls:=[(22,⟨36,17,184,.agg #[.int .i64 0,.int .i64 0,.int .u64 0,.int .i64 0,.int .i64 0,.int .i64 0,.int .u64 0,.int .u64 0,.int .u64 0,.int .u64 0,.int .u64 0,.bool false,.slice none 0 0,.int .i64 0,.int .i64 0,.slice none 0 0,.slice none 0 0]⟩),
  (30,⟨51,4,48,.agg #[.int .u64 0,.int .u64 0,.int .i64 0,.slice none 0 0]⟩),
  (31,⟨3,1,8,.int .i64 0⟩),
  (32,⟨5,1,1,.int .u8 0⟩),
  (39,⟨34,14,160,.agg #[.int .i64 0,.int .i64 0,.int .i64 0,.int .u64 0,.int .u64 0,.int .u64 0,.int .u64 0,.int .u64 0,.bool false,.slice none 0 0,.int .i64 0,.int .i64 0,.slice none 0 0,.slice none 0 0]⟩),
  (63,⟨80,5,56,.agg #[.int .i64 0,.int .i64 0,.int .i64 0,.int .u64 0,.slice none 0 0]⟩),
  (67,⟨85,3,24,.agg #[.pointer none,.pointer none,.pointer none]⟩),
  (68,⟨75,2,16,.agg #[.int .u64 0,.int .i64 0]⟩),
  (69,⟨78,3,24,.agg #[.int .i64 0,.int .i64 0,.int .u64 0]⟩),
  (71,⟨83,6,48,.agg #[.int .i64 0,.int .u64 0,.int .u64 0,.int .u64 0,.int .u64 0,.int .u64 0]⟩),
  (127,⟨29,1,8,.int .u64 0⟩),
  (134,⟨9,1,16,.string ⟨#[]⟩⟩),
  (189,⟨32,1,24,.slice none 0 0⟩),
  (190,⟨197,2,16,.agg #[.int .u64 0,.int .u64 0]⟩),
  (207,⟨214,3,24,.agg #[.nilFunc,.nilFunc,.nilFunc]⟩)] }
instance hT:bc Tryz.prog T where
 kinds:=by kernel_rfl
 flds:=by kernel_rfl
 sls:=by kernel_rfl
end
section
attribute [local irreducible] Code.wp wpList Calls
def jE{h:PH}{R:List PH}(ao:Option Addr)(c1:Nat)(bs:List UInt8)(n:Nat)(o:aZ h ao (eq bs) c1 5 1 (bv bs))(hn:n<18446744073709551616)(hb:eq bs<1099511627776):
  aj w0 132 [.slice ao (eq bs) c1,.int .u64 (n:Nat)] K (h::R)
   (fun v K' hs'=>∃ h',hs'=h'::R/\K'=K/\∃ ao' c',v=.slice ao' (eq (bs++aI n)) c'/\aZ h' ao' (eq (bs++aI n)) c' 5 1 (bv (bs++aI n))):=by
 refine cB Tryz.func132 ?_
 refine loop (σ:=List UInt8×Nat×Option Addr×Nat×PH) (fun x=>[(0,.slice x.2.2.1 (eq x.1) x.2.2.2.1),(1,.int .u64 (x.2.1:Nat)),(4,.slice none 0 0)]) (fun _=>K) (fun x=>x.2.2.2.2::R)
  (fun x=>aZ x.2.2.2.2 x.2.2.1 (eq x.1) x.2.2.2.1 5 1 (bv x.1)/\x.1++aI x.2.1=bs++aI n/\x.2.1<18446744073709551616) (fun x=>x.2.1) (bs,n,ao,c1,h) ⟨o,rfl,hn⟩ sb rfl rfl ?_
 rintro ⟨bs',m,ao',c',h'⟩ ⟨o',heq,hm⟩;dsimp only at o' heq hm ⊢
 have hbs:eq bs'<=eq bs+10:=by
  have h1:=congrArg List.length heq;have h2:=dH hn;simp at h1;omega
 refine sq<|acI<|bh 1 I (fun h1=>?_) (fun h1=>?_)
 ·refine au ?_;refine ar 2 I (ju m) (ar 0 I (v':=.int .u8 (m % 128+128:Nat)) (Ia m) (lit 0 #[.int .u8 (m % 128+128:Nat)] I Nn qk fun b=>app 0 1 I I o' (.inr ⟨0,I⟩) (nB b (m % 128+128) qo) I Nn (fM _) (by simp;omega) (by simp[maxLen];omega) fun ao2 c2 h2 o2=>au ?_));refine ar 1 I (v':=.int .u64 (m / 128:Nat)) (Ib m) (fin 1 I (bl (WQ.drop ?_)));rw[<-jD] at o2;have e1:eq (bs'++[UInt8.ofNat (m % 128+128)])=eq bs'+1:=by simp
  rw[<-e1] at o2;have e2:=ma (n:=m) qo
  exact bw (x:=(bs',m,ao',c',h')) (bs'++[UInt8.ofNat (m % 128+128)],m / 128,ao2,c2,h2) ⟨by rw[<-e1];rfl,rfl,rfl,trivial⟩ rfl rfl
   ⟨o2,by simp only[aaD,ab5];rw[<-e2];exact heq,aH⟩ aH
 refine fin 0 I (th (bY I (ex (xt (xt (xb (acF ?_)))) )));have hlt:m<128:=qo
 refine ar 2 I (ju m) (lit 0 #[.int .u8 (m % 256:Nat)] I Nn qk fun b=>app 0 1 I I o' (.inr ⟨0,I⟩) (nB b (m % 256) qo) I Nn (fM _) (by simp;omega) (by simp[maxLen];omega) fun ao2 c2 h2 o2=>fin 1 rfl (th (WC.drop (rt ?_))));rw[<-jD] at o2;have e1:m % 256=m:=qo
 have e2:bs'++[UInt8.ofNat (m % 256)]=bs++aI n:=by rw[e1,<-heq,nF hlt]
 have e3:eq bs'+1=eq (bs++aI n):=by rw[<-e2];simp
 rw[e2,e3] at o2;exact ah I (by rw[<-e3];rfl) ⟨h2,rfl,rfl,ao2,c2,rfl,o2⟩
def De{hb:PH}(ao:Option Addr)(cap:Nat)(b:List UInt8)(hm:In K hs hb)(x:aw hb ao (eq b) cap 1 (bv b))(hl:eq b<1099511627776):
  aj w0 192 [.slice ao (eq b) cap] K hs (fun v K' hs'=>K'=K/\hs'=hs/\v=.int .u32 ((lc b).toNat:Nat)):=by
 refine cB Tryz.func192 ?_
 refine loop (σ:=Nat) (fun j=>[(6,.slice ao (eq b) cap),(7,.int .i64 (eq b:Nat)),(8,.int .i64 (j:Nat)),(3,.int .u32 ((nT 4294967295#32 (b.take j)).toNat:Nat))]) (fun _=>K) (fun _=>hs) (fun j=>j<=eq b) (fun j=>eq b-j)
  0 (aad _) ⟨rfl,rfl,rfl,rfl,trivial⟩ rfl rfl ?_
 intro j hj;refine acI (bh 0 I (fun h1=>?_) (fun h1=>?_))
 ·have hlt:j<eq b:=qo
  refine au ?_;refine dR 0 j I I I x (pU hlt) fun a10 hc10=>ld 0 I hm hc10 (au ?_);refine ar 2 I (FS _) (ar 0 I (BY _ _) (au ?_))
  refine loop (σ:=Nat) (fun i=>[(16,.int .i64 (i:Nat)),(3,.int .u32 ((nK i (nT 4294967295#32 (b.take j) ^^^ BitVec.ofNat 32 b[j].toNat)).toNat:Nat)),(6,.slice ao (eq b) cap),(7,.int .i64 (eq b:Nat)),(8,.int .i64 (j:Nat))]) (fun _=>K) (fun _=>hs) (fun i=>i<=8) (fun i=>8-i)
   0 (aad _) ⟨rfl,rfl,rfl,rfl,rfl,trivial⟩ rfl rfl ?_
  intro i hi;refine acI (bh 0 I (fun h2=>?_) (fun h2=>?_))
  ·refine au ?_;refine ar 1 I (If _) (ar 1 I (Ih _) (ar 0 I (Kg _) (ar 0 I (Ig _) (ar 0 I (BY _ _) (au ?_)))));refine ar 0 I (aC qo) (fin 1 I ?_);exact bw (x:=i) (i+1) ⟨I,by rw[xG];rfl,rfl,rfl,rfl,trivial⟩ rfl rfl qo qo
  obtain rfl:i=8:=qo
  refine au ?_;refine ar 0 I (aC qo) (fin 1 I ?_);exact bw (x:=j) (j+1) ⟨I,I,I,by rw[lY b j hlt,EX];rfl,trivial⟩ rfl rfl qo qo
 obtain rfl:j=eq b:=qo
 refine au ?_;refine ar 1 I (J9 _) (au ?_);exact ah I I ⟨I,I,by rw[aaE];rfl⟩
end
section
attribute [local irreducible] Code.wp wpList Calls
def j4{hb:PH}(ao:Option Addr)(cap:Nat)(b:List UInt8)(hm:In K hs hb)(x:aw hb ao (eq b) cap 1 (bv b))(hl:eq b<1099511627776):
  aj w0 46 [.slice ao (eq b) cap] K hs
   (fun v K' hs'=>K'=K/\∃ h' ao' c',hs'=h'::hs/\v=.slice ao' (eq b) c'/\aZ h' ao' (eq b) c' 5 1 (bv b)):=by
 refine cB Tryz.func46 ?_;refine cb 1 I (fun h1=>?_) (fun h1=>?_)
 ·have hao:ao=none:=by simpa using h1
  subst hao
  have hb0:b=[]:=by
   cases b with
   | nil=>rfl
   | cons c r=>obtain ⟨a,ha,_⟩:=x.2.2 0 _ (by rfl);cases ha
  subst hb0;exact fin 0 I (th (cU I (acI (fin 1 I (acK (rT (WQ.em (ah I I ⟨I,em,none,0,I,I,aZ.nil _ _⟩))))))))
 refine au ?_;refine lit 0 #[] I Nn qk fun b5=>app 1 0 I I (aZ.ofPt (c:=#[]) (n:=0) Nm (by simp[maxLen])) (In.cons hm) x I Nn (fM _) (by simp;omega) (by simp[maxLen];omega) fun ao7 c7 g7 o7=>au ?_;have e:0+eq b=eq b:=aaI _;rw[e] at o7;exact ah I (by rw[e];rfl) ⟨rfl,g7,ao7,c7,rfl,rfl,o7⟩
def IW{hb:PH}(ao:Option Addr)(cap:Nat)(b:List UInt8)(hm:In K hs hb)(x:aw hb ao (eq b) cap 1 (bv b))(hl:eq b<1099511627776):
  aj w0 170 [.slice ao (eq b) cap] K hs
   (fun v K' hs'=>K'=K/\hs'=hs/\v=.tuple #[.int .u64 ((eM 0 0 b).1:Nat),.int .i64 ((eM 0 0 b).2.1:Nat),.int .i64 (eM 0 0 b).2.2]):=by
 refine cB Tryz.func170 ?_
 refine loop (σ:=Nat×Nat) (fun s=>[(5,.int .u64 (s.2:Nat)),(8,.slice ao (eq b) cap),(9,.int .i64 (eq b:Nat)),(10,.int .i64 (s.1:Nat))]) (fun _=>K) (fun _=>hs)
  (fun s=>s.1<=eq b/\s.1<=9/\s.2<128 ^ s.1/\eM s.1 s.2 (b.drop s.1)=eM 0 0 b) (fun s=>eq b-s.1) (0,0) ⟨aad _,qo,Nm,rfl⟩ ⟨rfl,rfl,rfl,rfl,trivial⟩ rfl rfl ?_
 rintro ⟨i,acc⟩ ⟨hi,hi9,hacc,hnum⟩;dsimp only at hi hi9 hacc hnum ⊢;refine acI (bh 0 I (fun h1=>?_) (fun h1=>?_))
 ·have hlt:i<eq b:=qo
  have hd:b.drop i=b[i]::b.drop (i+1):=aaF hlt;rw[hd] at hnum;have hc:=b[i].toNat_lt;generalize hcc:b[i]=c at *;have hm128:c.toNat % 128<128:=abH _ Nn;rw[qy] at hnum;refine au ?_;refine dR 1 i I I I x (by rw[pU hlt,hcc]) fun a13 hc13=>ld 0 I hm hc13 (au ?_);refine bh 1 I (fun h2=>?_) (fun h2=>?_)
  ·refine bh 2 I (fun h3=>?_) (fun h3=>?_)
   ·rw[aab ⟨qo,qo⟩] at hnum;refine au ?_;exact eJ I I I I ⟨I,I,by rw[<-hnum];rfl⟩
   rw[aaa qo,aaa qo] at hnum;have hb1:=tN hi9 hacc hm128 qo;refine au ?_;refine ar 2 I (zB _) (ar 0 I (bL qo) (ar 1 I (aC qo) (oI 0 I qo (.inl ⟨I,AS _ _ hi9 qo⟩) (ar 0 I (CK _ _ _ hacc hb1.1) (au ?_)))));refine bh 1 I (fun h4=>absurd h4 qo) (fun h4=>au ?_);refine bh 1 I (fun h5=>?_) (fun h5=>?_)
   ·refine bh 2 I (fun h6=>?_) (fun h6=>absurd h6 qo);rw[aab ⟨qo,qo⟩] at hnum;refine au ?_;exact eJ I I I I ⟨I,I,by rw[<-hnum];rfl⟩
   rw[aaa qo] at hnum;refine au ?_;refine ar 2 I (aC qo) (au ?_);exact eJ I I I I ⟨I,I,by rw[<-hnum];rfl⟩
  rw[aaa qo] at hnum;have hb1:=tN hi9 hacc hm128 qo;refine au ?_;refine ar 2 I (zB _) (ar 0 I (bL qo) (ar 1 I (aC qo) (oI 0 I qo (.inl ⟨I,AS _ _ hi9 qo⟩) (ar 0 I (CK _ _ _ hacc hb1.1) (au ?_)))));refine bh 1 I (fun h7=>?_) (fun h7=>?_)
  ·rw[aab qo] at hnum;refine au ?_;exact ar 0 I (aC qo) (fin 1 I (bw (x:=(i,acc)) (i+1,acc+c.toNat % 128*128 ^ i) sb I I ⟨aH,qo,hb1.2 qo,hnum⟩ aH))
  rw[aaa qo] at hnum;refine au ?_;refine bh 1 I (fun h8=>?_) (fun h8=>?_)
  ·refine bh 2 I (fun h9=>?_) (fun h9=>?_)
   ·rw[aab ⟨qo,qo⟩] at hnum;refine au ?_;exact eJ I I I I ⟨I,I,by rw[<-hnum];rfl⟩
   rw[aaa qo] at hnum;refine au ?_;refine ar 2 I (aC qo) (au ?_);exact eJ I I I I ⟨I,I,by rw[<-hnum];rfl⟩
  rw[aaa qo] at hnum;refine au ?_;refine ar 2 I (aC qo) (au ?_);exact eJ I I I I ⟨I,I,by rw[<-hnum];rfl⟩
 obtain rfl:i=eq b:=qo
 refine au ?_;exact eJ I I I I ⟨I,I,by rw[<-hnum,aaY];rfl⟩
end
section
attribute [local irreducible] Code.wp wpList Calls
def ej(rb:Nat)(hb:PH)(s:Rd)(h:PH):Prop:=∃ ao cap,h=pt rb #[.slice ao (eq s.1) cap,.int .i64 s.2] 249/\aw hb ao (eq s.1) cap 1 (bv s.1)
section
variable {w0:World} {K hb h:PH} {R:List PH} {rb:Nat}
def sJ(s:Rd)(r:ej rb hb s h):aj w0 106 [Nr rb] K (h::R) (fun v K' hs'=>K'=K/\hs'=h::R/\v=.int .i64 (jp s)):=by
 obtain ⟨ao,cap,rfl,x⟩:=r;obtain ⟨b,e⟩:=s;refine cB Tryz.func106 ?_;refine bh 0 I (fun h1=>?_) (fun h1=>?_)
 ·refine au ?_;refine bh 1 I (fun h2=>?_) (fun h2=>?_)
  ·refine au ?_;exact ah I I ⟨I,I,by simp_all [jp]⟩
  refine au ?_;exact ah I I ⟨I,I,by simp_all [jp]⟩
 refine au ?_;exact ah I I ⟨I,I,by rw[jp,aaa (fun h=>h1 h.1)];rfl⟩
def rY(s:Rd)(e:Int)(r:ej rb hb s h):aj w0 152 [Nr rb,.int .i64 e] K (h::R)
  (fun v K' hs'=>∃ h',hs'=h'::R/\K'=K/\v=.tuple #[]/\ej rb hb (s.1,if s.2=0 then e else s.2) h'):=by
 obtain ⟨ao,cap,rfl,x⟩:=r;obtain ⟨b,e0⟩:=s;refine cB Tryz.func152 ?_;refine bh 0 I (fun h1=>?_) (fun h1=>?_)
 ·refine au ?_;exact dA I ⟨_,I,I,I,ao,cap,by rw[aab h1];rfl,x⟩
 refine au ?_;exact dA I ⟨_,I,I,I,ao,cap,by rw[aaa h1],x⟩
def qa(hm:In K R hb)(s:Rd)(r:ej rb hb s h):aj w0 108 [Nr rb] K (h::R)
  (fun v K' hs'=>∃ h',hs'=h'::R/\K'=K/\v=.int .u8 ((br s).1:Nat)/\ej rb hb (br s).2 h'):=by
 obtain ⟨ao,cap,rfl,x⟩:=r;obtain ⟨b,e⟩:=s;refine cB Tryz.func108 ?_;refine bh 0 I (fun h1=>?_) (fun h1=>?_)
 ·dsimp only at h1;refine au ?_;refine bh 1 I (fun h2=>?_) (fun h2=>?_)
  ·dsimp only at h2;have hb0:b=[]:=aaZ qo;subst hb0;refine au ?_;exact ah I I ⟨_,I,I,by simp[br,h1],ao,cap,by simp[br,h1],by simpa[br,h1] using x⟩
  cases b with
  | nil=>exact absurd rfl h2
  | cons c r=>
   have hv:(br (c::r,e))=(c.toNat,(r,0)):=by simp[br,h1]
   refine au ?_;refine bh 0 I (fun h3=>absurd h1 h3) (fun h3=>au ?_);refine dR 0 0 I I I x (by rfl) fun a31 hc31=>ld 0 I (In.cons hm) hc31 (au ?_);refine sl 0 1 (eq r) I x I (by simp;omega) (by simp;omega) (ys:=bv r) (by simp[aav,bv]) fun ao38 c38 x38=>au ?_;rw[hv];exact ah I I ⟨_,I,I,I,ao38,c38,by rw[h1];rfl,x38⟩
 dsimp only at h1;have hv:(br (b,e))=(0,(b,e)):=by simp[br,h1]
 refine au ?_;refine bh 0 I (fun h4=>au ?_) (fun h4=>absurd h1 h4);rw[hv];exact ah I I ⟨_,I,I,I,ao,cap,I,x⟩
def gc(hm:In K R hb)(most:Nat)(s:Rd)(hl:eq s.1<1099511627776)(r:ej rb hb s h):aj w0 105 [Nr rb,.int .u64 (most:Nat)] K (h::R)
  (fun v K' hs'=>∃ h',hs'=h'::R/\K'=K/\v=.int .u64 ((aG most s).1:Nat)/\ej rb hb (aG most s).2 h'):=by
 obtain ⟨ao,cap,rfl,x⟩:=r;obtain ⟨b,e⟩:=s;refine cB Tryz.func105 ?_;refine bh 0 I (fun h1=>?_) (fun h1=>?_)
 ·dsimp only at h1;have hv:aG most (b,e)=(0,(b,e)):=by simp[aG,h1]
  refine au ?_;rw[hv];exact ah I I ⟨_,I,I,I,ao,cap,I,x⟩
 dsimp only at h1 hl x;have he:e=0:=qo
 subst he;refine au ?_;refine cl 0 I (IW ao cap b (In.cons hm) x hl) ?_;rintro v18 K18 hs18 ⟨rfl,rfl,rfl⟩;have hbd:=ua b 0 0 qo qo;have hun:aG most (b,0)=if (eM 0 0 b).2.2=0 then (if most<(eM 0 0 b).1 then (0,(b,22)) else ((eM 0 0 b).1,(b.drop (eM 0 0 b).2.1,0))) else (0,(b,(eM 0 0 b).2.2)):=by simp[aG]
 generalize eM 0 0 b=N at *;obtain ⟨nn,kk,ee⟩:=N;dsimp only at hun hbd ⊢;refine au ?_;refine bh 1 I (fun h2=>?_) (fun h2=>?_)
 ·subst h2;rw[aab rfl] at hun;refine bh 3 I (fun h3=>?_) (fun h3=>?_)
  ·rw[aab qo] at hun;refine au ?_;refine bh 1 I (fun h4=>au ?_) (fun h4=>absurd Nn h4);rw[hun];exact ah I I ⟨_,I,I,I,ao,cap,I,x⟩
  rw[aaa qo] at hun;refine au ?_;refine bh 1 I (fun h5=>absurd I h5) (fun h5=>au ?_);refine sl 1 kk (eq b-kk) I x I (by simp;omega) qo (ys:=bv (b.drop kk)) (by simp[aav,bv]) fun ao41 c41 x41=>au ?_;rw[hun];have e1:eq b-kk=eq (b.drop kk):=by simp
  rw[e1] at x41;exact ah I I ⟨_,I,I,I,ao41,c41,by rw[e1];rfl,x41⟩
 rw[aaa h2] at hun;refine au ?_;refine bh 1 I (fun h6=>au ?_) (fun h6=>absurd h2 h6);rw[hun];exact ah I I ⟨_,I,I,I,ao,cap,I,x⟩
def nU(hm:In K R hb)(most:Int)(hmost:most<=9223372036854775807)(s:Rd)(hl:eq s.1<1099511627776)(r:ej rb hb s h):aj w0 151 [Nr rb,.int .i64 most] K (h::R)
  (fun v K' hs'=>∃ h' new,hs'=new++h'::R/\K'=K/\∃ hx ao' c',new=[hx]/\v=.slice ao' (eq (bR most s).1) c'/\aZ hx ao' (eq (bR most s).1) c' 5 1 (bv (bR most s).1)/\ej rb hb (bR most s).2 h'):=by
 obtain ⟨ao,cap,rfl,x⟩:=r;obtain ⟨b,e⟩:=s;dsimp only at hl x ⊢;refine cB Tryz.func151 ?_;refine ar 3 I (v':=.int .u64 (most.toNat:Nat)) (by grind [bL]) (cl 0 I (gc hm most.toNat (b,e) hl ⟨ao,cap,I,x⟩) ?_);rintro v16 K16 hs16 ⟨h',rfl,rfl,rfl,ao',cap',rfl,x'⟩;have hres:bR most (b,e)=(let x:=aG most.toNat (b,e);if x.2.2=0 then (if eq x.2.1<x.1 then ([],(b,20)) else (x.2.1.take x.1,(x.2.1.drop x.1,0))) else ([],x.2)):=rfl;obtain ⟨hn,hb'⟩:=nu most.toNat b e;generalize aG most.toNat (b,e)=U at *;obtain ⟨nn,b',e'⟩:=U;dsimp only at hres x' hb' hn ⊢;refine au ?_;refine bh 0 I (fun h1=>?_) (fun h1=>?_)
 ·subst h1;rw[aab rfl] at hres;refine au ?_;refine ar 1 I (bL qo) (bh 0 I (fun h2=>?_) (fun h2=>?_))
  ·rw[aab qo] at hres;refine au ?_;refine bh 0 I (fun h3=>fin 0 I (th (cU I (acI (fin 1 I (acK (rT (WQ.em ?_)))))))) (fun h3=>absurd Nn h3);rw[hres];exact ah I I ⟨_,[em],I,I,em,none,0,I,I,aZ.nil _ _,ao,cap,I,x⟩
  rw[aaa qo] at hres;refine au ?_;refine bh 0 I (fun h4=>absurd I h4) (fun h4=>au ?_);have hle:nn<=eq b':=qo
  have e1:eq (b'.take nn)=nn:=by simp;omega
  have e2:eq (b'.drop nn)=eq b'-nn:=by simp
  refine sl 1 0 nn I x' I Nm qo (ys:=bv (b'.take nn)) (by simp[bv]) fun ao49 c49 x49=>?_;have hcl:=fun K hs hm=>j4 (w0:=w0) (K:=K) (hb:=hb) (hs:=hs) ao49 c49 (b'.take nn) hm (Ch x49 e1.symm rfl) (by simp;omega);rw[e1] at hcl;refine cl 0 I (hcl _ _ (In.cons hm)) ?_;rintro v50 K50 hs50 ⟨rfl,hx,aox,cx,rfl,rfl,ox⟩;refine au ?_;refine sl 1 nn (eq (b'.drop nn)) I x' I (by rw[e2];simp;omega) qo (ys:=bv (b'.drop nn)) (by simp[aav,bv]) fun ao57 c57 x57=>au ?_;rw[hres];exact ah I I ⟨_,[hx],I,I,hx,aox,cx,I,by rw[e1],by rw[e1];exact ox,ao57,c57,I,x57⟩
 rw[aaa h1] at hres;refine au ?_;refine bh 0 I (fun h5=>fin 0 I (th (cU I (acI (fin 1 I (acK (rT (WQ.em ?_)))))))) (fun h5=>absurd h1 h5);rw[hres];exact ah I I ⟨_,[em],I,I,em,none,0,I,I,aZ.nil _ _,ao',cap',I,x'⟩
end
def pY{hb:PH}(ao:Option Addr)(cap:Nat)(b:List UInt8)(hm:In K hs hb)(x:aw hb ao (eq b) cap 1 (bv b))(hl:eq b<1099511627776):
  aj w0 103 [.slice ao (eq b) cap] K hs
   (fun v K' hs'=>K'=K/\∃ rb h' hb',hs'=h'::hb'::hs/\v=Nr rb/\ej rb hb' (b,0) h'):=by
 refine cB Tryz.func103 ?_;refine cl 1 I (j4 ao cap b hm x hl) ?_;rintro v4 K4 hs4 ⟨rfl,hx,aox,cx,rfl,rfl,ox⟩;refine bd 0 (.agg #[.slice aox (eq b) cx,.int .i64 0]) I (fun w=>by kernel_rfl) (bx 0 I fun b6=>au ?_);exact ah I I ⟨I,b6,_,hx,I,I,aox,cx,I,ox.isS⟩
end
section
attribute [local irreducible] Code.wp wpList Calls
def nj{h hb:PH}{R:List PH}(ao:Option Addr)(c1:Nat)(bs:List UInt8)(ao2:Option Addr)(c2:Nat)(x:List UInt8)(o:aZ h ao (eq bs) c1 5 1 (bv bs))(hm:In K R hb)(xs:aw hb ao2 (eq x) c2 1 (bv x))
  (hb1:eq bs<549755813888) (hb2:eq x<549755813888):
  aj w0 193 [.slice ao (eq bs) c1,.slice ao2 (eq x) c2] K (h::R)
   (fun v K' hs'=>∃ h',hs'=h'::R/\K'=K/\∃ ao' c',v=.slice ao' (eq (bs++cm x)) c'/\aZ h' ao' (eq (bs++cm x)) c' 5 1 (bv (bs++cm x))):=by
 have hu:=dH (n:=eq x) qo;refine cB Tryz.func193 ?_;refine ar 3 I (bL qo) (cl 0 I (jE ao c1 bs (eq x) o qo qo) ?_);rintro v9 K9 hs9 ⟨h',rfl,rfl,ao',c',rfl,o'⟩;have e1:eq (bs++aI (eq x))+eq x=eq (bs++cm x):=by simp[m9];omega
 refine app 1 0 I I o' (In.cons hm) xs I Nn (fM _) (by simp;omega) (by simp[maxLen];omega) fun ao11 c11 g11 o11=>au ?_;have e2:bv (bs++aI (eq x))++bv x=bv (bs++cm x):=by rw[<-jD,aaD];rfl
 rw[e2,e1] at o11;exact ah I (by rw[e1];rfl) ⟨g11,rfl,rfl,ao11,c11,rfl,o11⟩
def Lv{hb:PH}(ao:Option Addr)(cap:Nat)(b:List UInt8)(hm:In K hs hb)(x:aw hb ao (eq b) cap 1 (bv b))(hl:eq b<1099511627776):
  aj w0 134 [.slice ao (eq b) cap] K hs
   (fun v K' hs'=>K'=K/\∃ h',hs'=h'::hs/\(2097152<eq b/\v=.tuple #[.slice none 0 0,.int .i64 22] \/
    eq b<=2097152/\∃ ao' c',v=.tuple #[.slice ao' (eq (nO b)) c',.int .i64 0]/\aZ h' ao' (eq (nO b)) c' 5 1 (bv (nO b)))):=by
 refine cB Tryz.func134 ?_;refine bh 2 I (fun h1=>?_) (fun h1=>?_)
 ·exact fin 0 I<|th (cU I<|acI<|fin 2 I (acK (rT<|WQ.em (bM I I I ⟨I,em,I,.inl ⟨qo,I⟩⟩))))
 refine au ?_;refine cl 1 I (De ao cap b hm x hl) ?_;rintro v9 K9 hs9 ⟨rfl,rfl,rfl⟩;refine fin 1 I (acF (WL.em (cl 1 I (nj none 0 [] ao cap b (aZ.nil _ _) hm x Nm qo) ?_)));rintro v11 K11 hs11 ⟨h',rfl,rfl,ao',c',rfl,o'⟩;have hs32:=(lc b).isLt;have hpl:=m9 b;have hu:=dH (n:=eq b) qo;have hse:nO b=cm b++dg (lc b).toNat:=rfl;rw[abd] at o' ⊢;generalize (lc b).toNat=s at *;refine ar 1 I (ju s) (ar 1 I (uD s 8 Nn) (ar 0 I (ju _) (ar 1 I (uD s 16 Nn) (ar 0 I (ju _) (ar 1 I (uD s 24 Nn) (ar 0 I (ju _) (lit 0 #[.int .u8 (s % 256:Nat),.int .u8 (s / 2 ^ 8 % 256:Nat),.int .u8 (s / 2 ^ 16 % 256:Nat),.int .u8 (s / 2 ^ 24 % 256:Nat)] I Nn qk fun b23=>?_)))))));have e1:eq (cm b)+4=eq (nO b):=by rw[hse];simp[dg]
 have x4:aw (pt b23 #[.int .u8 (s % 256:Nat),.int .u8 (s / 2 ^ 8 % 256:Nat),.int .u8 (s / 2 ^ 16 % 256:Nat),.int .u8 (s / 2 ^ 24 % 256:Nat)] 5) (some ⟨b23,0,none⟩) 4 4 1 (bv (dg s)):=by
  rw[<-Gu];exact (aZ.ofPt (n:=4) (size:=1) Nm (by simp[maxLen])).isS
 refine app 0 1 I I o' (.inr ⟨0,I⟩) x4 I Nn (fM _) aH (by simp only[maxLen];omega) fun ao24 c24 g24 o24=>?_;rw[<-jD,<-hse,e1] at o24;refine fin 2 I (th (WC.drop (rt ?_)));exact bM I I I ⟨I,g24,I,.inr ⟨qo,ao24,c24,by rw[e1],o24⟩⟩
end
section
attribute [local irreducible] Code.wp wpList Calls
def nP{h:PH}{ao:Option Addr}{n n' cap e size:Nat}{xs ys:List Value}(x:aZ h ao n cap e size xs)(h1:n=n')(h2:xs=ys):aZ h ao n' cap e size ys:=by subst h1;subst h2;exact x
def l8(b m:Nat)(h:m<256):aZ (pt b #[.int .u8 (m:Nat)] 5) (some ⟨b,0,none⟩) 1 1 5 1 (bv [UInt8.ofNat m]):=
 nP (aZ.ofPt (n:=1) (size:=1) Nm (by simp[maxLen])) rfl (by simp[bv,p9 h])
def kK(k:IntKind)(n m:Nat):Value.int k (((n:Nat):Int).tmod ((m:Nat):Int))=.int k ((n % m:Nat):Int):=by rfl
def vh(n m:Nat)(h:n<18446744073709551616):Value.int .u64 (IntKind.u64.wrap (((n:Nat):Int).tdiv ((m:Nat):Int)))=.int .u64 (n / m:Nat):=by
 rw[<-Int.ofNat_tdiv];have:=Nat.div_le_self n m
 grind [bL]
def vB{b n ty:Nat}{c:Array Value}{fr:Nat×Nat}{xs:List Value}(h1:c.toList=xs)(h2:c.size=n):aw (pt b c ty fr) (some ⟨b,0,none⟩) n n 1 xs:=by
 subst h1;refine ⟨by simpa using h2,aac _,fun j u hu=>⟨_,I,?_⟩⟩
 simp_all [bf,cC.pt]
def AR:∀ (n:Nat) {hs:List PH},n<18446744073709551616 ->
  aj w0 150 [.int .u64 (n:Nat)] K hs
   (fun v K' hs'=>∃ h',hs'=h'::hs/\K'=K/\∃ ao' c',v=.slice ao' (eq (aI n)) c'/\aZ h' ao' (eq (aI n)) c' 5 1 (bv (aI n))):=by
 intro n
 induction n using Nat.strongRecOn with
 | ind n ih=>
 intro hs hn;refine enter Tryz.func150 qk I I I (acI (fin 1 I (acE (bh 1 I (fun h1=>?_) (fun h1=>?_)))))
 ·refine fin 0 I (th (cU I (acI (ar 1 I (jP qo) (lit 0 #[.int .u8 (n:Nat)] I Nn qk fun b8=>fin 1 I (acK (rT ?_)))))));rw[nF qo];exact ah I I ⟨_,I,I,_,_,I,l8 b8 n qo⟩
 refine fin 0 I (th (bY I (sk (acF (ar 1 I (kK .u64 n 128) (ar 0 I (jP qo) (ar 0 I (v':=.int .u8 (n % 128+128:Nat)) (by rw[jP qo];rfl) (lit 0 #[.int .u8 (n % 128+128:Nat)] rfl Nn qk fun b13=>fin 1 rfl (acF (ar 2 rfl (vh n 128 hn) (cl 0 rfl (ih (n / 128) qo qo) ?_)))))))))));rintro v17 K17 hs17 ⟨h',rfl,rfl,ao',c',rfl,o'⟩;have hu:=dH (n:=n / 128) qo;refine app 0 1 I I (l8 b13 (n % 128+128) qo) (.inr ⟨0,I⟩) o'.isS I Nn (fM _) aH (by simp only[maxLen];omega) fun ao18 c18 g18 o18=>fin 1 rfl (th (WC.drop (rt ?_)));rw[<-jD] at o18;have e1:1+eq (aI (n / 128))=eq (aI n):=by rw[ma (n:=n) qo];simp;omega
 have e2:[UInt8.ofNat (n % 128+128)]++aI (n / 128)=aI n:=by rw[ma (n:=n) qo];rfl
 rw[e1,e2] at o18;exact ah I I ⟨g18,I,I,ao18,c18,by rw[e1],o18⟩
def Ky{hb:PH}(ao:Option Addr)(cap:Nat)(x:List UInt8)(hm:In K hs hb)(xs:aw hb ao (eq x) cap 1 (bv x))(hl:eq x<1099511627776):
  aj w0 81 [.slice ao (eq x) cap] K hs
   (fun v K' hs'=>∃ h',hs'=h'::hs/\K'=K/\∃ ao' c',v=.slice ao' (eq (cm x)) c'/\aZ h' ao' (eq (cm x)) c' 5 1 (bv (cm x))):=by
 refine enter Tryz.func81 qk I I I (acI (fin 1 I (acF (ar 2 I (bL qo) (cl 0 I (AR (eq x) qo) ?_)))));rintro v7 K7 hs7 ⟨h',rfl,rfl,ao',c',rfl,o'⟩;have hu:=dH (n:=eq x) qo;refine fin 1 I (acF (app 2 0 I I o' (In.cons hm) xs I Nn (fM _) aH (by simp only[maxLen];omega) fun ao10 c10 g10 o10=>fin 1 rfl (acK ?_)));rw[<-jD] at o10;have e1:=m9 x;rw[<-e1] at o10;exact ah I I ⟨g10,I,I,ao10,c10,by rw[e1],o10⟩
end
section
attribute [local irreducible] Code.wp wpList Calls
def G5(q:List UInt8)(i:Nat)(h:i<eq q):dQ (q.drop i)=q[i].toNat+256*dQ (q.drop (i+1)):=by
 rw[aaF h,dQ]
end
section
attribute [local irreducible] Code.wp wpList Calls
def ot(o:Option (List UInt8))(hs:List PH)(v:Value)(hs':List PH):Prop:=
 ∃ h ao c,hs'=h::hs/\v=.tuple #[.slice ao (eq (ob o)) c,.int .i64 (ec o)]/\aZ h ao (eq (ob o)) c 5 1 (bv (ob o))
def kS{o:Option (List UInt8)}(h:o=none):ot o hs (.tuple #[.slice none 0 0,.int .i64 170]) (em::hs):=by subst h;exact ⟨em,none,0,I,I,aZ.nil _ _⟩
def n8{o:Option (List UInt8)}{l:List UInt8}{h:PH}{ao:Option Addr}{c:Nat}(e:o=some l)(x:aZ h ao (eq l) c 5 1 (bv l)):ot o hs (.tuple #[.slice ao (eq l) c,.int .i64 0]) (h::hs):=by subst e;exact ⟨h,ao,c,I,I,x⟩
def t9{c:dy}(h:¬c.ok):iH c=none:=aaa h
def qW(s:Rd):(br s).1<256:=by
 obtain ⟨b,e⟩:=s;unfold br;dsimp only
 split
 ·cases b with
  | nil=>decide
  | cons c r=>exact c.toNat_lt
 omega
def yV(s:Rd):eq (br s).2.1<=eq s.1:=by
 obtain ⟨b,e⟩:=s;unfold br
 grind
theorem jC(m:Nat)(s:Rd):eq (aG m s).2.1<=eq s.1:=(nu m s.1 s.2).2
def tI(m:Int)(s:Rd):eq (bR m s).1<=eq s.1/\eq (bR m s).2.1<=eq s.1:=Gf m s.1 s.2
def GB{b:List UInt8}(h:(br (b,0)).1=2):ji b=(⟨2,(aG ac (br (b,0)).2).1,(aG ac (aG ac (br (b,0)).2).2).1,(bR 96 (aG ac (aG ac (br (b,0)).2).2).2).1,(aG 1073741824 (bR 96 (aG ac (aG ac (br (b,0)).2).2).2).2).1⟩,(aG 1073741824 (bR 96 (aG ac (aG ac (br (b,0)).2).2).2).2).2):=by
 simp_all [ji]
def GA{b:List UInt8}(h:(br (b,0)).1=3):ji b=(⟨3,(aG ac (br (b,0)).2).1,(aG ac (aG ac (br (b,0)).2).2).1,(bR 96 (aG ac (aG ac (br (b,0)).2).2).2).1,0⟩,(bR 96 (aG ac (aG ac (br (b,0)).2).2).2).2):=by
 simp_all [ji]
def GC{b:List UInt8}(h:(br (b,0)).1=1):ji b=(⟨1,0,0,[],0⟩,(br (b,0)).2):=by
 unfold ji;dsimp only;rw[aab h]
def Gz{b:List UInt8}(h1:¬(br (b,0)).1=1)(h2:¬(br (b,0)).1=2)(h3:¬(br (b,0)).1=3):ji b=(⟨(br (b,0)).1,0,0,[],0⟩,((br (b,0)).2.1,if (br (b,0)).2.2=0 then 170 else (br (b,0)).2.2)):=by
 simp_all [ji]
def Bz{hb:PH}(ao:Option Addr)(cap:Nat)(b:List UInt8)(hm:In K hs hb)(x:aw hb ao (eq b) cap 1 (bv b))(hl:eq b<1099511627776):
  aj w0 82 [.slice ao (eq b) cap] K hs (fun v K' hs'=>K'=K/\hs'=hs/\v=.tuple #[.agg ((iJ b).getD dy.zero).v,.int .i64 (ec (iJ b))]):=by
 refine ent Tryz.func82 ?_;refine acI (al 0 (.agg #[.int .i64 0,.int .u64 0,.int .u64 0,.string ⟨#[]⟩,.int .i64 0]) I qk fun b2=>au ?_);refine cl 1 I (pY ao cap b (In.cons hm) x hl) ?_;rintro v7 K7 hs7 ⟨rfl,rb,h,hb',rfl,rfl,rd⟩;refine au ?_;refine cl 1 I (qa (.inr ⟨0,I⟩) (b,0) rd) ?_;rintro v9 K9 hs9 ⟨h1,rfl,rfl,rfl,rd1⟩;have hk256:=qW (b,0);have hl1:=yV (b,0);have hl2:=jC ac (br (b,0)).2;have hl3:=jC ac (aG ac (br (b,0)).2).2;have hl4:=(tI 96 (aG ac (aG ac (br (b,0)).2).2).2).2;dsimp only at hl1 hk256;refine ar 0 I (aC (x:=(((br (b,0)).1:Nat):Int)) qo) ?_
 skip
 refine bd 0 (.agg (dy.mk ((br (b,0)).1:Nat) 0 0 [] 0).v) I (fun w=>by kernel_rfl) ?_
 skip
 refine al 0 (.agg #[.int .i64 0,.int .u64 0,.int .u64 0,.string ⟨#[]⟩,.int .i64 0]) I qk fun b5=>?_;refine bJ 0 0 I I qk I I ?_;refine fin 0 I (th (jn (σ:=dy×Rd×PH) (fun s=>[(2,Nr b2),(4,Nr rb),(5,Nr b5)]) (fun s=>pt b5 s.1.v 93::s.2.2::hb'::pt b2 dy.zero.v 93::hs) (fun s=>(s.1,s.2.1)=ji b/\ej rb hb' s.2.1 s.2.2) ?_ ?_))
 ·refine au ?_;refine ai 0 I fun b17 h17=>fin 1 I (th (ax h17 I (fun e2=>?_) (fun e2=>?_)))
  ·refine sk (bl ?_);exact jx (⟨1,0,0,[],0⟩,(br (b,0)).2,h1) ⟨(GC (by grind)).symm,rd1⟩ ⟨I,I,I,trivial⟩ I (congrArg (fun k:Int=>pt b5 (dy.mk k 0 0 [] 0).v 93::h1::hb'::pt b2 dy.zero.v 93::hs) e2)
  refine sq<|acI (ai 0 I fun b19 h19=>fin 1 I<|th (ax h19 I (fun e4=>?_) (fun e4=>?_)))
  ·refine sk (th (sI h19 e4 I (acI (cl 1 I (Ct.at 1 I (gc (.inr ⟨1,I⟩) ac _ qo rd1)) ?_))));rintro v22 K22 hs22 ⟨h2,rfl,rfl,rfl,rd2⟩;refine au ?_;refine cl 1 I (Ct.at 1 I (gc (.inr ⟨1,I⟩) ac _ qo rd2)) ?_;rintro v25 K25 hs25 ⟨h3,rfl,rfl,rfl,rd3⟩;refine au ?_;refine cl 1 I (Ct.atN 1 I (nU (.inr ⟨1,I⟩) 96 qo _ qo rd3)) ?_;rintro v28 K28 hs28 ⟨h4,new,rfl,rfl,hx,aox,cx,rfl,rfl,ox,rd4⟩;refine sY 0 _ I (.inr ⟨0,I⟩) ox.isS qk (stp 1 1 I I I I (fin 0 I (th (WC.drop (acI (au ?_))))));refine ai 0 I fun b33 h33=>fin 0 I (th (ax h33 I (fun e6=>?_) (fun e6=>?_)))
   ·refine rg (cl 1 I (Ct.at 1 I (gc (.inr ⟨1,I⟩) 1073741824 _ qo rd4)) ?_);rintro v35 K35 hs35 ⟨h5,rfl,rfl,rfl,rd5⟩;have hw30:=fZ 1073741824 (bR 96 (aG ac (aG ac (br (b,0)).2).2).2).2;refine ar 0 I (aC qo) (stp 1 0 I I I I (fin 0 I (bl ?_)));exact jx (⟨2,(aG ac (br (b,0)).2).1,(aG ac (aG ac (br (b,0)).2).2).1,(bR 96 (aG ac (aG ac (br (b,0)).2).2).2).1,(aG 1073741824 (bR 96 (aG ac (aG ac (br (b,0)).2).2).2).2).1⟩,(aG 1073741824 (bR 96 (aG ac (aG ac (br (b,0)).2).2).2).2).2,h5) ⟨(GB (by grind)).symm,rd5⟩ ⟨I,I,I,trivial⟩ I (congrArg (fun k:Int=>pt b5 (dy.mk k (aG ac (br (b,0)).2).1 (aG ac (aG ac (br (b,0)).2).2).1 (bR 96 (aG ac (aG ac (br (b,0)).2).2).2).1 (aG 1073741824 (bR 96 (aG ac (aG ac (br (b,0)).2).2).2).2).1).v 93::h5::hb'::pt b2 dy.zero.v 93::hs) e4)
   refine absurd e4 e6
  refine rg (ai 0 I fun b20 h20=>fin 1 I<|th (ax h20 I (fun e8=>?_) (fun e8=>?_)))
  ·refine acI (cl 1 I (Ct.at 1 I (gc (.inr ⟨1,I⟩) ac _ qo rd1)) ?_);rintro v22 K22 hs22 ⟨h2,rfl,rfl,rfl,rd2⟩;refine au ?_;refine cl 1 I (Ct.at 1 I (gc (.inr ⟨1,I⟩) ac _ qo rd2)) ?_;rintro v25 K25 hs25 ⟨h3,rfl,rfl,rfl,rd3⟩;refine au ?_;refine cl 1 I (Ct.atN 1 I (nU (.inr ⟨1,I⟩) 96 qo _ qo rd3)) ?_;rintro v28 K28 hs28 ⟨h4,new,rfl,rfl,hx,aox,cx,rfl,rfl,ox,rd4⟩;refine sY 0 _ I (.inr ⟨0,I⟩) ox.isS qk (stp 1 1 I I I I (fin 0 I (th (WC.drop (acI (au ?_))))));refine ai 0 I fun b33 h33=>fin 0 I (th (ax h33 I (fun e10=>?_) (fun e10=>?_)))
   ·refine absurd e10 qo
   refine sk (bl ?_);exact jx (⟨3,(aG ac (br (b,0)).2).1,(aG ac (aG ac (br (b,0)).2).2).1,(bR 96 (aG ac (aG ac (br (b,0)).2).2).2).1,0⟩,(bR 96 (aG ac (aG ac (br (b,0)).2).2).2).2,h4) ⟨(GA (by grind)).symm,rd4⟩ ⟨I,I,I,trivial⟩ I (congrArg (fun k:Int=>pt b5 (dy.mk k (aG ac (br (b,0)).2).1 (aG ac (aG ac (br (b,0)).2).2).1 (bR 96 (aG ac (aG ac (br (b,0)).2).2).2).1 0).v 93::h4::hb'::pt b2 dy.zero.v 93::hs) e8)
  refine rg (cl 1 I (Ct.at 1 I (rY (br (b,0)).2 170 rd1)) ?_);rintro v15 K15 hs15 ⟨h2,rfl,rfl,rfl,rd2⟩;exact fin 0 I (bl (jx (⟨((br (b,0)).1:Nat),0,0,[],0⟩,((br (b,0)).2.1,if (br (b,0)).2.2=0 then 170 else (br (b,0)).2.2),h2) ⟨(Gz (fun h=>e2 (show ((br (b,0)).1:Int)=1 by omega)) (fun h=>e4 (show ((br (b,0)).1:Int)=2 by omega)) (fun h=>e8 (show ((br (b,0)).1:Int)=3 by omega))).symm,rd2⟩ sb I I))
 clear rd rd1;rintro ⟨c,s,h⟩ ⟨hc,rd⟩;dsimp only at hc rd ⊢;refine sq (acI (cl 1 I (Ct.keep 1 I (sJ s rd)) ?_));rintro v39 K39 hs39 ⟨rfl,rfl,rfl⟩;refine ai 0 I fun b40 h40=>?_;have hg:iJ b=if jp s=0 then some c else none:=by rw[iJ,<-hc]
 refine fin 0 I<|th (ax h40 I (fun e12=>?_) (fun e12=>?_))
 ·refine acI (bd 0 (.agg dy.zero.v) I (fun w=>by kernel_rfl) ?_);refine bJ 0 3 I I qk I I ?_;refine fin 1 I (acK (rT ?_));exact fU 3 4 I I I I qk ⟨I,I,by rw[hg,aaa e12];rfl⟩
 refine sk (acF (fh 0 0 I I qk ?_));refine bJ 0 3 I I qk I I ?_;refine fin 1 I (acK ?_);exact fU 3 4 I I I I qk ⟨I,I,by rw[hg,aab qo];rfl⟩
def uv(l:List Nat):List Value:=l.map fun n=>Value.int .u64 (n:Nat)
def J6{l:List Nat}{j:Nat}(h:j<eq l):(uv l)[j]?=some (.int .u64 (l[j]:Nat)):=by simp[uv,h]
def us:List Nat->List UInt8
 | []=>[]
 | n::r=>aI n++us r
theorem yG:∀ (l r:List Nat),us (l++r)=us l++us r
 | [],r=>rfl
 | n::l,r=>by simp[yG,us]
theorem vd:∀ (l:List Nat),(∀ n∈l,n<18446744073709551616)->eq (us l)<=10*eq l
 | [],_=>aac _
 | n::l,h=>by
  have h1:=vd l (fun x hx=>h x (by simp[hx]));have h2:=dH (h n Nm);simp only[us,aah,aan];omega
def zA{h hl:PH}{R:List PH}(ao:Option Addr)(c1:Nat)(bs:List UInt8)(al:Option Addr)(cl':Nat)(ns:List Nat)(o:aZ h ao (eq bs) c1 5 1 (bv bs))(hm:In K R hl)(x:aw hl al (eq ns) cl' 1 (uv ns))
  (hns:∀ n∈ns,n<18446744073709551616) (hb:eq bs<1099511627776) (hl':eq ns<1099511627776):
  aj w0 80 [.slice ao (eq bs) c1,.slice al (eq ns) cl'] K (h::R)
   (fun v K' hs'=>∃ h',hs'=h'::R/\K'=K/\∃ ao' c',v=.slice ao' (eq (bs++us ns)) c'/\aZ h' ao' (eq (bs++us ns)) c' 5 1 (bv (bs++us ns))):=by
 refine enter Tryz.func80 qk I I I (acI (fin 1 I (acE (fin 1 I (th (bk (loop (σ:=Nat×Option Addr×Nat×PH) (fun s=>[(0,.slice s.2.1 (eq (bs++us (ns.take s.1))) s.2.2.1),(1,.slice al (eq ns) cl'),(5,.int .i64 (s.1:Nat))]) (fun _=>K) (fun s=>s.2.2.2::R) (fun s=>s.1<=eq ns/\aZ s.2.2.2 s.2.1 (eq (bs++us (ns.take s.1))) s.2.2.1 5 1 (bv (bs++us (ns.take s.1)))) (fun s=>eq ns-s.1) (0,ao,c1,h) (by simpa[us] using o) (by simp only[us,abI,aar];exact sb) I I ?_)))))));rintro ⟨i,ao,c1,h⟩ ⟨hi,o⟩;dsimp only at hi o ⊢;refine sq (acI (ai 3 I fun b10 h10=>fin 0 I (th (ax h10 I (fun e2=>?_) (fun e2=>?_)))));have hus:=vd (ns.take i) (fun n hn=>hns n (aaW hn));have hlt:eq (ns.take i)<=eq ns:=by simp;omega
 ·have hin:i<eq ns:=qo
  refine sk (th (sq (bk (acI (dR 2 i I I I x (J6 hin) fun a15 hc15=>ld 0 I (In.cons hm) hc15 (cl 0 I (AR ns[i] (hns _ (abp hin))) ?_))))));rintro v17 K17 hs17 ⟨g17,rfl,rfl,ao17,c17,rfl,o17⟩;have hu:=dH (hns _ (abp hin));refine fin 1 I (acH (oh 2 1 (bs++us (ns.take i)) (aI ns[i]) I I I o (.inr ⟨0,I⟩) o17.isS (by simp only[aah];omega) fun ao20 c20 g20 o20=>?_));have e:bs++us (ns.take i)++aI ns[i]=bs++us (ns.take (i+1)):=by rw[aaD,lY ns i hin,yG];simp[us]
  rw[e] at o20 ⊢;exact fin 1 I (bl (th (WC.drop (rg (ar 1 I (aC qo) (fin 1 I (bw (x:=(i,ao,c1,h)) (i+1,ao20,c20,g20) sb I I ⟨qo,o20⟩ aH)))))))
 refine ex (xt (xt (xb (acF ?_))));obtain rfl:i=eq ns:=qo
 rw[aav (aac _)] at o ⊢;exact fin 2 I (acK (ah I I ⟨h,I,I,ao,c1,I,o⟩))
def Gi{w0:World}{K:PH}{hs:List PH}(c:dy)(hs1:c.ses<18446744073709551616)(hs2:c.seq<18446744073709551616):
  aj w0 33 [.agg c.v] K hs (fun v K' hs'=>K'=K/\ot (iH c) hs v hs'):=by
 refine enter Tryz.func33 qk I I I<|acI (bx 0 I fun b1=>fin 2 I<|acE<|a9 1 0 I I I (ai 0 I fun b8 h8=>fin 0 I<|th (ax h8 I (fun e2=>?_) (fun e2=>?_))))
 ·refine sq<|acI<|a9 1 0 I I I (ai 0 I fun b11 h11=>?_)
  refine' dx 1 4 16 [11,12] h11 I I I I I I I (fun _=>?x4) (fun b16 h16=>?_)
  case x4=>
   exact a9 1 0 I I I (ai 0 I fun b15 h15=>fin 1 I<|bK h15 I I I)
  refine' dx 1 4 21 [16,17] h16 I I I I I I I (fun _=>?x6) (fun b21 h21=>?_)
  case x6=>
   exact a9 1 0 I I I (MI 0 I fun b20 h20=>fin 1 I<|bK h20 I I I)
  refine' dx 1 4 26 [21,22] h21 I I I I I I I (fun _=>?x8) (fun b26 h26=>?_)
  case x8=>
   exact a9 1 0 I I I (ai 0 I fun b25 h25=>fin 1 I<|bK h25 I I I)
  refine fin 0 I<|th (ax h26 I (fun e10=>?_) (fun e10=>?_))
  ·refine acI (fin 2 I (acK (rT (rT (WQ.drop (WQ.em ?_))))));exact bM I I I ⟨I,kS (t9 fun ok=>ok.elim (fun ⟨h0,h1,h2,h3,h4⟩=>e10.elim (fun e=>e.elim (fun e=>e.elim (fun e=>e (by rw[h1];rfl)) (fun e=>e (by rw[h2];rfl))) (fun e=>e h3)) (fun e=>e h4)) (fun ⟨h1,_⟩=>by omega))⟩
  refine sk<|acF (lit 0 #[.int .u8 (1:Nat)] I Nn qk fun b27=>fin 2 I<|acK<|rT ?_)
  have hc:c=⟨1,0,0,[],0⟩:=by
   simp only[not_or,ne_eq,Decidable.not_not] at e10;obtain ⟨⟨⟨h1,h2⟩,h3⟩,h4⟩:=e10;obtain ⟨k,s,q,l,t⟩:=c;dsimp only[dy.v] at *
   simp_all
  subst hc;exact WQ.perm (aat _ _ _) (WQ.drop (bM I I I ⟨I,n8 Nn (l8 b27 1 Nn)⟩))
 refine sk<|acE<|a9 1 0 I I I (ai 0 I fun b30 h30=>?_)
 refine' dU 1 4 35 [30,31] h30 I I I I I I I (fun _=>?x12) (fun b35 h35=>?_)
 case x12=>
  exact a9 1 0 I I I (ai 0 I fun b34 h34=>fin 1 I<|bK h34 I I I)
 refine' dx 1 5 41 [35,36] h35 I I I I I I I (fun _=>?x14) (fun b41 h41=>?_)
 case x14=>
  exact a9 1 0 I I I (ai 1 I fun b40 h40=>fin 1 I<|bK h40 I I I)
 refine' dx 1 4 46 [41,42] h41 I I I I I I I (fun _=>?x16) (fun b46 h46=>?_)
 case x16=>
  exact a9 1 0 I I I (ai 0 I fun b45 h45=>fin 1 I<|bK h45 I I I)
 refine' dx 1 4 51 [46,47] h46 I I I I I I I (fun _=>?x18) (fun b51 h51=>?_)
 case x18=>
  exact a9 1 0 I I I (ai 0 I fun b50 h50=>fin 1 I<|bK h50 I I I)
 refine fin 0 I<|th (ax h51 I (fun e20=>?_) (fun e20=>?_))
 ·exact acI (fin 2 I (acK (rT (WQ.drop (WQ.em (bM I I I ⟨I,kS (t9 fun ok=>ok.elim (fun h=>e2 h.1) (fun ⟨h1,h2,h3,h4,h5⟩=>by simp only[ByteArray.size,abX] at e20;exact absurd e20 qo))⟩))))))
 refine sk<|acE<|a9 1 0 I I I (ai 0 I fun b54 h54=>?_)
 refine' dU 1 4 59 [54,55] h54 I I I I I I I (fun _=>?x22) (fun b59 h59=>?_)
 case x22=>
  exact a9 1 0 I I I (ai 0 I fun b58 h58=>fin 1 I<|bK h58 I I I)
 refine fin 0 I<|th (ax h59 I (fun e24=>?_) (fun e24=>?_))
 ·exact acI (fin 2 I<|acK<|rT (WQ.drop<|WQ.em (bM I I I ⟨I,kS (t9 fun ok=>ok.elim (fun h=>e2 h.1) (fun ⟨h1,h2,h3,h4,h5⟩=>e24.2<|h5 e24.1))⟩)))
 have hw96:eq c.word<=96:=by simp only[ByteArray.size,abX] at e20;omega
 refine sk (acF ?_);have hok:c.ok:=.inr ⟨qo,hw96,qo,qo,fun h=>by have:=e24;omega⟩;obtain ⟨t,ht⟩:∃ t:Nat,c.wt=(t:Nat):=aa2 qo;obtain ⟨k,hk⟩:∃ k:Nat,c.kind=(k:Nat):=aa2 qo;have hu1:=dH (n:=c.ses) hs1;have hu2:=dH (n:=c.seq) hs2;have hu3:=dH (n:=eq c.word) qo;refine a9 1 0 I I I (ar 0 I (v':=.int .u8 (k:Nat)) (by rw[hk,jP qo]) (lit 0 #[.int .u8 (k:Nat)] I Nn qk fun b63=>a9 1 1 I I I (a9 1 1 I I I (lit 0 #[.int .u64 (c.ses:Nat),.int .u64 (c.seq:Nat)] I Nn qk fun b68=>cl 0 I (Ct.at 1 I (zA _ _ [UInt8.ofNat k] _ _ [c.ses,c.seq] (l8 b63 k qo) (.inr ⟨0,I⟩) (vB I I) (by simp;omega) Nm Nm)) ?_))));rintro v69 K69 hs69 ⟨g69,rfl,rfl,ao69,c69,rfl,o69⟩;have hus:=vd [c.ses,c.seq] (by simp;omega)
 have husl:[c.ses,c.seq].length=2:=rfl;refine fin 1 I (th (WC.drop (acI (a9 1 1 I I I (D7 0 I qk fun b72 c72 g72 o72=>cl 0 I (Ky _ _ c.word (.inr ⟨0,I⟩) o72 qo) ?_)))));rintro v73 K73 hs73 ⟨g73,rfl,rfl,ao73,c73,rfl,o73⟩;have hpl:=m9 c.word;refine fin 1 I (th (WC.perm (aat _ _ _) (WC.drop (acI (oh 2 1 ([UInt8.ofNat k]++us [c.ses,c.seq]) (cm c.word) I I I o69 (.inr ⟨0,I⟩) o73.isS (by simp only[aah,abv];omega) fun ao76 c76 g76 o76=>fin 1 rfl (th (WC.drop (sq (acI (a9 1 1 rfl rfl rfl (ai 0 rfl fun b79 h79=>fin 0 rfl (th (ax h79 rfl (fun e26=>?_) (fun e26=>?_))))))))))))))
 ·refine rg (a9 2 1 I I I (ar 0 I (v':=.int .u64 (t:Nat)) (by rw[ht,bL qo]) (lit 0 #[.int .u64 (t:Nat)] I Nn qk fun b84=>cl 0 I (Ct.at 1 I (zA _ _ _ _ _ [t] o76 (.inr ⟨0,I⟩) (vB I I) (by simp;omega) (by simp only[aah,abv];omega) Nm)) ?_)));rintro v85 K85 hs85 ⟨g85,rfl,rfl,ao85,c85,rfl,o85⟩;exact fin 1 I (acF (fin 3 I (acK (WQ.drop (WQ.perm (aat _ _ _) (WQ.drop (bM I I I ⟨I,n8 (by (obtain rfl:k=2:=by omega);rw[iH,aab hok,dy.bytes,aaa qo,aab e26,ht];simp[us]) o85⟩)))))))
 exact sk (acF (fin 3 I (acK (WQ.perm (aat _ _ _) (WQ.drop (bM I I I ⟨I,n8 (by (obtain rfl:k=3:=by omega);rw[iH,aab hok,dy.bytes,aaa qo,aaa e26];simp[us]) o76⟩))))))
end
section
attribute [local irreducible] Code.wp wpList Calls
def yr{l:List Int}(h:¬(l≠[]/\confOK (-1) l)):bU l=none:=aaa h
def Eo(l:List Int)(i:Nat):confOK (-1) l↔confOK (-1) (l.take i)/\confOK ((l.take i).getLastD (-1)) (l.drop i):=by
 rw[<-qw,aaA]
def I9(l:List Int)(h:confOK (-1) l): -1<=l.getLastD (-1)/\l.getLastD (-1)<=6:=by
 have hm:=pp l (-1) h Nn;cases hl:l.getLast? with
 | none=>simp[abw,hl]
 | some v=>
  have:=hm v (List.mem_of_getLast? hl)
  grind
def GT(l:List Int)(i:Nat)(h:confOK (-1) (l.take i))(hi:i<eq l)(h1:(l.take i).getLastD (-1)<l[i]):eH (l.take i)<2 ^ l[i].toNat:=by
 have h2:=BN (l.take i) (-1) h Nn;have h3:2 ^ ((l.take i).getLastD (-1)+1).toNat<=2 ^ l[i].toNat:=abD Nn qo
 grind
def Eu(l:List Int)(i:Nat)(hi:i<eq l):eH (l.take (i+1))=eH (l.take i)+2 ^ l[i].toNat:=by
 grind [lY,yb,eH]
def xa(l:List Int)(i:Nat)(hi:i<eq l)(h:confOK (-1) (l.take i))(h1:(l.take i).getLastD (-1)<l[i])(h2:l[i]<7):confOK (-1) (l.take (i+1)):=by
 rw[lY l i hi,qw];exact ⟨h,h1,h2,trivial⟩
def xI(l:List Int)(i:Nat)(hi:i<eq l)(h:confOK (-1) l):(l.take i).getLastD (-1)<l[i]/\l[i]<7:=by
 rw[Eo l i] at h;obtain ⟨_,h2⟩:=h;rw[aaF hi] at h2;exact ⟨h2.1,h2.2.1⟩
def qX{w0:World}{K hv:PH}{hs:List PH}(ao:Option Addr)(cap:Nat)(l:List Int)(hm:In K hs hv)(x:aw hv ao (eq l) cap 1 (iv l))(hl:eq l<1099511627776):
  aj w0 87 [.agg #[.slice ao (eq l) cap]] K hs (fun v K' hs'=>K'=K/\ot (bU l) hs v hs'):=by
 refine ent Tryz.func87 ?_;refine acI (bx 0 I fun b1=>au ?_);refine loop (σ:=Nat) (fun i=>[(1,Nr b1),(4,.int .u8 (eH (l.take i):Nat)),(5,.int .i64 ((l.take i).getLastD (-1))),(9,.slice ao (eq l) cap),(10,.int .i64 (eq l:Nat)),(11,.int .i64 (i:Nat))]) (fun _=>K) (fun i=>pt b1 #[.slice ao (eq l) cap] 46::hs) (fun i=>i<=eq l/\confOK (-1) (l.take i)) (fun i=>eq l-i) 0 ⟨aad _,trivial⟩ ⟨I,I,I,I,I,I,trivial⟩ I I ?_;rintro i ⟨hi,hc⟩;refine acI (ai 0 I fun b12 h12=>?_);have hlast:=I9 _ hc;refine au ?_;refine ax h12 I (fun e2=>?_) (fun e2=>?_)
 ·have hin:i<eq l:=qo
  refine au ?_;refine dR 0 i I I I x (lH hin) fun a13 hc13=>ld 0 I (In.cons hm) hc13 (au ?_);refine ai 2 I fun b17 h17=>?_
  refine' dx 1 3 21 [17,18] h17 I I I I I I I (fun _=>?x4) (fun b21 h21=>?_)
  case x4=>
   exact ai 1 I fun b20 h20=>fin 1 I<|bK h20 I I I
  refine fin 0 I<|th (ax h21 I (fun e6=>?_) (fun e6=>?_))
  ·exact acI (fin 2 I (acK (rT (rB (rT (rT (rB (rT (WQ.drop (WQ.em (bM I I I ⟨I,kS (yr fun h=>by have:=xI l i hin h.2;omega)⟩)))))))))))
  have h1:(l.take i).getLastD (-1)<l[i]:=qo
  refine sk (acF ?_);have h2:l[i]<7:=qo
  obtain ⟨v,hv⟩:∃ v:Nat,l[i]=(v:Nat):=aa2 (show 0<=l[i] by omega);have hbt:=GT l i hc hin h1;have hbs:=Eu l i hin;have hlt:=Et l i hin (-1);have hcs:=xa l i hin hc h1 h2;rw[hv] at hbt hbs hlt h2 ⊢;simp only[aco] at hbt hbs;refine oI 2 I qo (.inl ⟨I,Mf v qo⟩) (ar 0 I (KA _ v qo hbt) (au ?_));refine ar 0 I (aC qo) (fin 1 I ?_);exact bw (x:=i) (i+1) ⟨I,by rw[hbs];rfl,by rw[hlt];rfl,rfl,rfl,rfl,trivial⟩ rfl rfl ⟨qo,hcs⟩ qo
 obtain rfl:i=eq l:=qo
 refine au ?_;rw[aav (aac _)] at hc ⊢;have hbb:=zj hc;refine ai 1 I fun b29 h29=>fin 0 I (th (ax h29 I (fun e8=>?_) (fun e8=>?_)))
 ·exact acI (fin 2 I (acK (rT (WQ.drop (WQ.em (bM I I I ⟨I,kS (yr fun h=>by have:=hbb.2.2 h.1;omega)⟩))))))
 refine sk (acF (lit 1 #[.int .u8 (eH l:Nat)] I Nn qk fun b31=>fin 2 I (acK (WQ.perm (aat _ _ _) (WQ.drop ?_)))));exact bM I I I ⟨I,n8 (by rw[bU,aab ⟨fun h=>by subst h;exact e8 I,hc⟩]) (l8 b31 (eH l) qo)⟩
def MD(o:Option (List Int))(hs:List PH)(v:Value)(hs':List PH):Prop:=
 ∃ h ao c,hs'=h::hs/\v=.tuple #[.agg #[.slice ao (eq (o.getD [])) c],.int .i64 (ec o)]/\aZ h ao (eq (o.getD [])) c 3 1 (iv (o.getD []))
def BM{l:List UInt8}{j:Nat}(h:j<eq l):(bv l)[j]?=some (.int .u8 ((l.getD j 0).toNat:Nat)):=by simp[bv,h,List.getD]
def wH{T:bg}{ops:Array Oper}{Q:Exit->Act->World->Prop}{rest rest':List Oper}{n:Nat}{l l':Sl}
  [hT:bc P T] (k i:Nat) (xs:List Int) (y:Int) {d:Nat} {si:d9} {ao ao2:Option Addr} {c1 c2:Nat} {h h2:PH} (h0:jN T ops n k rest l=some (d,si,(ao,eq xs,c1),(ao2,1,c2),rest',l'))
  (hi:hs[i]?=some h) (hsz:(si.size,si.bytes,si.zero.cells.size)=(1,8,1)) (o:aZ h ao (eq xs) c1 si.elem 1 (iv xs)) (hm:In K hs h2) (x:aw h2 ao2 1 c2 1 (iv [y])) (hb:eq xs<=17592186044415)
  (hk:∀ ao' cap' h',aZ h' ao' (eq (xs++[y])) cap' si.elem 1 (iv (xs++[y]))->WL P w0 ops Q rest' n ((d,.slice ao' (eq (xs++[y])) cap')::l') K (hs.set i h')):WL P w0 ops Q rest n l K hs:=by
 simp only[aag] at hsz;obtain ⟨e1,e2,e3⟩:=hsz;refine app k i h0 hi (by rw[e1];exact o) hm (by rw[e1];exact x) (by rw[e1,e3]) qo (vA _) (by rw[e2];omega) (by simp only[maxLen];omega) fun ao' cap' h' o'=>?_;have e:eq (xs++[y])=eq xs+1:=by simp
 simp_all [Gx]
def EU{c:UInt8}(h:¬(c.toNat=0\/128<=c.toNat)):ft [c]=some (gG c.toNat 7):=aaa h
def FH{b:List UInt8}(h:eq b≠1\/(b.getD 0 0).toNat=0\/128<=(b.getD 0 0).toNat):ft b=none:=by
 unfold ft
 grind
def q8{w0:World}{K hb:PH}{hs:List PH}(ao:Option Addr)(cap:Nat)(b:List UInt8)(hm:In K hs hb)(x:aw hb ao (eq b) cap 1 (bv b))(hl:eq b<1099511627776):
  aj w0 107 [.slice ao (eq b) cap] K hs (fun v K' hs'=>K'=K/\MD (ft b) hs v hs'):=by
 refine ent Tryz.func107 ?_;refine acI (al 0 (.agg #[.slice none 0 0]) I qk fun b2=>au ?_);refine ai 2 I fun b8 h8=>?_
 refine' dx 1 5 14 [8,9] h8 I I I I I I I (fun _=>?x2) (fun b14 h14=>?_)
 case x2=>
  exact dR 1 0 I I I x (BM qo) fun a11 hc11=>ld 0 I (In.cons hm) hc11 (ai 0 I fun b13 h13=>fin 1 I<|bK h13 I I I)
 refine' dx 1 5 20 [14,15] h14 I I I I I I I (fun _=>?x4) (fun b20 h20=>?_)
 case x4=>
  exact dR 1 0 I I I x (BM qo) fun a17 hc17=>ld 0 I (In.cons hm) hc17 (ai 0 I fun b19 h19=>fin 1 I<|bK h19 I I I)
 refine fin 0 I<|th (ax h20 I (fun e6=>?_) (fun e6=>?_))
 ·have hn:ft b=none:=FH qo;refine acI (bd 0 (.agg #[.slice none 0 0]) I (fun w=>by kernel_rfl) ?_);refine bJ 0 0 I I qk I I ?_;refine fin 1 I (acK (rT (WQ.em (WQ.perm (aat _ _ _) ?_))));exact fU 0 1 I I I I qk ⟨I,em,none,0,I,by rw[hn];rfl,by rw[hn];exact aZ.nil _ _⟩
 obtain ⟨c,rfl⟩:∃ c,b=[c]:=List.length_eq_one_iff.1 qo;refine sk (acF ?_);have hc:¬(c.toNat=0\/128<=c.toNat):=by simp only[List.getD_cons_zero] at e6;omega
 clear e6;have hn:=EU hc;refine al 0 (.agg #[.slice none 0 0]) I qk fun b4=>fin 0 I (acE (fin 1 I (th (bk (WC.em (loop (σ:=Nat×Option Addr×Nat×PH) (fun s=>[(0,.slice ao 1 cap),(2,Nr b2),(4,Nr b4),(22,.int .i64 (s.1:Nat))]) (fun _=>K) (fun s=>s.2.2.2::pt b4 #[.slice s.2.1 (eq (gG c.toNat s.1)) s.2.2.1] 46::pt b2 #[.slice none 0 0] 46::hs) (fun s=>s.1<=7/\aZ s.2.2.2 s.2.1 (eq (gG c.toNat s.1)) s.2.2.1 3 1 (iv (gG c.toNat s.1))) (fun s=>7-s.1) (0,none,0,em) ⟨Nn,aZ.nil _ _⟩ ⟨I,I,I,I,trivial⟩ I I ?_))))));rintro ⟨k,aoV,cV,g⟩ ⟨hk,o⟩;dsimp only at hk o ⊢;have hvl:=tA c.toNat k;have hvs:=xP c.toNat k;refine acI (ai 0 I fun b23 h23=>au ?_);refine ax h23 I (fun e8=>?_) (fun e8=>?_)
 ·have hk7:k<7:=qo
  refine au ?_;refine dR 1 0 I I I x I fun a26 hc26=>ld 0 I (In.cons3 hm) hc26 (oI 1 I qo (.inr ⟨I,Me c.toNat k hk7⟩) (ar 0 I (L9 _ (by have:=Nat.div_le_self c.toNat (2 ^ k);omega)) (ai 0 rfl fun b31 h31=>fin 0 rfl (th (ax h31 rfl (fun e10=>?_) (fun e10=>?_))))))
  ·have e10':c.toNat / 2 ^ k % 2=1:=qo
   refine rg ?_;rw[aab e10'] at hvs;refine au ?_;refine lit 1 #[.int .i64 (k:Nat)] I Nn qk fun b35=>wH 0 1 (gG c.toNat k) (k:Nat) I I I o (.inr ⟨0,I⟩) (vB I I) qo fun ao36 c36 g36 o36=>?_;rw[<-hvs] at o36 ⊢;exact stp 1 2 I I I I (fin 0 I (bl (th (WC.drop (rg (ar 0 I (aC qo) (fin 1 I (bw (x:=(k,aoV,cV,g)) (k+1,ao36,c36,g36) sb I I ⟨qo,o36⟩ qo))))))))
  have e10':¬c.toNat / 2 ^ k % 2=1:=qo
  refine sk (acG ?_);rw[aaa e10',aar] at hvs;refine ar 0 I (aC qo) (fin 1 I ?_);exact bw (x:=(k,aoV,cV,g)) (k+1,aoV,cV,g) sb I (by rw[<-hvs]) ⟨qo,by rw[hvs];exact o⟩ qo
 obtain rfl:k=7:=qo
 refine ex (xt (xt (xb (acF (fh 0 1 I I qk ?_)))));refine bJ 0 2 I I qk I I ?_;refine fin 1 I (acK (WQ.perm (aaN (l₁:=[_,_])).symm (WQ.drop ?_)));exact fU 0 1 I I I I qk ⟨I,g,aoV,cV,I,by rw[hn];rfl,by rw[hn];exact o⟩
def CV{hb:PH}(k:Int)(ao:Option Addr)(cap:Nat)(b:List UInt8)(hm:In K hs hb)(x:aw hb ao (eq b) cap 1 (bv b))(hl:eq b<1099511627776):
  aj w0 176 [.int .i64 k,.slice ao (eq b) cap] K hs (fun v K' hs'=>K'=K/\hs'=hs/\∃ t:Bool,v=.bool t/\(t=true↔lT k b)):=by
 refine ent Tryz.func176 ?_;refine acI (fin 1 I (acF (fin 1 I (th (jn (σ:=Int) (fun s=>[(5,.int .i64 s)]) (fun s=>hs) (fun s=>(s=0↔lT k b)) ?_ ?_)))))
 ·refine au ?_;refine ai 0 I fun b8 h8=>fin 1 I (th (ax h8 I (fun e2=>?_) (fun e2=>?_)))
  ·refine acI (ai 2 I fun b11 h11=>au ?_);exact jr (ah I I ⟨I,I,b11,I,h11.trans ⟨fun h=>.inl ⟨e2,aaZ qo⟩,fun h=>by rcases h with ⟨_,h⟩|⟨h,_⟩|⟨h,_⟩ <;> first|(rw[h];rfl)|(omega)⟩⟩)
  refine acI (ai 0 I fun b13 h13=>fin 1 I<|th (ax h13 I (fun e5=>?_) (fun e5=>?_)))
  ·refine rg (cl 1 I (Bz ao cap b hm x hl) ?_);rintro v16 K16 hs16 ⟨rfl,rfl,rfl⟩;exact fin 4 I (bl (jx (ec (iJ b)) ⟨fun h=>.inr (.inl ⟨e5,lC.1 h⟩),fun h=>lC.2 (by rcases h with ⟨h,_⟩|⟨_,h⟩|⟨h,_⟩ <;> first|exact h|(omega))⟩ sb rfl rfl))
  refine acI (ai 0 I fun b20 h20=>fin 1 I<|th (ax h20 I (fun e7=>?_) (fun e7=>?_)))
  ·refine rg (cl 1 I (q8 ao cap b hm x hl) ?_);rintro v23 K23 hs23 ⟨rfl,g,aog,cg,rfl,rfl,og⟩;exact fin 4 I (bl (WQ.drop (jx (ec (ft b)) ⟨fun h=>.inr (.inr ⟨e7,lC.1 h⟩),fun h=>lC.2 (by rcases h with ⟨h,_⟩|⟨h,_⟩|⟨_,h⟩ <;> first|exact h|(omega))⟩ sb rfl rfl)))
  refine au ?_;exact jr (ah I I ⟨I,I,false,I,⟨fun h=>by simp at h,fun h=>by have:=qN h;omega⟩⟩)
 rintro s hsd;refine acI (ai 1 I fun b27 h27=>au ?_);exact ah I I ⟨I,I,b27,I,h27.trans hsd⟩
def Gh{e:af}(h:¬e.ok):gH e=none:=aaa h
def uL{w0:World}{K hb:PH}{hs:List PH}(e:af)(ao:Option Addr)(cap:Nat)(h1:e.idx<=ac)(h2:e.term<=ac)(hm:In K hs hb)(x:aw hb ao (eq e.data) cap 1 (bv e.data))(hl:eq e.data<1099511627776):
  aj w0 202 [.agg (e.v ao cap)] K hs (fun v K' hs'=>K'=K/\ot (gH e) hs v hs'):=by
 have hmx:ac=18446744073709551615:=rfl;refine ent Tryz.func202 ?_;refine acI (bx 0 I fun b1=>au ?_);refine ai 0 I fun b7 h7=>?_
 refine' dx 1 4 12 [7,8] h7 I I I I I I I (fun _=>?x2) (fun b12 h12=>?_)
 case x2=>
  refine au ?_;exact ai 0 I fun b11 h11=>fin 1 I (bK h11 I I I)
 refine' dx 1 7 20 [12,13] h12 I I I I I I I (fun _=>?x4) (fun b20 h20=>?_)
 case x4=>
  refine au ?_;refine cl 0 I (CV e.kind ao cap e.data (In.cons hm) x hl) ?_;rintro v18 K18 hs18 ⟨rfl,rfl,b18,rfl,h18⟩;exact dE 0 _ I (kU h18) fun b19 h19=>fin 1 I (bK h19 I I I)
 refine fin 0 I<|th (ax h20 I (fun e5=>?_) (fun e5=>?_))
 ·exact acI (fin 2 I<|acK<|rT (WQ.drop<|WQ.em (bM I I I ⟨I,kS (Gh fun h=>e5.elim (fun h'=>h'.elim (fun h'=>h.1 qo) (fun h'=>h.2.1 qo)) (fun h'=>h' h.2.2))⟩)))
 have hok:e.ok:=⟨fun h=>e5 (.inl (.inl qo)),fun h=>e5 (.inl (.inr qo)),Decidable.not_not.1 fun h=>e5 (.inr h)⟩;refine sk (th (WC.em (sq (bG [pt b1 (Value.agg (e.v ao cap)).cells 51] 7 [0,2,6,8,5,11,12] Nm qk qk ?_))));have hd:=lu hok.2.2;have hkd:=qN hok.2.2;obtain ⟨k,hk⟩:∃ k:Nat,e.kind=(k:Nat):=aa2 (show 0<=e.kind by omega);have hu1:=dH (n:=e.idx) qo;have hu2:=dH (n:=e.term) qo;refine au ?_;refine cl 0 I (jE none 0 [] e.idx (aZ.nil _ _) qo Nm) ?_;rintro v23 K23 hs23 ⟨g23,rfl,rfl,ao23,c23,rfl,o23⟩;refine ba Nm I (aJ qk 0 I (cl 0 I (jE ao23 c23 _ e.term o23 qo (by simp;omega)) ?_));rintro v26 K26 hs26 ⟨g26,rfl,rfl,ao26,c26,rfl,o26⟩;refine ba Nm I (aM qk 1 I (th (sq (bG [pt b1 (Value.agg (e.v ao cap)).cells 51] 11 [0,2,4,6,12,14,9,11,17,18,20] Nm qk qk (au ?_)))))
 refine bA qk 0 I (v':=.int .u8 (k:Nat)) (by rw[hk,jP qo]) (au ?_);refine lit 0 #[.int .u8 (k:Nat)] I Nn qk fun b31=>ba Nm I (aJ qk 0 I (oh 0 1 _ [UInt8.ofNat k] I I I o26 (.inr ⟨0,I⟩) (nB b31 k qo) (by simp;omega) fun ao32 c32 g32 o32=>ba Nm rfl (aJ qk 0 rfl (cl 0 rfl (Ct.at 1 rfl (nj ao32 c32 _ ao cap e.data o32 (In.cons (In.cons hm)) x (by simp;omega) qo)) ?_))));rintro v35 K35 hs35 ⟨g35,rfl,rfl,ao35,c35,rfl,o35⟩;refine ba Nm I (aM qk 2 I (acK (WQ.drop (WQ.perm (aat _ _ _) (WQ.drop ?_)))));exact bM I I I ⟨I,n8 (by rw[gH,aab hok,af.bytes,hk];simp) o35⟩
def ME(o:Option af)(hs:List PH)(v:Value)(hs':List PH):Prop:=
 ∃ h ao c,hs'=h::hs/\v=.tuple #[.agg ((o.getD af.zero).v ao c),.int .i64 (ec o)]/\aZ h ao (eq (o.getD af.zero).data) c 5 1 (bv (o.getD af.zero).data)
def By{w0:World}{K hb:PH}{hs:List PH}(ao:Option Addr)(cap:Nat)(b:List UInt8)(hm:In K hs hb)(x:aw hb ao (eq b) cap 1 (bv b))(hl:eq b<1099511627776):
  aj w0 120 [.slice ao (eq b) cap] K hs (fun v K' hs'=>K'=K/\ME (fL b) hs v hs'):=by
 have hl1:=jC ac (b,0);have hl2:=jC ac (aG ac (b,0)).2;have hl3:=yV (aG ac (aG ac (b,0)).2).2;have hl4:=(tI 512 (br (aG ac (aG ac (b,0)).2).2).2).1;have hk256:=qW (aG ac (aG ac (b,0)).2).2;dsimp only at hl1;have hgE:jZ b=(⟨(aG ac (b,0)).1,(aG ac (aG ac (b,0)).2).1,((br (aG ac (aG ac (b,0)).2).2).1:Nat),(bR 512 (br (aG ac (aG ac (b,0)).2).2).2).1⟩,(bR 512 (br (aG ac (aG ac (b,0)).2).2).2).2):=rfl;refine ent Tryz.func120 ?_;refine acI (al 0 (.agg #[.int .u64 0,.int .u64 0,.int .i64 0,.slice none 0 0]) I qk fun b2=>au ?_);refine cl 1 I (pY ao cap b (In.cons hm) x hl) ?_;rintro v7 K7 hs7 ⟨rfl,rb,h,hb',rfl,rfl,rd⟩;refine au ?_;refine cl 1 I (gc (.inr ⟨0,I⟩) ac (b,0) hl rd) ?_;rintro v9 K9 hs9 ⟨h1,rfl,rfl,rfl,rd1⟩;refine cl 1 I (gc (.inr ⟨0,I⟩) ac _ qo rd1) ?_;rintro v11 K11 hs11 ⟨h2,rfl,rfl,rfl,rd2⟩
 refine cl 1 I (qa (.inr ⟨0,I⟩) _ rd2) ?_;rintro v13 K13 hs13 ⟨h3,rfl,rfl,rfl,rd3⟩;refine ar 0 I (aC (x:=(((br (aG ac (aG ac (b,0)).2).2).1:Nat):Int)) qo) ?_
 skip
 refine bd 0 (.agg<|(af.mk (aG ac (b,0)).1 (aG ac (aG ac (b,0)).2).1 ((br (aG ac (aG ac (b,0)).2).2).1:Nat) []).v none 0) I (fun w=>by kernel_rfl) ?_
 skip
 refine al 0 (.agg #[.int .u64 0,.int .u64 0,.int .i64 0,.slice none 0 0]) I qk fun b5=>?_;refine bJ 0 0 I I qk I I ?_;refine fin 0 I (acF (cl 1 I (Ct.atN 1 I (nU (.inr ⟨1,I⟩) 512 qo _ qo rd3)) ?_));rintro v17 K17 hs17 ⟨h4,new,rfl,rfl,hx,aox,cx,rfl,rfl,ox,rd4⟩;refine au ?_;refine cl 1 I (Ct.keep 2 I (sJ _ rd4)) ?_;rintro v20 K20 hs20 ⟨rfl,rfl,rfl⟩;refine ai 0 I fun b21 h21=>?_
 refine' dx 1 4 26 [21,22] h21 I I I I I I I (fun _=>?x2) (fun b26 h26=>?_)
 case x2=>
  refine au ?_;exact ai 0 I fun b25 h25=>fin 1 I (bK h25 I I I)
 refine' dx 1 4 31 [26,27] h26 I I I I I I I (fun _=>?x4) (fun b31 h31=>?_)
 case x4=>
  refine au ?_;exact ai 0 I fun b30 h30=>fin 1 I (bK h30 I I I)
 refine' dx 1 7 39 [31,32] h31 I I I I I I I (fun _=>?x6) (fun b39 h39=>?_)
 case x6=>
  refine au ?_;refine cl 0 I (CV _ aox cx _ (.inr ⟨0,I⟩) ox.isS qo) ?_;rintro v37 K37 hs37 ⟨rfl,rfl,b37,rfl,h37⟩;exact dE 0 _ I (kU h37) fun b38 h38=>fin 1 I (bK h38 I I I)
 refine fin 0 I<|th (ax h39 I (fun e7=>?_) (fun e7=>?_))
 ·have hn:fL b=none:=by
   rw[fL,aaa];rw[hgE];exact fun h=>e7.elim (fun h'=>h'.elim (fun h'=>h'.elim (fun h'=>h' h.1) (fun h'=>h.2.1 (abe.1 h'))) (fun h'=>h.2.2.1 (abe.1 h'))) (fun h'=>h' h.2.2.2)
  refine acI (bd 0 (.agg (af.zero.v none 0)) I (fun w=>by kernel_rfl) ?_);refine bJ 0 4 I I qk I I ?_;refine fin 1 I (acK (rT (WQ.drop (WQ.drop (WQ.drop (WQ.drop (WQ.em (WQ.perm (aat _ _ _) ?_))))))));exact fU 0 1 I I I I qk ⟨I,em,none,0,I,by rw[hn];rfl,by rw[hn];exact aZ.nil _ _⟩
 have hn:fL b=some (jZ b).1:=by
  rw[fL,aab];rw[hgE];exact ⟨Decidable.not_not.1 fun h=>e7 (.inl (.inl (.inl h))),fun h=>e7 (.inl (.inl (.inr (abe.2 h)))),fun h=>e7 (.inl (.inr (abe.2 h))),Decidable.not_not.1 fun h=>e7 (.inr h)⟩
 rw[hgE] at hn;refine sk (acF (fh 0 1 I I qk ?_));refine bJ 0 4 I I qk I I ?_;refine fin 1 I (acK ?_);refine WQ.perm (aaN (l₁:=[_,_,_,_])).symm (WQ.drop (WQ.drop (WQ.drop ?_)));exact fU 0 1 I I I I qk ⟨I,hx,aox,cx,I,by rw[hn];rfl,by rw[hn];exact ox⟩
def F7{w0:World}{K h1 h2:PH}{hs:List PH}(e1 e2:af)(a1 a2:Option Addr)(c1 c2:Nat)(m1:In K hs h1)(m2:In K hs h2)(x1:aw h1 a1 (eq e1.data) c1 1 (bv e1.data))(x2:aw h2 a2 (eq e2.data) c2 1 (bv e2.data)):
  aj w0 20 [.agg (e1.v a1 c1),.agg (e2.v a2 c2)] K hs (fun v K' hs'=>K'=K/\hs'=hs/\∃ b:Bool,v=.bool b/\(b=true↔e1=e2)):=by
 refine enter Tryz.func20 qk I I I<|acI (bx 0 I fun b2=>bx 0 I fun b3=>fin 1 I<|acF (a9 1 1 I I I<|a9 1 0 I I I (ai 0 I fun b9 h9=>?_)))
 refine' dU 1 6 16 [9,10] h9 I I I I I I I (fun _=>?x2) (fun b16 h16=>?_)
 case x2=>
  exact a9 1 1 I I I<|a9 1 0 I I I (ai 0 I fun b15 h15=>fin 1 I<|bK h15 I I I)
 refine' dU 1 6 23 [16,17] h16 I I I I I I I (fun _=>?x4) (fun b23 h23=>?_)
 case x4=>
  exact a9 1 1 I I I<|a9 1 0 I I I (ai 0 I fun b22 h22=>fin 1 I<|bK h22 I I I)
 refine' dU 1 8 32 [23,24] h23 I I I I I I I (fun _=>?x6) (fun b32 h32=>?_)
 case x6=>
  exact a9 1 1 I I I<|sY 0 _ I (In.cons<|In.cons m1) x1 qk (a9 1 0 I I I<|sY 0 _ I (In.cons<|In.cons m2) x2 qk (MK 0 I fun b31 h31=>fin 1 I<|bK h31 I I I))
 refine fin 1 I<|acK<|WQ.drop (WQ.drop ?_)
 exact ah I I ⟨I,I,b32,I,h32.trans ⟨fun ⟨⟨⟨g1,g2⟩,g3⟩,g4⟩=>by
  obtain ⟨i,t,k,d⟩:=e1;obtain ⟨i',t',k',d'⟩:=e2;dsimp only[af.v] at g1 g2 g3 g4;have g1:=abe.1 g1;have g2:=abe.1 g2;have g3:k=k':=g3;rw[g1,g2,g3,g4],fun h=>by subst h;exact ⟨⟨⟨I,I⟩,I⟩,I⟩⟩⟩
end
section
attribute [local irreducible] Code.wp wpList Calls
structure MA where
 ae:Option Addr
 ce:Nat
 av:Option Addr
 cv:Nat
 ad:Option Addr
 cd:Nat
def mv(m:aB)(p:MA):Array Value:=#[.int .i64 m.kind,.int .i64 m.frm,.int .i64 m.to,.int .u64 (m.term:Nat),.int .u64 (m.idx:Nat),.int .u64 (m.lt:Nat),.int .u64 (m.com:Nat),.int .u64 (m.rnd:Nat),.bool m.good,
 .slice p.ae (eq m.ents) p.ce,.int .i64 m.off,.int .i64 m.whole,.slice p.av (eq m.vot) p.cv,.slice p.ad (eq m.data) p.cd]
def dB(H:PH)(cs:List Value)(e:af):Prop:=∃ ao cap,cs=(e.v ao cap).toList/\aw H ao (eq e.data) cap 1 (bv e.data)
def eO(H:PH)(ao:Option Addr)(cap:Nat)(es:List af):Prop:=∃ css:List (List Value),aw H ao (eq es) cap 4 css.flatten/\dP (dB H) css es
def dr(H:PH)(m:aB)(p:MA):Prop:=eO H p.ae p.ce m.ents/\aw H p.av (eq m.vot) p.cv 1 (iv m.vot)/\aw H p.ad (eq m.data) p.cd 1 (bv m.data)
theorem dB.le{H H':PH}(l:Le H H'){cs:List Value}{e:af}(h:dB H cs e):dB H' cs e:=by
 obtain ⟨ao,cap,h1,h2⟩:=h;exact ⟨ao,cap,h1,h2.le l⟩
theorem dP.imp{α:Type}{R R':List Value->α->Prop}(h:∀ c x,R c x->R' c x):∀ {cs:List (List Value)} {xs:List α},dP R cs xs->dP R' cs xs
 | [],[],_=>trivial
 | _::_,_::_,g=>⟨h _ _ g.1,dP.imp h g.2⟩
 | [],_::_,g=>g.elim
 | _::_,[],g=>g.elim
theorem eO.le{H H':PH}(l:Le H H'){ao:Option Addr}{cap:Nat}{es:List af}(h:eO H ao cap es):eO H' ao cap es:=by
 obtain ⟨css,h1,h2⟩:=h;exact ⟨css,h1.le l,dP.imp (fun _ _=>dB.le l) h2⟩
theorem eO.nil(H:PH)(ao:Option Addr)(cap:Nat):eO H ao cap []:=⟨[],aw.nil _ _ _ _,trivial⟩
theorem dr.le{H H':PH}(l:Le H H'){m:aB}{p:MA}(h:dr H m p):dr H' m p:=⟨h.1.le l,h.2.1.le l,h.2.2.le l⟩
def cX(b:Nat):Value:=Nr b
def oq(f:bT)(m:aB)(bs:List UInt8)(R:List PH)(K:PH):Value->PH->List PH->Prop:=fun v K' hs'=>
 K'=K/\∃ h' ao' c' out,∃ t:Bool,hs'=h'::R/\v=.tuple #[.slice ao' (eq out) c',.bool t]/\(t=true↔f.pok m)/\(t=true->out=bs++f.pby m)/\aZ h' ao' (eq out) c' 5 1 (bv out)
def qi(f:bT)(m:aB)(mb:Nat)(R:List PH)(K:PH):Value->PH->List PH->Prop:=fun v K' hs'=>
 K'=K/\∃ p',hs'=pt mb (mv (f.clr m) p') 34::R/\dr K (f.clr m) p'
def qh(f:bT)(s:Rd)(m:aB)(p:MA)(rb mb:Nat)(hb:PH)(R:List PH)(K:PH):Value->PH->List PH->Prop:=fun v K' hs'=>
 Le K K'/\∃ h' p',hs'=h'::pt mb (mv (f.get s m).2 p') 34::R/\ej rb hb (f.get s m).1 h'/\dr K' (f.get s m).2 p'/\(f≠.ents->p'.ae=p.ae/\p'.ce=p.ce)
def gE(w0:World)(g off:Nat):Prop:=∀ (mb:Nat) (K:PH) (hs:List PH),aj w0 g [cX mb] K hs (fun v K' hs'=>K'=K/\hs'=hs/\v=.pointer (some ⟨mb,off,none⟩))
def t6:gE w0 181 4:=by
 intro mb K hs;exact enter Tryz.func181 qk I I I (acI (fin 1 I (acF (fin 4 I (acK (ah I I ⟨I,I,I⟩))))))
def tm:gE w0 182 5:=by
 intro mb K hs;exact enter Tryz.func182 qk I I I (acI (fin 1 I (acF (fin 4 I (acK (ah I I ⟨I,I,I⟩))))))
def tD:gE w0 184 6:=by
 intro mb K hs;exact enter Tryz.func184 qk I I I (acI (fin 1 I (acF (fin 4 I (acK (ah I I ⟨I,I,I⟩))))))
def tZ:gE w0 185 7:=by
 intro mb K hs;exact enter Tryz.func185 qk I I I (acI (fin 1 I (acF (fin 4 I (acK (ah I I ⟨I,I,I⟩))))))
def tC:gE w0 188 10:=by
 intro mb K hs;exact enter Tryz.func188 qk I I I (acI (fin 1 I (acF (fin 4 I (acK (ah I I ⟨I,I,I⟩))))))
def tY:gE w0 189 11:=by
 intro mb K hs;exact enter Tryz.func189 qk I I I (acI (fin 1 I (acF (fin 4 I (acK (ah I I ⟨I,I,I⟩))))))
section
variable {w0:World} {K h:PH} {R:List PH} {g off cb mb:Nat}
abbrev ie(ty g:Nat):Obj:=.cells #[.func (.func g) #[] #[]] ty (0,0)
def nE{cb ty g:Nat}(h:K cb=some (ie ty g)):cC K ⟨cb,0,none⟩ (.func (.func g) #[] #[]):=⟨rfl,_,_,_,h,rfl⟩
def KI(m:aB)(p:MA)(ao:Option Addr)(c1:Nat)(bs:List UInt8)(o:aZ h ao (eq bs) c1 5 1 (bv bs))(hb:eq bs<68719476736)(hs:gE w0 g off)(hc:K cb=some (ie 262 g))(n:Nat)(hn:n<=ac)(hv:(mv m p)[off]?=some (.int .u64 (n:Nat))):
  aj w0 229 [.slice ao (eq bs) c1,cX mb,cX cb] K (h::pt mb (mv m p) 34::R)
   (fun v K' hs'=>K'=K/\∃ h' ao' c',hs'=h'::pt mb (mv m p) 34::R/\v=.tuple #[.slice ao' (eq (bs++aI n)) c',.bool true]/\aZ h' ao' (eq (bs++aI n)) c' 5 1 (bv (bs++aI n))):=by
 have hmx:ac=18446744073709551615:=rfl;refine enter Tryz.func229 qk I I I (acI (fin 2 I (acF (ld 1 I (.inl I) (nE hc) (cl 1 I (hs mb _ _) ?_)))));rintro v10 K10 hs10 ⟨rfl,rfl,rfl⟩;refine a9 1 1 I I hv (cl 0 I (jE ao c1 bs n o qo qo) ?_);rintro v13 K13 hs13 ⟨g13,rfl,rfl,ao13,c13,rfl,o13⟩;exact fin 2 I (acK (bM I I I ⟨I,g13,ao13,c13,I,I,o13⟩))
def Fc(x:Int):Value.int .u64 (IntKind.u64.wrap x)=.int .u64 (jI x:Nat):=by
 grind [IntKind.wrap,IntKind.bits,IntKind.signed,jI]
def ur(x:Int):jI x<18446744073709551616:=by unfold jI;omega
def Hl(m:aB)(p:MA)(ao:Option Addr)(c1:Nat)(bs:List UInt8)(o:aZ h ao (eq bs) c1 5 1 (bv bs))(hb:eq bs<68719476736)(hs:gE w0 g off)(hc:K cb=some (ie 265 g))(n:Int)(hv:(mv m p)[off]?=some (.int .i64 n)):
  aj w0 238 [.slice ao (eq bs) c1,cX mb,cX cb] K (h::pt mb (mv m p) 34::R)
   (fun v K' hs'=>K'=K/\∃ h' ao' c',∃ t:Bool,hs'=h'::pt mb (mv m p) 34::R/\v=.tuple #[.slice ao' (eq (bs++aI (jI n))) c',.bool t]/\(t=true↔0<=n/\n<=2097152)/\aZ h' ao' (eq (bs++aI (jI n))) c' 5 1 (bv (bs++aI (jI n)))):=by
 refine enter Tryz.func238 qk I I I (acI (fin 2 I (acF (ld 0 I (.inl I) (nE hc) (cl 1 I (hs mb _ _) ?_)))));rintro v10 K10 hs10 ⟨rfl,rfl,rfl⟩;refine a9 1 1 I I hv (fin 1 I (acF (ar 2 I (Fc n) (cl 0 I (jE ao c1 bs (jI n) o (ur n) qo) ?_))));rintro v16 K16 hs16 ⟨g13,rfl,rfl,ao13,c13,rfl,o13⟩;refine ai 1 I fun b18 h18=>?_
 refine' dU 1 3 22 [18,19] h18 I I I I I I I (fun _=>?x2) (fun b22 h22=>?_)
 case x2=>
  exact ai 1 I fun b21 h21=>fin 1 I<|bK h21 I I I
 exact fin 2 I<|acK<|bM I I I ⟨I,g13,ao13,c13,b22,I,I,h22,o13⟩
def KK(c:Array Value)(hs:gE w0 g off)(hc:K cb=some (ie 262 g))(u:Value)(hu:c[off]?=some u):
  aj w0 231 [cX mb,cX cb] K (pt mb c 34::R)
   (fun v K' hs'=>K'=K/\hs'=pt mb (c.setIfInBounds off (.int .u64 0)) 34::R):=by
 refine enter Tryz.func231 qk I I I (rg (ld 0 I (.inl I) (nE hc) (cl 1 I (hs mb _ _) ?_)));rintro v5 K5 hs5 ⟨rfl,rfl,rfl⟩;exact stp 1 0 I I hu I (fin 0 I (dA I ⟨I,I⟩))
def Hn(c:Array Value)(hs:gE w0 g off)(hc:K cb=some (ie 265 g))(u:Value)(hu:c[off]?=some u):
  aj w0 240 [cX mb,cX cb] K (pt mb c 34::R)
   (fun v K' hs'=>K'=K/\hs'=pt mb (c.setIfInBounds off (.int .i64 0)) 34::R):=by
 refine enter Tryz.func240 qk I I I (rg (ld 0 I (.inl I) (nE hc) (cl 1 I (hs mb _ _) ?_)));rintro v5 K5 hs5 ⟨rfl,rfl,rfl⟩;exact stp 1 0 I I hu I (fin 0 I (dA I ⟨I,I⟩))
def KJ{c:Array Value}{rb:Nat}{hb:PH}(hi:In K (pt mb c 34::R) hb)(s:Rd)(hl:eq s.1<1099511627776)(rd:ej rb hb s h)(hs:gE w0 g off)(hc:K cb=some (ie 262 g))(u:Value)(hu:c[off]?=some u):
  aj w0 230 [cX rb,cX mb,cX cb] K (h::pt mb c 34::R)
   (fun v K' hs'=>K'=K/\∃ h',hs'=h'::pt mb (c.setIfInBounds off (.int .u64 ((aG ac s).1:Nat))) 34::R/\ej rb hb (aG ac s).2 h'):=by
 refine enter Tryz.func230 qk I I I (rg (ld 0 I (.inl I) (nE hc) (cl 1 I (hs mb _ _) ?_)));rintro v7 K7 hs7 ⟨rfl,rfl,rfl⟩;refine cl 1 I (gc hi ac s hl rd) ?_;rintro v9 K9 hs9 ⟨h9,rfl,rfl,rfl,rd9⟩;exact stp 1 1 I I hu I (fin 0 I (dA I ⟨I,h9,I,rd9⟩))
def Hm{c:Array Value}{rb:Nat}{hb:PH}(hi:In K (pt mb c 34::R) hb)(s:Rd)(hl:eq s.1<1099511627776)(rd:ej rb hb s h)(hs:gE w0 g off)(hc:K cb=some (ie 265 g))(u:Value)(hu:c[off]?=some u):
  aj w0 239 [cX rb,cX mb,cX cb] K (h::pt mb c 34::R)
   (fun v K' hs'=>K'=K/\∃ h',hs'=h'::pt mb (c.setIfInBounds off (.int .i64 ((aG 2097152 s).1:Nat))) 34::R/\ej rb hb (aG 2097152 s).2 h'):=by
 have hle:=fZ 2097152 s;refine enter Tryz.func239 qk I I I (rg (ld 0 I (.inl I) (nE hc) (cl 1 I (hs mb _ _) ?_)));rintro v7 K7 hs7 ⟨rfl,rfl,rfl⟩;refine cl 1 I (gc hi 2097152 s hl rd) ?_;rintro v9 K9 hs9 ⟨h9,rfl,rfl,rfl,rd9⟩;exact ar 0 I (aC qo) (stp 1 1 I I hu I (fin 0 I (dA I ⟨I,h9,I,rd9⟩)))
def Jv(m:aB)(p:MA)(ao:Option Addr)(c1:Nat)(bs:List UInt8)(o:aZ h ao (eq bs) c1 5 1 (bv bs))(hb:eq bs<68719476736):
  aj w0 232 [.slice ao (eq bs) c1,cX mb] K (h::pt mb (mv m p) 34::R) (oq .good m bs (pt mb (mv m p) 34::R) K):=by
 refine enter Tryz.func232 qk I I I<|acI<|fin 2 I (acE (a9 3 1 I I I (oO fun b9 h9=>fin 0 I<|th (ax h9 I (fun e1=>?_) (fun e1=>?_)))))
 ·refine acI (lit 1 #[.int .u8 (1:Nat)] I Nn qk fun b11=>oh 0 1 bs [1] I I I o (.inr ⟨0,I⟩) (nB b11 1 Nn) (by simp;omega) fun ao12 c12 g12 o12=>fin 2 rfl (acK (rT (WQ.drop ?_))));exact bM I I I ⟨I,g12,ao12,c12,_,true,I,I,by simp[bT.pok],fun _=>by rw[bT.pby,aab e1],o12⟩
 refine sk (acF (lit 1 #[.int .u8 (0:Nat)] I Nn qk fun b14=>oh 0 1 bs [0] I I I o (.inr ⟨0,I⟩) (nB b14 0 Nn) (by simp;omega) fun ao15 c15 g15 o15=>fin 2 rfl (acK (WQ.drop ?_))));exact bM I I I ⟨I,g15,ao15,c15,_,true,I,I,by simp[bT.pok],fun _=>by rw[bT.pby,aaa e1],o15⟩
def HF{rb:Nat}{hb h:PH}{s0:Rd}{m:aB}(e:(1:Int)<((br s0).1:Nat))(r:ej rb hb (mA 170 (br s0).2) h):ej rb hb ((bT.good).get s0 m).1 h:=by
 grind [bT.get]
def HG{rb:Nat}{hb h:PH}{s0:Rd}{m:aB}(e:¬(1:Int)<((br s0).1:Nat))(r:ej rb hb (br s0).2 h):ej rb hb ((bT.good).get s0 m).1 h:=by
 grind [bT.get]
def Jw{rb:Nat}{hb:PH}(m:aB)(p:MA)(hi:In K (pt mb (mv m p) 34::R) hb)(s0:Rd)(rd:ej rb hb s0 h)(hS:dr K m p):
  aj w0 233 [cX rb,cX mb] K (h::pt mb (mv m p) 34::R) (qh .good s0 m p rb mb hb R K):=by
 refine enter Tryz.func233 qk I I I (acI (cl 1 I (qa hi s0 rd) ?_));rintro v6 K6 hs6 ⟨h6,rfl,rfl,rfl,rd6⟩;refine fin 1 I (th (jn (σ:=PH) (fun s=>[(1,cX mb),(4,.int .u8 ((br s0).1:Nat))]) (fun s=>s::pt mb (mv m p) 34::R) (fun s=>ej rb hb ((bT.good).get s0 m).1 s) ?_ ?_))
 ·refine acI (ai 1 I fun b8 h8=>fin 0 I<|th (ax h8 I (fun e2=>?_) (fun e2=>?_)))
  ·refine rg (cl 1 I (rY (br s0).2 170 rd6) ?_);rintro v10 K10 hs10 ⟨h10,rfl,rfl,rfl,rd10⟩;exact fin 0 I (jx h10 (HF e2 rd10) sb I I)
  exact sk<|jx h6 (HG e2 rd6) sb I I
 rintro h6 rd6;refine rg (ai 2 I fun b13 h13=>?_)
 have hb13:b13=((bT.good).get s0 m).2.good:=by
  have:b13=true↔(br s0).1=1:=h13.trans ⟨fun h=>by omega,fun h=>by omega⟩;simp only[bT.get];cases b13 <;> simp_all
 subst hb13;exact stp 2 1 I I I I (fin 0 I (dA I ⟨Le.refl _,h6,p,I,rd6,hS,fun _=>⟨I,I⟩⟩))
end
def uK{f:bT}{m:aB}{bs:List UInt8}{R:List PH}(h:¬f.pok m):oq f m bs R K (.tuple #[.slice none 0 0,.bool false]) K (em::R):=
 ⟨rfl,em,none,0,[],false,rfl,rfl,⟨fun h=>(by cases h),fun h'=>absurd h' h⟩,(fun h=>by cases h),aZ.nil _ _⟩
theorem eO.get{H:PH}{e0:af}:∀ {css:List (List Value)} {es:List af} {i:Nat},dP (dB H) css es->i<eq es ->
  ∃ ae ce,aw H ae (eq (es.getD i e0).data) ce 1 (bv (es.getD i e0).data)/\∀ (j:Nat) v,((es.getD i e0).v ae ce).toList[j]?=some v->css.flatten[i*4+j]?=some v
 | [],[],i,_,h=>by simp at h
 | [],_::_,_,g,_=>g.elim
 | _::_,[],_,g,_=>g.elim
 | c::css,e::es,0,g,h=>by
  obtain ⟨⟨ae,ce,rfl,x⟩,_⟩:=g
  grind
 | c::css,e::es,i+1,g,h=>by
  obtain ⟨ae,ce,x,hx⟩:=eO.get (e0:=e0) (i:=i) g.2 (by simpa using h);obtain ⟨⟨ae',ce',rfl,_⟩,_⟩:=g
  grind [af.v]
theorem tj(a:Nat):∀ (l r:List af) (i:Nat),entsOK a i (l++r)↔entsOK a i l/\entsOK a (i+eq l) r
 | [],r,i=>by simp[entsOK]
 | e::l,r,i=>by
  show (e.ok/\e.idx=(a+i+1) % 18446744073709551616/\a<=e.idx/\entsOK a (i+1) (l++r))↔(e.ok/\e.idx=(a+i+1) % 18446744073709551616/\a<=e.idx/\entsOK a (i+1) l)/\entsOK a (i+(eq l+1)) r;rw[tj a l r (i+1),show i+1+eq l=i+(eq l+1) from qo];simp[and_assoc]
theorem wY:∀ l r:List af,fY (l++r)=fY l++fY r
 | [],r=>rfl
 | e::l,r=>by simp[wY,fY]
theorem td(a:Nat):∀ (l:List af) (i:Nat),entsOK a i l->(∀ e∈l,e.idx<=ac/\e.term<=ac)->eq (fY l)<=260*eq l
 | [],_,_,_=>by simp[fY]
 | e::l,i,h,hb=>by
  obtain ⟨h1,_,_,h4⟩:=h;have h5:=af.bytes_length e h1 (hb e Nm).1 (hb e Nm).2;have h6:=td a l (i+1) h4 (fun x hx=>hb x (by simp[hx]));have h7:=dH (n:=eq e.bytes) qo;simp only[fY,cm,aah,aan];omega
def w9(l:List af)(i:Nat)(h:i<eq l)(d:af):l.take (i+1)=l.take i++[l.getD i d]:=by
 simp_all
def GG{a:Nat}{l:List af}{i:Nat}(h:i<eq l)(d:af)(hok:entsOK a 0 l):(l.getD i d).ok/\(l.getD i d).idx=(a+i+1) % 18446744073709551616/\a<=(l.getD i d).idx:=by
 have h1:=(tj a (l.take i) (l.drop i) 0).1 (by rw[aaA];exact hok);have h2:=h1.2;rw[aaF h] at h2;have hl:eq (l.take i)=i:=by simp;omega
 obtain ⟨g1,g2,g3,_⟩:=h2
 simp_all
def Ef{a:Nat}{l:List af}{i:Nat}(h:i<eq l)(d:af)(h0:entsOK a 0 (l.take i))(h1:(l.getD i d).ok)(h2:(l.getD i d).idx=(a+i+1) % 18446744073709551616)(h3:a<=(l.getD i d).idx):entsOK a 0 (l.take (i+1)):=by
 rw[w9 l i h d,tj];have hl:eq (l.take i)=i:=by simp;omega
 exact ⟨h0,h1,qo,h3,trivial⟩
section
variable {w0:World} {K h:PH} {R:List PH} {mb:Nat}
def Jx(m:aB)(p:MA)(hS:dr K m p):aj w0 234 [cX mb] K (pt mb (mv m p) 34::R) (qi .good m mb R K):=by
 exact enter Tryz.func234 qk I I I<|rg (stp 3 0 I I I I<|fin 0 I (dA I ⟨I,p,I,hS⟩))
def JG(m:aB)(p:MA)(hS:dr K m p):aj w0 237 [cX mb] K (pt mb (mv m p) 34::R) (qi .ents m mb R K):=by
 exact enter Tryz.func237 qk I I I<|rg (stp 3 0 I I I I<|fin 0 I (dA I ⟨I,{ p with ae:=none,ce:=0 },I,eO.nil _ _ _,hS.2⟩))
def J5(m:aB)(p:MA)(hS:dr K m p):aj w0 243 [cX mb] K (pt mb (mv m p) 34::R) (qi .vot m mb R K):=by
 exact enter Tryz.func243 qk I I I<|rg (stp 3 0 I I I I<|fin 0 I (dA I ⟨I,{ p with av:=none,cv:=0 },I,hS.1,aw.nil _ _ _ _,hS.2.2⟩))
def JM(m:aB)(p:MA)(hS:dr K m p):aj w0 246 [cX mb] K (pt mb (mv m p) 34::R) (qi .data m mb R K):=by
 exact enter Tryz.func246 qk I I I<|rg (stp 3 0 I I I I<|fin 0 I (dA I ⟨I,{ p with ad:=none,cd:=0 },I,hS.1,hS.2.1,aw.nil _ _ _ _⟩))
theorem xU(l:List Int):eq (ob (bU l))<=1:=by
 unfold bU
 split <;> simp[ob]
def J3(m:aB)(p:MA)(ao:Option Addr)(c1:Nat)(bs:List UInt8)(o:aZ h ao (eq bs) c1 5 1 (bv bs))(hb:eq bs<68719476736)(hS:dr K m p)(hbd:m.bd):
  aj w0 241 [.slice ao (eq bs) c1,cX mb] K (h::pt mb (mv m p) 34::R) (oq .vot m bs (pt mb (mv m p) 34::R) K):=by
 have hcl:=xU m.vot;have hvl:=hbd.votL;refine enter Tryz.func241 qk I I I (acI (fin 2 I (acF (a9 3 1 I I I (bd 0 (.agg #[.slice p.av (eq m.vot) p.cv]) I (fun w=>by kernel_rfl) (cl 0 I (qX p.av p.cv m.vot (.inl I) hS.2.1 qo) ?_))))));rintro v14 K14 hs14 ⟨rfl,g,aog,cg,rfl,rfl,og⟩;exact fin 5 I (acF (oh 2 1 bs (ob (bU m.vot)) I I I o (.inr ⟨0,I⟩) og.isS qo fun ao19 c19 g19 o19=>ai 1 I fun b21 h21=>fin 2 I (acK (WQ.drop (bM I I I ⟨I,g19,ao19,c19,_,b21,I,I,h21.trans lC,fun _=>I,by exact o19⟩)))))
def J4{rb:Nat}{hb:PH}(m:aB)(p:MA)(hi:In K (pt mb (mv m p) 34::R) hb)(s:Rd)(rd:ej rb hb s h)(hS:dr K m p):
  aj w0 242 [cX rb,cX mb] K (h::pt mb (mv m p) 34::R) (qh .vot s m p rb mb hb R K):=by
 have hk:=qW s;refine enter Tryz.func242 qk I I I (acI (cl 1 I (qa hi s rd) ?_));rintro v8 K8 hs8 ⟨h6,rfl,rfl,rfl,rd6⟩;refine lit 0 #[.int .u8 ((br s).1:Nat)] I Nn qk fun b9=>cl 0 I (q8 (some ⟨b9,0,none⟩) 1 [UInt8.ofNat (br s).1] (.inr ⟨0,I⟩) (nB b9 _ hk) Nm) ?_;rintro v10 K10 hs10 ⟨rfl,gv,aov,cv,rfl,rfl,ov⟩;refine al 3 (.agg #[.slice none 0 0]) I qk fun b4=>?_;refine bJ 0 0 I I qk I I ?_;refine fin 1 I (acF (cl 2 I (Ct.at 3 I (rY (br s).2 _ rd6)) ?_));rintro v15 K15 hs15 ⟨h15,rfl,rfl,rfl,rd15⟩;exact fin 0 I (acH (a9 2 0 I I I (stp 2 4 I I I I (fin 0 I (WQ.drop (WQ.frz fun K' le1 le2=>WQ.drop (dA I ⟨le1,h15,{ p with av:=aov,cv:=cv },I,rd15,⟨(hS.le le1).1,ov.isS.le le2,(hS.le le1).2.2⟩,fun _=>⟨I,I⟩⟩)))))))
def JK(m:aB)(p:MA)(ao:Option Addr)(c1:Nat)(bs:List UInt8)(o:aZ h ao (eq bs) c1 5 1 (bv bs))(hb:eq bs<68719476736)(hS:dr K m p)(hbd:m.bd):
  aj w0 244 [.slice ao (eq bs) c1,cX mb] K (h::pt mb (mv m p) 34::R) (oq .data m bs (pt mb (mv m p) 34::R) K):=by
 have hdl:=hbd.dataL;refine enter Tryz.func244 qk I I I (acI (fin 2 I (th (sq (bG [pt mb (mv m p) 34] 31 [0,2,4,6,8,12,14,16,18,20,22,11,24,26,28,30,32,34,36,38,40,42,44,46,48,50,52,54,56,58,60] Nm qk qk (bS qk 4 0 I I I (bS qk 3 0 I I I (dN qk 1 ((eq m.data:Int)<=256) I Nm (fun h1=>?_) (fun h1=>?_)))))))))
 ·refine aJ qk 0 I (cl 0 I (nj ao c1 bs p.ad p.cd m.data o (.inl I) hS.2.2 qo qo) ?_);rintro v11 K11 hs11 ⟨g11,rfl,rfl,ao11,c11,rfl,o11⟩;exact ba Nm I (bS qk 4 0 I I I (bS qk 3 0 I I I (bS qk 3 0 I I I (bA qk 1 I I (dC qk 0 (m.off<=IntKind.i64.wrap (m.whole-eq m.data)) I Nm fun b33 h33=>aM qk 3 I (acK (bM I I I ⟨I,g11,ao11,c11,_,b33,I,I,h33.trans ⟨fun h=>⟨qo,h⟩,fun h=>h.2⟩,fun _=>I,o11⟩)))))))
 refine aJ qk 0 I (cl 0 I (nj ao c1 bs p.ad p.cd m.data o (.inl I) hS.2.2 qo qo) ?_);rintro v11 K11 hs11 ⟨g11,rfl,rfl,ao11,c11,rfl,o11⟩;exact ba Nm I (aM qk 19 I (acK (bM I I I ⟨I,g11,ao11,c11,_,false,I,I,⟨fun h=>(by cases h),fun h=>absurd h.1 qo⟩,fun _=>I,o11⟩)))
def JL{rb:Nat}{hb:PH}(m:aB)(p:MA)(hi:In K (pt mb (mv m p) 34::R) hb)(s:Rd)(hl:eq s.1<1099511627776)(rd:ej rb hb s h)(hS:dr K m p):
  aj w0 245 [cX rb,cX mb] K (h::pt mb (mv m p) 34::R) (qh .data s m p rb mb hb R K):=by
 refine enter Tryz.func245 qk I I I (rg (cl 2 I (nU hi 256 qo s hl rd) ?_));rintro v6 K6 hs6 ⟨h4,new,rfl,rfl,hx,aox,cx,rfl,rfl,ox,rd4⟩;exact stp 2 2 I I I I (fin 0 I (WQ.frz fun K' le1 le2=>dA I ⟨le1,h4,{ p with ad:=aox,cd:=cx },I,rd4,⟨(hS.le le1).1,(hS.le le1).2.1,ox.isS.le le2⟩,fun _=>⟨I,I⟩⟩))
def JE(m:aB)(p:MA)(ao:Option Addr)(c1:Nat)(bs:List UInt8)(o:aZ h ao (eq bs) c1 5 1 (bv bs))(hb:eq bs<68719476736)(hS:dr K m p)(hbd:m.bd):
  aj w0 235 [.slice ao (eq bs) c1,cX mb] K (h::pt mb (mv m p) 34::R) (oq .ents m bs (pt mb (mv m p) 34::R) K):=by
 have hel:=hbd.entsL;have hmx:ac=18446744073709551615:=rfl;have hidx:=hbd.idx;have hu:=dH (n:=eq m.ents) qo;obtain ⟨⟨css,xE,hE⟩,hS2⟩:=hS;refine enter Tryz.func235 qk I I I (acI (fin 2 I (acF (a9 4 1 I I I (ar 1 I (bL qo) (cl 0 I (jE ao c1 bs (eq m.ents) o qo qo) ?_))))));rintro v17 K17 hs17 ⟨g17,rfl,rfl,ao17,c17,rfl,o17⟩;refine fin 1 I (acE (a9 3 1 I I I (fin 2 I (th (bk (loop (σ:=Nat×Option Addr×Nat×PH) (fun s=>[(0,.slice s.2.1 (eq (bs++aI (eq m.ents)++fY (m.ents.take s.1))) s.2.2.1),(1,cX mb),(21,.slice p.ae (eq m.ents) p.ce),(22,.int .i64 (eq m.ents:Nat)),(23,.int .i64 (s.1:Nat))]) (fun _=>K17) (fun s=>s.2.2.2::pt mb (mv m p) 34::R) (fun s=>s.1<=eq m.ents/\entsOK m.idx 0 (m.ents.take s.1)/\aZ s.2.2.2 s.2.1 (eq (bs++aI (eq m.ents)++fY (m.ents.take s.1))) s.2.2.1 5 1 (bv (bs++aI (eq m.ents)++fY (m.ents.take s.1)))) (fun s=>eq m.ents-s.1) (0,ao17,c17,g17) ⟨aad _,trivial,by simpa[fY] using o17⟩ (by simp only[fY,abI,aar];exact sb) I I ?_))))))
 rintro ⟨i,ao,c1,h⟩ ⟨hi,hok,o⟩;dsimp only at hi hok o ⊢;refine acI (ai 0 I fun b24 h24=>?_);have hbl:=td m.idx _ 0 hok (fun e he=>⟨(hbd.ents e (aaW he)).1,(hbd.ents e (aaW he)).2.1⟩);have htl:eq (m.ents.take i)<=eq m.ents:=by simp;omega
 have hlen:eq (bs++aI (eq m.ents)++fY (m.ents.take i))<137438953472:=by simp only[aah];omega
 refine fin 0 I<|th (sq<|ax h24 I (fun e2=>?_) (fun e2=>?_))
 ·have hin:i<eq m.ents:=qo
  refine sk (th (sq (bk (acI ?_))));obtain ⟨ae,ce,xd,hcell⟩:=eO.get (e0:=af.zero) hE hin;have hge:m.ents.getD i af.zero∈m.ents:=by simp[List.getD,hin]
  have hbe:=hbd.ents _ hge;have htk:=w9 m.ents i hin af.zero;have hat:=fun h=>GG (a:=m.idx) hin af.zero h;have hsu:=fun h1 h2 h3=>Ef (a:=m.idx) hin af.zero hok h1 h2 h3;generalize m.ents.getD i af.zero=e at xd hcell hge hbe htk hat hsu;refine fj 1 i I I xE hin Nn fun a26 ha26=>fW 0 [.int .u64 (e.idx:Nat),.int .u64 (e.term:Nat),.int .i64 e.kind,.slice ae (eq e.data) ce] I qk (.inl I) (fun j v hv=>?_) ?_
  ·obtain ⟨a',q1,q2⟩:=xE.2.2 (i*4+j) v (hcell j v hv);rw[ha26] at q1;cases q1;rw[Deep.add_add];exact q2
  refine al 0 (.agg #[.int .u64 0,.int .u64 0,.int .i64 0,.slice none 0 0]) I qk fun b7=>?_;refine bJ 1 0 I I qk I I ?_;refine fin 0 I (acF (fh 0 0 I I qk (cl 0 I (uL e ae ce hbe.1 hbe.2.1 (.inl I) xd qo) ?_)));rintro v30 K30 hs30 ⟨rfl,g,aog,cg,rfl,rfl,og⟩;refine fin 5 I (th (jn (σ:=Unit) (fun s=>[(0,.slice ao (eq (bs++aI (eq m.ents)++fY (m.ents.take i))) c1),(1,cX mb),(8,.slice aog (eq (ob (gH e))) cg),(21,.slice p.ae (eq m.ents) p.ce),(22,.int .i64 (eq m.ents:Nat)),(23,.int .i64 (i:Nat))]) (fun s=>g::pt b7 #[.int .u64 (e.idx:Nat),.int .u64 (e.term:Nat),.int .i64 e.kind,.slice ae (eq e.data) ce] 51::h::pt mb (mv m p) 34::R) (fun s=>e.ok/\e.idx=(m.idx+i+1) % 18446744073709551616/\m.idx<=e.idx) ?_ ?_))
  ·refine sq<|bG [pt b7 #[.int .u64 (e.idx:Nat),.int .u64 (e.term:Nat),.int .i64 e.kind,.slice ae (eq e.data) ce] 51,pt mb (mv m p) 34] 24 [0,2,4,6,8,10,12,14,16,18,20,22,24,26,28,30,32,34,36,38,40,42,44,46] Nm qk qk (dN qk 1 (ec (gH e)≠0) I Nm (fun h3=>?_) (fun h3=>?_))
   ·refine aM qk 22 I (th (cU I (acI (fin 2 I (acK (jr (rB (rT (rT (rB (rT (WQ.drop (WQ.drop (WQ.drop (WQ.em ?_)))))))))))))));exact bM I I I (uK fun hp=>h3 (by rw[gH,aab (hat hp.1).1];rfl))
   have heok:e.ok:=Decidable.not_not.1 fun hn=>h3 (by rw[gH,aaa hn];decide);refine bS qk 2 0 I I I (bS qk 3 1 I I I (bA qk 1 I (bL qo) (bA qk 0 I (v':=.int .u64 (((m.idx+i) % 18446744073709551616:Nat):Int)) (by rw[<-lV];rfl) (bA qk 0 rfl (v':=.int .u64 (((m.idx+i+1) % 18446744073709551616:Nat):Int)) (by rw[show (m.idx+i+1) % 18446744073709551616=((m.idx+i) % 18446744073709551616+1) % 18446744073709551616 from qo,<-lV];rfl) (dN qk 0 (((e.idx:Nat):Int)≠(((m.idx+i+1) % 18446744073709551616:Nat):Int)) rfl Nm (fun h4=>?_) (fun h4=>?_))))))
   ·exact aM qk 10 I<|th (cU I<|acI<|fin 2 I (acK (jr<|rB (rT<|rT (rB<|rT (WQ.drop<|WQ.drop (WQ.drop<|WQ.em (bM I I I (uK fun hp=>h4<|abe.2 (hat hp.1).2.1)))))))))
   refine bS qk 3 0 I I I<|bS qk 3 1 I I I (dC qk 0 (((e.idx:Nat):Int)<(m.idx:Nat)) I Nm fun b55 h55=>aM qk 1 I<|th (ax h55 I (fun e5=>?_) (fun e5=>?_)))
   ·exact acI (fin 2 I<|acK<|jr (rB<|rT (rT<|rB (rT<|WQ.drop (WQ.drop<|WQ.drop (WQ.em<|bM I I I (uK fun hp=>absurd (hat hp.1).2.2 qo)))))))
   exact sk<|jx () ⟨heok,abe.1 (Decidable.not_not.1 h4),qo⟩ sb I I
  rintro _ ⟨heok,he2,he3⟩;have hpe:ob (gH e)=e.bytes:=by rw[gH,aab heok];rfl
  rw[hpe] at og ⊢;have hel2:=af.bytes_length e heok hbe.1 hbe.2.1;refine rg (cl 2 I (Ct.at 2 I (nj ao c1 _ aog cg e.bytes o (.inr ⟨0,I⟩) og.isS qo qo)) ?_);rintro v59 K59 hs59 ⟨g59,rfl,rfl,ao59,c59,rfl,o59⟩;have ee:bs++aI (eq m.ents)++fY (m.ents.take i)++cm e.bytes=bs++aI (eq m.ents)++fY (m.ents.take (i+1)):=by rw[htk,wY];simp[fY]
  rw[ee] at o59 ⊢;exact fin 1 I (bl (th (WC.drop (WC.drop (rg (ar 0 I (aC qo) (fin 1 I (bw (x:=(i,ao,c1,h)) (i+1,ao59,c59,g59) sb I I ⟨qo,hsu heok he2 he3,o59⟩ (by (try dsimp only);omega)))))))))
 obtain rfl:i=eq m.ents:=qo
 refine ex (xt (xt (xb (th (sq (bG [pt mb (mv m p) 34] 9 [0,2,4,6,8,10,12,14,16] Nm qk qk ?_))))));rw[aav (aac _)] at o hok ⊢;exact bS qk 4 0 I I I (dC qk 1 ((eq m.ents:Int)<=8) I Nm fun b67 h67=>aM qk 2 I (acK (bM I I I ⟨I,h,ao,c1,_,b67,I,I,h67.trans ⟨fun h=>⟨hok,qo⟩,fun h=>by have:=h.2;omega⟩,fun _=>by simp[bT.pby],o⟩)))
end
theorem dP.len{α:Type}{R:List Value->α->Prop}:∀ {cs:List (List Value)} {xs:List α},dP R cs xs->eq cs=eq xs
 | [],[],_=>rfl
 | _::_,_::_,g=>by simp[dP.len g.2]
 | [],_::_,g=>g.elim
 | _::_,[],g=>g.elim
def JF{h:PH}{R:List PH}{mb:Nat}{rb ii:Nat}{hb:PH}(m:aB)(p:MA)(h0:m.ents=[])(hpe:p.ae=none)(hpc:p.ce=0)(hR:R[ii]?=some hb)(s:Rd)(hl:eq s.1<1099511627776)(rd:ej rb hb s h)(hS:dr K m p):
  aj w0 236 [cX rb,cX mb] K (h::pt mb (mv m p) 34::R) (qh .ents s m p rb mb hb R K):=by
 obtain ⟨mk,mf,mt,mte,mi,ml,mc,mr,mg,me,mo,mw,mvo,md⟩:=m;obtain ⟨pae,pce,pav,pcv,pad,pcd⟩:=p;dsimp only at h0 hpe hpc;subst h0 hpe hpc;have hN:=fZ 8 s;have hlr:=jC 8 s;refine enter Tryz.func236 qk I I I (acI (cl 1 I (gc (.inr ⟨ii+1,hR⟩) 8 s hl rd) ?_));rintro v7 K7 hs7 ⟨h7,rfl,rfl,rfl,rd7⟩;refine fin 1 I (th (bk (WC.em ?_)))
 refine loop (σ:=Nat×Rd×List af×PH×PH×PH×Option Addr×Nat×List (List Value)) (fun s'=>[(0,cX rb),(1,cX mb),(7,.int .u64 ((aG 8 s).1:Nat)),(8,.int .u64 (s'.1:Nat))]) (fun s=>s.2.2.2.1) (fun s=>s.2.2.2.2.2.1::s.2.2.2.2.1::pt mb (mv ⟨mk,mf,mt,mte,mi,ml,mc,mr,mg,s.2.2.1,mo,mw,mvo,md⟩ ⟨s.2.2.2.2.2.2.1,s.2.2.2.2.2.2.2.1,pav,pcv,pad,pcd⟩) 34::R)
  (fun s'=>Le K7 s'.2.2.2.1/\s'.1<=(aG 8 s).1/\lB ((aG 8 s).1-s'.1) s'.2.1 s'.2.2.1=lB (aG 8 s).1 (aG 8 s).2 []/\ej rb hb s'.2.1 s'.2.2.2.2.1/\aZ s'.2.2.2.2.2.1 s'.2.2.2.2.2.2.1 (eq s'.2.2.1) s'.2.2.2.2.2.2.2.1 51 4 s'.2.2.2.2.2.2.2.2.flatten/\dP (dB s'.2.2.2.1) s'.2.2.2.2.2.2.2.2 s'.2.2.1/\eq s'.2.1.1<1099511627776/\eq s'.2.2.1=s'.1) (fun s'=>(aG 8 s).1-s'.1)
  (0,(aG 8 s).2,[],K7,h7,em,none,0,[]) ⟨Le.refl _,aad _,rfl,rd7,aZ.nil _ _,trivial,aH,rfl⟩ sb rfl rfl ?_
 rintro ⟨j,s',l,K',h,g,ao,cap,css⟩ ⟨hle,hj,hge,rd,o,hA,hsl,hll⟩;dsimp only at hle hj hge rd o hA hsl hll ⊢;refine acI (ai 0 I fun b9 h9=>fin 0 I (th (sq (ax h9 I (fun e2=>?_) (fun e2=>?_)))))
 ·have hjN:j<(aG 8 s).1:=qo
  refine sk<|th (sq<|bk (acI ?_))
  have hge2:lB ((aG 8 s).1-(j+1)) (mA (ec (fL (bR 512 s').1)) (bR 512 s').2) (l++[(fL (bR 512 s').1).getD af.zero])=lB (aG 8 s).1 (aG 8 s).2 []:=by
   rw[<-hge,show (aG 8 s).1-j=((aG 8 s).1-(j+1))+1 from qo]
   rfl
  have hbl:=tI 512 s';have hcl:=dP.len hA;refine cl 1 I (Ct.atN 1 I (nU (.inr ⟨ii+2,hR⟩) 512 qo s' hsl rd)) ?_;rintro v12 K12 hs12 ⟨h4,new,rfl,rfl,hx,aox,cx,rfl,rfl,ox,rd4⟩;refine cl 0 I (By aox cx (bR 512 s').1 (.inr ⟨0,I⟩) ox.isS qo) ?_;rintro v13 K13 hs13 ⟨rfl,ge,aoe,ce,rfl,rfl,oe⟩;generalize hee:(fL (bR 512 s').1).getD af.zero=e at oe hge2 ⊢;refine al 3 (.agg #[.int .u64 0,.int .u64 0,.int .i64 0,.slice none 0 0]) I qk fun b4=>?_;refine bJ 0 0 I I qk I I ?_;refine fin 1 I (acF (cl 2 I (Ct.at 4 I (rY (bR 512 s').2 _ rd4)) ?_));rintro v18 K18 hs18 ⟨h5,rfl,rfl,rfl,rd5⟩;refine fin 0 I (th (bG [pt b4 (e.v aoe ce) 51,pt mb (mv ⟨mk,mf,mt,mte,mi,ml,mc,mr,mg,l,mo,mw,mvo,md⟩ ⟨ao,cap,pav,pcv,pad,pcd⟩) 34] 10 [0,2,4,6,8,10,13,15,16,18,21] Nm qk qk (bP qk 4 1 I qk I I (kT qk 0 0 I qk I qk (aJ qk 0 I (lit 0 (e.v aoe ce) I Nn qk fun b25=>ba Nm I (aJ qk 0 I (app 0 4 I I o (.inr ⟨0,I⟩) (aZ.ofPt (b:=b25) (c:=e.v aoe ce) (e:=51) (n:=1) (size:=4) I (by simp[maxLen])).isS I Nn (by simp[af.v];exact ⟨I,I,I,I⟩) aH (by simp only[maxLen];omega) fun ao26 c26 g26 o26=>ba Nm rfl (aJ qk 2 rfl (stp 0 6 rfl rfl rfl rfl (ci (.inl rfl) (aM qk 0 rfl (bl (WQ.drop (WQ.drop (WQ.frz fun K2 le1 le2=>WQ.drop (acH ?_)))))))))))))))))
  have ecss:css.flatten++(e.v aoe ce).toList=(css++[(e.v aoe ce).toList]).flatten:=by simp
  have elen:eq l+1=eq (l++[e]):=by simp
  rw[ecss,elen] at o26;refine ar 0 I (bL qo) (fin 1 I ?_);exact bw (x:=(j,s',l,K18,h,g,ao,cap,css)) (j+1,mA (ec (fL (bR 512 s').1)) (bR 512 s').2,l++[e],K2,h5,g26,ao26,c26,css++[(e.v aoe ce).toList]) ⟨I,I,I,I,trivial⟩ I (congrArg (fun k:Nat=>g26::h5::pt mb ((mv ⟨mk,mf,mt,mte,mi,ml,mc,mr,mg,[],mo,mw,mvo,md⟩ ⟨ao26,c26,pav,pcv,pad,pcd⟩).setIfInBounds 9 (.slice ao26 k c26)) 34::R) elen) ⟨hle.trans le1,qo,hge2,rd5,o26,dP.snoc ⟨aoe,ce,I,oe.isS.le le2⟩ (dP.imp (fun _ _=>dB.le le1) hA),by simp only[mA];omega,by simp;omega⟩ (by (try dsimp only);omega)
 obtain rfl:j=(aG 8 s).1:=qo
 refine ex (xt (xt (xb ?_)));rw[ab8] at hge;have hfin:(s',l)=lB (aG 8 s).1 (aG 8 s).2 []:=hge;exact WQ.frz fun K2 le1 le2=>dA I ⟨hle.trans le1,h,⟨ao,cap,pav,pcv,pad,pcd⟩,by simp only[bT.get];rw[<-hfin],by simp only[bT.get];rw[<-hfin];exact rd,by simp only[bT.get];rw[<-hfin];exact ⟨⟨css,o.isS.le le2,dP.imp (fun _ _=>dB.le le1) hA⟩,(hS.le (hle.trans le1)).2⟩,fun h=>absurd I h⟩
end
section
open Go.En Go.ChangeShapes Go.WideShapes Go.ChangeAt Go.RowKit Go.Deep
set_option maxRecDepth 100000
section opens
variable {H:Type} {enc:TypeId×Value->H} {W:World}
theorem uu{α:Type}:∀ xs:List α,eS (fun _=>1) xs=eq xs
 | []=>rfl
 | x::r=>by rw[eS,uu r,aan];omega
theorem uF{α:Type}(m:α->Nat)(hm:∀ x,0<m x):∀ xs:List α,eq xs<=eS m xs
 | []=>aad _
 | x::r=>by have:=uF m hm r;have:=hm x;simp only[eS,aan];omega
theorem zD{α:Type}(m:α->Nat):∀ {xs:List α} {x:α},x∈xs->m x<=eS m xs
 | y::r,x,h=>by
  rcases aay.1 h with rfl|h
  ·simp only[eS];omega
  have:=zD m h;simp only[eS];omega
def lG{cs:List Value}{n:Int}(h:RI .u64 cs n):cs=[.int .u64 (n.toNat:Nat)]/\n.toNat<=ac:=by
 obtain ⟨rfl,hw⟩:=h;have h2:0<=n/\n<=18446744073709551615:=by simp_all [Lit.wf,IntKind.min,IntKind.max,IntKind.signed,IntKind.bits]
 have hmx:ac=18446744073709551615:=rfl
 grind
def kJ{cs:List Value}{n:Int}(h:RI .i64 cs n):cs=[.int .i64 n] /\ -9223372036854775808<=n/\n<=9223372036854775807:=by
 obtain ⟨rfl,hw⟩:=h;exact ⟨I,by simp_all [Lit.wf,IntKind.min,IntKind.signed,IntKind.bits]⟩
def jT(xs:List Int):List UInt8:=xs.map fun z=>UInt8.ofNat z.toNat
def u7(xs:List Int):eq (jT xs)=eq xs:=by simp[jT]
theorem yx:∀ {css:List (List Value)} {xs:List Int},dP (RI .u8) css xs->css.flatten=bv (jT xs)
 | [],[],_=>rfl
 | c::cs,x::xs,⟨⟨h1,hw⟩,h2⟩=>by
  subst h1;have hb:0<=x/\x<=255:=by simp_all [Lit.wf,IntKind.min,IntKind.max,IntKind.signed,IntKind.bits]
  rw[abc,yx h2];simp only[jT,bv,aaq,ab5,List.cons.injEq,and_true]
  congr 1
  simp
  omega
 | [],_::_,g=>g.elim
 | _::_,[],g=>g.elim
def yS{cs:List Value}{xs:List Int}(h:kz W 1 (RI .u8) cs xs):∃ ao cap,cs=[.slice ao (eq (jT xs)) cap]/\aw (hp W) ao (eq (jT xs)) cap 1 (bv (jT xs)):=by
 obtain ⟨ao,cap,css,rfl,x,h2⟩:=h;rw[yx h2] at x;rw[<-u7 xs] at x ⊢;exact ⟨ao,cap,I,x⟩
theorem zq:∀ {css:List (List Value)} {xs:List Int},dP (RI .i64) css xs->css.flatten=iv xs/\∀ v∈xs,-9223372036854775808<=v/\v<=9223372036854775807
 | [],[],_=>⟨rfl,Nm⟩
 | c::cs,x::xs,⟨h1,h2⟩=>by
  obtain ⟨rfl,hb⟩:=kJ h1;obtain ⟨g1,g2⟩:=zq h2;refine ⟨by rw[abc,g1];simp[iv],fun v hv=>?_⟩
  grind
 | [],_::_,g=>g.elim
 | _::_,[],g=>g.elim
def Hh{cs:List Value}{xs:List Int}(h:kz W 1 (RI .i64) cs xs):∃ ao cap,cs=[.slice ao (eq xs) cap]/\aw (hp W) ao (eq xs) cap 1 (iv xs)/\∀ v∈xs,-9223372036854775808<=v/\v<=9223372036854775807:=by
 obtain ⟨ao,cap,css,rfl,x,h2⟩:=h;obtain ⟨g1,g2⟩:=zq h2
 grind
abbrev qq(W:World):=RP (RI .u64) (RP (RI .u64) (RP (RI .i64) (RP (kz W 1 (RI .u8)) R0)))
abbrev oP(x:Int×Int×Int×List Int×Unit):Nat:=1+(1+(1+(eS (fun _=>1) x.2.2.2.1+1+0)))+1
def iY(x:Int×Int×Int×List Int×Unit):af:=⟨x.1.toNat,x.2.1.toNat,x.2.2.1,jT x.2.2.2.1⟩
def JJ:dV enc Tryz.prog W 51 4 (qq W) oP:=by
 refine dV.struct Tryz.underlying51 qk ?_
 exact gI.cons (off:=0) (sz1:=1) (sz2:=3) I (dV.int Tryz.underlying29 qk) (gI.cons (off:=1) (sz1:=1) (sz2:=2) I (dV.int Tryz.underlying29 qk) (gI.cons (off:=2) (sz1:=1) (sz2:=1) I (dV.int Tryz.underlying3 qk)
  (gI.cons (off:=3) (sz1:=1) (sz2:=0) rfl (dV.slice Tryz.underlying32 qk (dV.int Tryz.underlying5 qk)) gI.nil)))
def KZ{cs:List Value}{x:Int×Int×Int×List Int×Unit}(hR:qq W cs x):dB (hp W) cs (iY x)/\(iY x).idx<=ac/\(iY x).term<=ac:=by
 obtain ⟨i,t,k,dd,u⟩:=x;obtain ⟨c1,c2,e1,h1,c3,c4,e2,h2,c5,c6,e3,h3,c7,c8,e4,h4,h5⟩:=hR;obtain ⟨rfl,hi⟩:=lG h1;obtain ⟨rfl,ht⟩:=lG h2;obtain ⟨rfl,_⟩:=kJ h3;obtain ⟨ao,cap,rfl,x⟩:=yS h4;obtain rfl:c8=[]:=h5;exact ⟨⟨ao,cap,by rw[e1,e2,e3,e4];rfl,x⟩,hi,ht⟩
theorem zr:∀ {css:List (List Value)} {xs:List (Int×Int×Int×List Int×Unit)},dP (qq W) css xs->dP (dB (hp W)) css (xs.map iY)/\∀ x∈xs,(iY x).idx<=ac/\(iY x).term<=ac
 | [],[],_=>⟨trivial,Nm⟩
 | c::cs,x::xs,⟨h1,h2⟩=>by
  obtain ⟨g1,g2⟩:=KZ h1;obtain ⟨k1,k2⟩:=zr h2;refine ⟨⟨g1,k1⟩,fun y hy=>?_⟩
  grind
 | [],_::_,g=>g.elim
 | _::_,[],g=>g.elim
def Hi{cs:List Value}{xs:List (Int×Int×Int×List Int×Unit)}(h:kz W 4 (qq W) cs xs):∃ ao cap,cs=[.slice ao (eq (xs.map iY)) cap]/\eO (hp W) ao cap (xs.map iY)/\∀ x∈xs,(iY x).idx<=ac/\(iY x).term<=ac:=by
 obtain ⟨ao,cap,css,rfl,x,h2⟩:=h;obtain ⟨g1,g2⟩:=zr h2;have e:eq xs=eq (xs.map iY):=by simp
 rw[e] at x ⊢;exact ⟨ao,cap,I,⟨css,x,g1⟩,g2⟩
abbrev wT(W:World):=RP (RI .i64) (RP (RI .i64) (RP (RI .i64) (RP (RI .u64) (RP (RI .u64) (RP (RI .u64) (RP (RI .u64) (RP (RI .u64) (RP RB (RP (kz W 4 (qq W)) (RP (RI .i64) (RP (RI .i64) (RP (kz W 1 (RI .i64)) (RP (kz W 1 (RI .u8)) R0)))))))))))))
def mP{α β:Type}(m1:α->Nat)(m2:β->Nat)(x:α×β):Nat:=m1 x.1+m2 x.2
def mS{α:Type}(m:α->Nat)(x:α):Nat:=m x+1
def mL{α:Type}(m:α->Nat)(xs:List α):Nat:=eS m xs+1
def mU{α:Type}(_:α):Nat:=1
def mZ(_:Unit):Nat:=0
def gA{α β:Type}{off sz1 sz2:Nat}{f:Field}{fs:List Field}{R1:List Value->α->Prop}{R2:List Value->β->Prop}{m1:α->Nat}{m2:β->Nat}(hf:f.offset=off)(o1:dV enc P W f.type sz1 R1 m1)(o2:gI enc P W (off+sz1) fs sz2 R2 m2):
  gI enc P W off (f::fs) (sz1+sz2) (RP R1 R2) (mP m1 m2):=gI.cons hf o1 o2
def iD{t:TypeId}{k:IntKind}(ht:P.underlying t=some (.int k))(hc:P.cellsOf t=1):dV enc P W t 1 (RI k) mU:=dV.int ht hc
def L5{t:TypeId}(ht:P.underlying t=some .bool)(hc:P.cellsOf t=1):dV enc P W t 1 RB mU:=dV.bool ht hc
def Di{off:Nat}:gI enc P W off [] 0 R0 mZ:=gI.nil
def rG{α:Type}{t e:TypeId}{sz:Nat}{R:List Value->α->Prop}{m:α->Nat}(ht:P.underlying t=some (.slice e))(hc:P.cellsOf t=1)(o:dV enc P W e sz R m):dV enc P W t 1 (kz W sz R) (mL m):=dV.slice ht hc o
def AZ{α:Type}{t:TypeId}{sz:Nat}{fs:Array Field}{R:List Value->α->Prop}{m:α->Nat}(ht:P.underlying t=some (.struct fs))(hc:P.cellsOf t=sz)(o:gI enc P W 0 fs.toList sz R m):dV enc P W t sz R (mS m):=dV.struct ht hc o
abbrev s7:Type:=Int×Int×Int×Int×Int×Int×Int×Int×Bool×List (Int×Int×Int×List Int×Unit)×Int×Int×List Int×List Int×Unit
def sV:s7->Nat:=mS (mP mU (mP mU (mP mU (mP mU (mP mU (mP mU (mP mU (mP mU (mP mU (mP (mL oP) (mP mU (mP mU (mP (mL mU) (mP (mL mU) mZ))))))))))))))
def Km{α:Type}(xs:List α):eS mU xs=eq xs:=uu xs
def IX:dV enc Tryz.prog W 34 14 (wT W) sV:=by
 exact AZ Tryz.underlying34 qk<|gA (off:=0) (sz1:=1) (sz2:=13) I (iD Tryz.underlying3 qk) (gA (off:=1) (sz1:=1) (sz2:=12) I (iD Tryz.underlying3 qk)<|gA (off:=2) (sz1:=1) (sz2:=11) I (iD Tryz.underlying3 qk) (gA (off:=3) (sz1:=1) (sz2:=10) I (iD Tryz.underlying29 qk)<|gA (off:=4) (sz1:=1) (sz2:=9) I (iD Tryz.underlying29 qk) (gA (off:=5) (sz1:=1) (sz2:=8) I (iD Tryz.underlying29 qk)<|gA (off:=6) (sz1:=1) (sz2:=7) I (iD Tryz.underlying29 qk) (gA (off:=7) (sz1:=1) (sz2:=6) I (iD Tryz.underlying29 qk)<|gA (off:=8) (sz1:=1) (sz2:=5) I (L5 Tryz.underlying4 qk) (gA (off:=9) (sz1:=1) (sz2:=4) I (rG Tryz.underlying30 qk JJ)<|gA (off:=10) (sz1:=1) (sz2:=3) I (iD Tryz.underlying3 qk) (gA (off:=11) (sz1:=1) (sz2:=2) I (iD Tryz.underlying3 qk)<|gA (off:=12) (sz1:=1) (sz2:=1) I (rG Tryz.underlying31 qk<|iD Tryz.underlying3 qk) (gA (off:=13) (sz1:=1) (sz2:=0) I (rG Tryz.underlying32 qk<|iD Tryz.underlying5 qk) Di)))))))
end opens
end
section
attribute [local irreducible] Code.wp wpList Calls
def jA{κ ν:Type}(enc:κ->Value)(encv:ν->Value)(h hi:PH)(b r:Nat)(m:List (κ×ν))(ks:List κ):Prop:=
 ∃ (es:Array MapEntry) (c since:Nat) (seen:Array Nat) (last:Nat),h=sg b (.map es c)/\es.toList.map (fun e=>(e.key,e.val))=m.map (fun x=>(enc x.1,encv x.2))/\(es.toList.map (·.born)).Pairwise (· < ·)/\(∀ e∈es.toList,e.born<c) /\
  hi=sg r (.mapIter (some b) since seen last)/\(∀ e∈es.toList,e.born<since)/\(∀ e∈es.toList,e.born<last)/\∀ (i:Nat) e x,es[i]?=some e->m[i]?=some x->(e.born∈seen↔x.1∈ks)
def s8{κ ν:Type}(enc:κ->Value)(encv:ν->Value)(h hi:PH)(b r:Nat)(m:List (κ×ν))(ks:List κ)(k:κ)(v:ν):Prop:=
 jA enc encv h hi b r m ks/\∃ (es:Array MapEntry) (c since:Nat) (seen:Array Nat) (q:Nat) (e:MapEntry),h=sg b (.map es c)/\(es.toList.map (·.born)).Pairwise (· < ·)/\hi=sg r (.mapIter (some b) since seen c)/\seen.back?=some e.born/\es[q]?=some e/\e.key=enc k/\e.val=encv v
section
variable {κ ν:Type} [DecidableEq κ] {enc:κ->Value} {encv:ν->Value} {h hi:PH} {b r:Nat} {m:List (κ×ν)} {ks:List κ}
omit [DecidableEq κ] in
theorem jA.map(x:jA enc encv h hi b r m ks):dX enc encv h b m:=by
 obtain ⟨es,c,since,seen,last,h1,h2,h3,h4,_⟩:=x;exact ⟨es,c,h1,h2,h3,h4⟩
omit [DecidableEq κ] in
theorem FE{es:Array MapEntry}(h2:es.toList.map (fun e=>(e.key,e.val))=m.map (fun x=>(enc x.1,encv x.2))){i:Nat}{e:MapEntry}(he:es[i]?=some e):∃ x,m[i]?=some x/\e.key=enc x.1/\e.val=encv x.2:=by
 have h3:=congrArg (fun l=>l[i]?) h2
 grind
omit [DecidableEq κ] in
theorem FD{es:Array MapEntry}(h2:es.toList.map (fun e=>(e.key,e.val))=m.map (fun x=>(enc x.1,encv x.2))){i:Nat}{x:κ×ν}(hx:m[i]?=some x):∃ e,es[i]?=some e:=by
 have h3:=congrArg List.length h2;simp only[aaO,abN] at h3;have h4:=(aax.1 hx).1
 simp_all
omit [DecidableEq κ] in
theorem Hg{w:World}(hI:jA enc encv h hi b r m ks)(hnd:(m.map (·.1)).Nodup)(hb:∀ b o,h b=some o->w.heap[b]?=some o)(hr:∀ b o,hi b=some o->w.heap[b]?=some o)(ty:Nat):
  (∃ k v w1 o,(w1=w\/w1=w.drew)/\(k,v)∈m/\k∉ks/\(Instr.next (Nr r) false ty).run P w=.ok (.tuple #[.bool true,enc k,encv v]) (w1.putObj r o)/\s8 enc encv h (sg r o) b r m (ks++[k]) k v) \/
  (∃ w1,(w1=w\/w1=w.drew)/\(Instr.next (Nr r) false ty).run P w=.ok (.tuple #[.bool false]) w1/\∀ x∈m,x.1∈ks):=by
 obtain ⟨es,c,since,seen,last,rfl,h2,h3,h4,rfl,h5,h6,h7⟩:=hI;have hbm:w.heap[b]?=some (.map es c):=hb b _ Nm;have hri:w.heap[r]?=some (.mapIter (some b) since seen last):=hr r _ Nm
 have hset:∀ (w1:World) (o:Obj),(w1=w\/w1=w.drew)->(setObj r o).run P w1=.ok () (w1.putObj r o):=fun w1 o hw=>by
  rcases hw with rfl|rfl
  ·simp[setObj,Sem.run,hri,World.putObj]
  have hri2:w.drew.heap[r]?=some (.mapIter (some b) since seen last):=hri;simp[setObj,Sem.run,hri2,World.putObj]
 have hall:(!seen.isEmpty && !es.isEmpty && es.all (·.born>=last))=false:=by
  by_cases he:es.isEmpty=true
  ·simp[he]
  have hz:0<es.size:=by
   grind
  grind
 have hnew:(es.filter fun e=>!seen.contains e.born).filter (fun e=>decide (e.born>=since))=#[]:=by
  apply Array.filter_eq_empty_iff.2
  simp_all
 obtain ⟨left,hleft⟩:=be (es.filter fun e=>!seen.contains e.born)
 have hold:left.filter (fun e=>decide (e.born<since))=left:=by
  apply Array.filter_eq_self.2
  simp_all
 obtain ⟨cand,hcand⟩:∃ cand:Array (Option MapEntry),cand=(if left.isEmpty then #[none] else #[])++(left++#[]).map some:=⟨_,rfl⟩
 have hsz:0<cand.size:=by
  rw[hcand]
  by_cases he:left.isEmpty=true
  all_goals grind
 obtain ⟨i,w1,hw1,hi1,hch⟩:∃ i w1,(w1=w\/w1=w.drew)/\i<cand.size/\(choose (.mapNext cand.size)).run P w=.ok i w1:=by
  by_cases hf:cand.size<=1
  ·exact ⟨0,w,.inl I,hsz,by simp[choose,Sem.run,Question.forced,hf]⟩
  refine ⟨(Question.mapNext cand.size).cut (w.tape w.drawn (.mapNext cand.size)),w.drew,.inr I,abH _ hsz,?_⟩;simp[choose,Sem.run,Question.forced,hf]
 have hgm:(getObj b).run P w1=.ok (.map es c) w1/\True:=⟨by rcases hw1 with rfl|rfl <;> exact jX hbm,trivial⟩;have hgo:(getObj r).run P w=.ok (.mapIter (some b) since seen last) w:=by simp[getObj,Sem.run,hri]
 have hrun:(Instr.next (.pointer (some ⟨r,0,none⟩)) false ty).run P w=(match cand[i]? with
   | some (some e)=>(do setObj r (.mapIter (some b) since (seen.push e.born) c);pure (.tuple #[.bool true,e.key,e.val]):Sem Value)
   | some none=>pure (.tuple #[.bool false])
   | none => stuck "Next: no such candidate").run P w1 := by
  unfold Instr.next;simp only[Sem.run_bind,hgo,Result.andThen,jX hbm,hall];have hnew2:left.filter (fun e=>decide (e.born>=since))=#[]:=by rw[hleft];exact hnew
  simp only[acp,if_false,<-hleft,hold,hnew2,<-hcand];rw[Sem.run_bind,hch]
  rfl
 have hlast:∀ e∈es.toList,e.born<c:=h4
 by_cases he:left.isEmpty=true
 ·right
  have hc1:cand=#[none]:=by
   simp_all
  refine ⟨w1,hw1,?_,fun x hx=>?_⟩
  ·rw[hrun];have:i=0:=by rw[hc1] at hi1;simpa using hi1
   subst this;rw[hc1]
   rfl
  obtain ⟨q,hq⟩:=abJ.1 hx;obtain ⟨e,hee⟩:=FD h2 hq;refine (h7 q e x hee hq).1 ?_;have hem:e∈es:=Array.mem_of_getElem? hee
  have hno:e∉left:=by
   grind
  grind
 left
 have hc1:cand=left.map some:=by rw[hcand,aaa he];simp
 have hil:i<left.size:=by rw[hc1] at hi1;simpa using hi1
 have hci:cand[i]?=some (some left[i]):=by rw[hc1];simp[hil]
 obtain ⟨e0,he0⟩:=be (left[i]);have hmem:e0∈left:=by rw[he0];simp
 rw[<-he0] at hci;rw[hleft,Array.mem_filter] at hmem;obtain ⟨q,hq⟩:=Array.mem_iff_getElem?.1 hmem.1;obtain ⟨x,hx,hk,hv⟩:=FE h2 hq;have hxm:x∈m:=aao hx
 have hnks:x.1∉ks:=fun hc=>by
  grind
 refine ⟨x.1,x.2,w1,.mapIter (some b) since (seen.push e0.born) c,hw1,hxm,hnks,?_,⟨es,c,since,seen.push e0.born,c,I,h2,h3,h4,I,h5,h4,?_⟩,es,c,since,seen.push e0.born,q,e0,I,h3,I,Nm,hq,hk,hv⟩
 ·rw[hrun,hci];simp only[Sem.run_bind,hset w1 _ hw1,Result.andThen];rw[hk,hv]
  rfl
 intro j e y hje hjy;rw[Array.mem_push,aaj,aaz,h7 j e y hje hjy]
 by_cases hjq:j=q
 ·grind
 have hborn:e.born≠e0.born:=by
  have hp:=abC.1 h3;obtain ⟨hj1,hj2⟩:=acf.1 hje;obtain ⟨hq1,hq2⟩:=acf.1 hq;rcases Nat.lt_or_gt_of_ne hjq with h|h
  ·have:=hp j q (by simpa using hj1) (by simpa using hq1) h;simp[hj2,hq2] at this;omega
  have:=hp q j (by simpa using hq1) (by simpa using hj1) h;simp[hj2,hq2] at this;omega
 have hkey:y.1≠x.1:=by
  intro hc;have hp:=abC.1 hnd
  grind
 simp[hborn,hkey]
end
section rules
variable {P:Program} {T:bg} {w0:World} {ops:Array Oper} {Q:Exit->Act->World->Prop} {rest rest':List Oper} {n:Nat} {l l':Sl} {K:PH} {hs:List PH}
variable {κ ν:Type} [DecidableEq κ] {enc:κ->Value} {encv:ν->Value} {h hi:PH} {b r:Nat} {m:List (κ×ν)} {ks:List κ}
def sC(T:bg)(ops:Array Oper)(n k:Nat)(rest:List Oper)(l:Sl):Option (Nat×Oper×Nat×Value×List Oper×Sl):=
 match gj T ops n k rest l with
 | some (d,o,r,l')=>match o.op with
  | .range t x=>match ev l' x with
   | some u=>some (d,o,t,u,r,l')
   | _=>none
  | _=>none
 | none=>none
def y0{k d t:Nat}{o:Oper}{u:Value}(h:sC T ops n k rest l=some (d,o,t,u,rest',l')):gj T ops n k rest l=some (d,o,rest',l')/\∀ a,Ag n l' a->execOp a.eval o=(do let x <- Instr.range t u;pure (.value x)):=by
 unfold sC at h
 split at h
 ·rename_i d' o' r l2 ho
  split at h
  ·rename_i t' x hop
   split at h
   ·rename_i u' hx;simp only[aae,aag] at h;obtain ⟨rfl,rfl,rfl,rfl,rfl,rfl⟩:=h;exact ⟨ho,fun a ha=>by simp only[execOp,hop,ha.ev hx]⟩
   simp at h
  simp at h
 simp at h
def sA(T:bg)(ops:Array Oper)(n k:Nat)(rest:List Oper)(l:Sl):Option (Nat×Oper×Value×Bool×List Oper×Sl):=
 match gj T ops n k rest l with
 | some (d,o,r,l')=>match o.op with
  | .next x s=>match ev l' x with
   | some u=>some (d,o,u,s,r,l')
   | _=>none
  | _=>none
 | none=>none
def yY{k d:Nat}{o:Oper}{u:Value}{s:Bool}(h:sA T ops n k rest l=some (d,o,u,s,rest',l')):gj T ops n k rest l=some (d,o,rest',l')/\∀ a,Ag n l' a->execOp a.eval o=(do let x <- Instr.next u s o.type;pure (.value x)):=by
 unfold sA at h
 split at h
 ·rename_i d' o' r l2 ho
  split at h
  ·rename_i x s' hop
   split at h
   ·rename_i u' hx;simp only[aae,aag] at h;obtain ⟨rfl,rfl,rfl,rfl,rfl,rfl⟩:=h;exact ⟨ho,fun a ha=>by simp only[execOp,hop,ha.ev hx]⟩
   simp at h
  simp at h
 simp at h
omit [DecidableEq κ] in
theorem DW[hT:bc P T](k:Nat){d t kt et:Nat}{o:Oper}(h0:sC T ops n k rest l=some (d,o,t,.map (some b),rest',l'))(hu:P.underlying t=some (.map kt et))(hin:In K hs h)(hm:dX enc encv h b m)
  (hk:∀ r hi,jA enc encv h hi b r m []->WL P w0 ops Q rest' n ((d,Nr r)::l') K (hi::hs)):WL P w0 ops Q rest n l K hs:=by
 obtain ⟨h1,h2⟩:=y0 h0;refine ql k (R:=fun v K' hs'=>∃ r hi,jA enc encv h hi b r m []/\v=Nr r/\K'=K/\hs'=hi::hs) h1 (fun a w ha hw=>?_) ?_
 ·obtain ⟨es,c,rfl,g2,g3,g4⟩:=hm;have hb:=hw.inn hin b (.map es c) Nm;refine ⟨.pointer (some ⟨w.heap.size,0,none⟩),_,K,_,?_,hw.alloc (.mapIter (some b) c #[] c),w.heap.size,_,⟨es,c,c,#[],c,I,g2,g3,g4,I,g4,g4,Nm⟩,I,I,I⟩;rw[h2 a ha];unfold Instr.range;simp[Sem.run_bind,run_underlying hu,Result.andThen,jX hb,newObj,Sem.run]
 rintro v K' hs' ⟨r,hi,g1,rfl,rfl,rfl⟩;exact hk r hi g1
def a7.putOr{w w1:World}(s:a7 w0 w K hs)(hw:w1=w\/w1=w.drew):a7 w0 w1 K hs:=by
 rcases hw with rfl|rfl
 ·exact s
 exact s.drew
omit [DecidableEq κ] in
theorem DX[hT:bc P T](k i:Nat){d:Nat}{o:Oper}(h0:sA T ops n k rest l=some (d,o,Nr r,false,rest',l'))(hin:In K hs h)(hii:hs[i]?=some hi)(hI:jA enc encv h hi b r m ks)(hnd:(m.map (·.1)).Nodup)
  (more:∀ k v hi',(k,v)∈m->k∉ks->s8 enc encv h hi' b r m (ks++[k]) k v->WL P w0 ops Q rest' n ((d,.tuple #[.bool true,enc k,encv v])::l') K (hs.set i hi'))
  (over:(∀ x∈m,x.1∈ks)->WL P w0 ops Q rest' n ((d,.tuple #[.bool false])::l') K hs):WL P w0 ops Q rest n l K hs:=by
 obtain ⟨h1,h2⟩:=yY h0;refine ql k (R:=fun v K' hs'=>K'=K/\((∃ k x hi',(k,x)∈m/\k∉ks/\s8 enc encv h hi' b r m (ks++[k]) k x/\v=.tuple #[.bool true,enc k,encv x]/\hs'=hs.set i hi')\/((∀ x∈m,x.1∈ks)/\v=.tuple #[.bool false]/\hs'=hs))) h1 (fun a w ha hw=>?_) ?_
 ·rcases Hg (P:=P) hI hnd (hw.inn hin) (hw.inn (.inr ⟨i,hii⟩)) o.type with ⟨k,v,w1,ob,hw1,g1,g2,g3,g4⟩|⟨w1,hw1,g1,g2⟩
  ·have s1:=hw.putOr hw1;obtain ⟨es,c,since,seen,last,_,_,_,_,hhi,_⟩:=id hI;rw[hhi] at hii;exact ⟨_,_,K,_,by rw[h2 a ha,Sem.run_bind,g3];rfl,s1.putObj hii ob,rfl,.inl ⟨k,v,_,g1,g2,g4,rfl,rfl⟩⟩
  exact ⟨_,w1,K,hs,by rw[h2 a ha,Sem.run_bind,g1];rfl,hw.putOr hw1,rfl,.inr ⟨g2,rfl,rfl⟩⟩
 rintro v K' hs' ⟨rfl,⟨k,x,hi',g1,g2,g3,rfl,rfl⟩|⟨g1,rfl,rfl⟩⟩
 ·exact more k x hi' g1 g2 g3
 exact over g1
def Mo[hT:bc P T](k:Nat){d t kt et:Nat}{o:Oper}(h0:sC T ops n k rest l=some (d,o,t,.map none,rest',l'))(hu:P.underlying t=some (.map kt et))
  (hk:∀ r,WL P w0 ops Q rest' n ((d,Nr r)::l') K (sg r (.mapIter none 0 #[] 0)::hs)):WL P w0 ops Q rest n l K hs:=by
 obtain ⟨h1,h2⟩:=y0 h0;refine ql k (R:=fun v K' hs'=>∃ r,v=Nr r/\K'=K/\hs'=sg r (.mapIter none 0 #[] 0)::hs) h1 (fun a w ha hw=>?_) ?_
 ·refine ⟨.pointer (some ⟨w.heap.size,0,none⟩),_,K,_,?_,hw.alloc (.mapIter none 0 #[] 0),w.heap.size,I,I,I⟩
  simp_all [run_underlying,Instr.range]
 rintro v K' hs' ⟨r,rfl,rfl,rfl⟩;exact hk r
def Mq[hT:bc P T](k:Nat){d r:Nat}{o:Oper}(h0:sA T ops n k rest l=some (d,o,Nr r,false,rest',l'))(hin:In K hs (sg r (.mapIter none 0 #[] 0)))
  (hk:WL P w0 ops Q rest' n ((d,.tuple #[.bool false])::l') K hs):WL P w0 ops Q rest n l K hs:=by
 obtain ⟨h1,h2⟩:=yY h0;refine iT k h1 (fun a w ha hw=>?_) hk;have hr:w.heap[r]?=some (.mapIter none 0 #[] 0):=hw.inn hin r (.mapIter none 0 #[] 0) Nm;have hgo:(getObj r).run P w=.ok (.mapIter none 0 #[] 0) w:=by simp[getObj,Sem.run,hr]
 rw[h2 a ha];unfold Instr.next;simp[Sem.run_bind,hgo,Result.andThen]
def wB(T:bg)(ops:Array Oper)(n k:Nat)(rest:List Oper)(l:Sl):Option (Nat×Oper×Value×List Oper×Sl):=
 match gj T ops n k rest l with
 | some (d,o,r,l')=>match o.op with
  | .entry x=>match ev l' x with
   | some u=>some (d,o,u,r,l')
   | _=>none
  | _=>none
 | none=>none
def GJ{k d:Nat}{o:Oper}{u:Value}(h:wB T ops n k rest l=some (d,o,u,rest',l')):gj T ops n k rest l=some (d,o,rest',l')/\∀ a,Ag n l' a->execOp a.eval o=(do let x <- Instr.entry u;pure (.value x)):=by
 unfold wB at h
 split at h
 ·rename_i d' o' r l2 ho
  split at h
  ·rename_i x hop
   split at h
   ·rename_i u' hx;simp only[aae,aag] at h;obtain ⟨rfl,rfl,rfl,rfl,rfl⟩:=h;exact ⟨ho,fun a ha=>by simp only[execOp,hop,ha.ev hx]⟩
   simp at h
  simp at h
 simp at h
omit [DecidableEq κ] in
theorem DZ[hT:bc P T](k:Nat){d:Nat}{o:Oper}{kk:κ}{v:ν}(h0:wB T ops n k rest l=some (d,o,Nr r,rest',l'))(hin:In K hs h)(hini:In K hs hi)(hS:s8 enc encv h hi b r m ks kk v)
  (hk:WL P w0 ops Q rest' n ((d,.tuple #[enc kk,encv v])::l') K hs):WL P w0 ops Q rest n l K hs:=by
 obtain ⟨h1,h2⟩:=GJ h0;refine iT k h1 (fun a w ha hw=>?_) hk;obtain ⟨_,es,c,since,seen,q,e,rfl,h3,rfl,h4,h5,h6,h7⟩:=hS;have hb:w.heap[b]?=some (.map es c):=hw.inn hin b (.map es c) Nm;have hr:w.heap[r]?=some (.mapIter (some b) since seen c):=hw.inn hini r (.mapIter (some b) since seen c) Nm;have hgo:(getObj r).run P w=.ok (.mapIter (some b) since seen c) w:=by simp[getObj,Sem.run,hr]
 have hfind:es.find? (fun x=>x.born == e.born)=some e:=by
  grind [Array.find?_eq_some_iff_getElem,List.pairwise_iff_getElem]
 rw[h2 a ha];unfold Instr.entry;simp[Sem.run_bind,hgo,Result.andThen,h4,jX hb,hfind,h6,h7]
def Mp[hT:bc P T](k i:Nat){t kt et:Nat}{o:Oper}{v y:Value}(j:κ)(x:ν)(h0:sB T ops n k rest l=some (o,t,.map (some b),v,y,rest',l'))(hi0:hs[i]?=some h)(hu:P.underlying t=some (.map kt et))(hK:gM P kt enc)(hv:v=enc j)(hy:y=encv x)(hI:jA enc encv h hi b r m ks)
  (hex:(a8 j m).isSome=true) (hk:∀ h',jA enc encv h' hi b r (cj j x m) ks->WL P w0 ops Q rest' n l' K (hs.set i h')):WL P w0 ops Q rest n l K hs:=by
 obtain ⟨h1,h2⟩:=yZ h0;subst hv hy;refine DT k (R:=fun K' hs'=>∃ h',jA enc encv h' hi b r (cj j x m) ks/\K'=K/\hs'=hs.set i h') h1 (fun a w ha hw=>?_) ?_
 ·obtain ⟨es,c,since,seen,last,rfl,g2,g3,g4,g5,g6,g7,g8⟩:=hI;have g2':es.toList.map (fun e=>(e.key,e.val))=(m.map fun x=>(x.1,encv x.2)).map (fun x=>(enc x.1,x.2)):=by rw[g2];simp
  have hb:w.heap[b]?=some (.map es c):=hw.own i _ hi0 b _ Nm;have hf:=hK.fnd j es.toList _ w g2';have e1:=uC (enc:=enc) (encv:=encv) j x c es.toList m g2;have e2:=zg (enc j) (encv x) c (fk j (m.map fun x=>(x.1,encv x.2)) 0) es.toList g3 g4;have hset:∀ o:Obj,(setObj b o).run P w=.ok () (w.putObj b o):=fun o=>by simp[setObj,Sem.run,hb,World.putObj]
  cases hk:fk j (m.map fun x=>(x.1,encv x.2)) 0 with
  | none=>
   have:=vC (encv:=encv) j m 0;rw[hk] at this;simp only[abS] at this;cases hm:a8 j m with
   | none=>rw[hm] at hex;cases hex
   | some u=>rw[hm] at this;cases this
  | some z=>
   obtain ⟨q,z⟩:=z;rw[hk] at e1 e2;simp only[i6] at e1 e2;have hkey:=Cv (enc:=enc) j g2' hk;have hkey':((es[q]?).map (·.key)).getD (enc j)=enc j:=by rw[<-aci,hkey];rfl
   have hst:(Instr.keyThatStays (enc j) (enc j)).run P w=.ok (enc j) w:=by unfold Instr.keyThatStays;simp[hK.sam]
   have hmod:∀ (i:Nat) e,(es.modify q fun e=>{ e with key:=enc j,val:=encv x })[i]?=some e->∃ e',es[i]?=some e'/\e.born=e'.born:=by
    grind
   have hmem:∀ e∈(es.modify q fun e=>{ e with key:=enc j,val:=encv x }).toList,∃ e'∈es.toList,e.born=e'.born:=by
    intro e he;obtain ⟨i,hi⟩:=abJ.1 he
    grind
   refine ⟨w.putObj b (.map (es.modify q fun e=>{ e with key:=enc j,val:=encv x }) c),K,_,?_,hw.putObj hi0 _,sg b (.map (es.modify q fun e=>{ e with key:=enc j,val:=encv x }) c),
    ⟨es.modify q fun e=>{ e with key:=enc j,val:=encv x },c,since,seen,last,rfl,by rw[abQ];exact e1,by rw[abQ];exact e2.1,fun e he=>?_,g5,fun e he=>?_,fun e he=>?_,?_⟩,I,I⟩
   ·rw[h2 a ha];unfold Instr.mapUpdate;simp only[Sem.run_bind,run_underlying hu,Result.andThen,jX hb,Sem.run_pure,hK.chk,hf,hk,hkey',hst,hset]
   ·simp_all
   ·grind
   ·grind
   intro i e y he hy;obtain ⟨e',h5,h6⟩:=hmod i e he;have hkk:=qM j x m;rw[aab hex] at hkk;have h7:=congrArg (fun l=>l[i]?) hkk
   grind
 rintro K' hs' ⟨h',g1,rfl,rfl⟩;exact hk h' g1
end rules
section del
theorem Bm{α β:Type}(f:α->β):∀ (l:List α) (j:Nat),(l.eraseIdx j).map f=(l.map f).eraseIdx j
 | [],_=>rfl
 | a::l,0=>rfl
 | a::l,j+1=>by simp[Bm]
theorem Ax{κ:Type}[DecidableEq κ](k:κ):∀ (m:List (κ×Value)),(fk k m 0=none/\dv k m=m)\/∃ j v,fk k m 0=some (j,v)/\dv k m=m.eraseIdx j
 | []=>.inl ⟨rfl,rfl⟩
 | (i,u)::m=>by
  by_cases e:k=i
  ·simp_all [fk,dv]
  rcases Ax k m with ⟨h1,h2⟩|⟨j,v,h1,h2⟩
  ·left
   refine ⟨?_,by simp[dv,e,h2]⟩;simp only[fk,e,if_false];rw[nD,h1];rfl
  right
  refine ⟨j+1,v,?_,by simp[dv,e,h2]⟩;simp only[fk,e,if_false];rw[nD,h1]
  simp;omega
theorem uB{κ ν:Type}[DecidableEq κ](f:ν->Value)(k:κ):∀ (m:List (κ×ν)),dv k (m.map fun x=>(x.1,f x.2))=(dv k m).map fun x=>(x.1,f x.2)
 | []=>rfl
 | (i,u)::m=>by
  by_cases e:k=i
  all_goals simp_all [uB,dv]
def Fo{κ ν:Type}[DecidableEq κ]{enc:κ->Value}{encv:ν->Value}{h:PH}{b:Nat}{m:List (κ×ν)}{t kt et i:Nat}(hu:P.underlying t=some (.map kt et))(hK:gM P kt enc)(hm:dX enc encv h b m){w:World}(s:a7 w0 w K hs)(hi:hs[i]?=some h)(k:κ)(ts:Array TypeId)(hts:ts[0]?=some t)(ty:Nat):
  ∃ h' w',dX enc encv h' b (dv k m)/\(Builtin.delete_ ts ty #[.map (some b),enc k]).run P w=.ok (.tuple #[]) w'/\a7 w0 w' K (hs.set i h'):=by
 obtain ⟨es,c,rfl,h2,h3,h4⟩:=hm;have h2':es.toList.map (fun e=>(e.key,e.val))=(m.map fun x=>(x.1,encv x.2)).map (fun x=>(enc x.1,x.2)):=by rw[h2];simp
 have hb:w.heap[b]?=some (.map es c):=s.own i _ hi b _ Nm;have hf:=hK.fnd k es.toList _ w h2';have hset:∀ o:Obj,(setObj b o).run P w=.ok () (w.putObj b o):=fun o=>by simp[setObj,Sem.run,hb,World.putObj]
 unfold Builtin.delete_;rcases Ax k (m.map fun x=>(x.1,encv x.2)) with ⟨g1,g2⟩|⟨j,v,g1,g2⟩
 ·rw[uB] at g2;refine ⟨sg b (.map es c),w.putObj b (.map es c),⟨es,c,I,?_,h3,h4⟩,?_,s.putObj hi _⟩
  ·rw[h2];have:=congrArg (fun l=>l.map fun x:κ×Value=>(enc x.1,x.2)) g2;simpa[Function.comp_def] using this.symm
  simp[hts,Sem.run_bind,run_underlying hu,Result.andThen,jX hb,hK.chk,hf,g1,hset]
 rw[uB] at g2;refine ⟨sg b (.map (es.eraseIdxIfInBounds j) c),w.putObj b (.map (es.eraseIdxIfInBounds j) c),⟨es.eraseIdxIfInBounds j,c,I,?_,?_,?_⟩,?_,s.putObj hi _⟩
 ·have:=congrArg (fun l=>l.map fun x:κ×Value=>(enc x.1,x.2)) g2
  grind [Array.toList_eraseIdxIfInBounds,Bm,Function.comp_def]
 ·grind [Array.toList_eraseIdxIfInBounds]
 ·grind
 simp[hts,Sem.run_bind,run_underlying hu,Result.andThen,jX hb,hK.chk,hf,g1,hset]
end del
end
section
def MR{κ α:Type}(R:Value->α->Prop):List (κ×Value)->List (κ×α)->Prop
 | [],[]=>True
 | (k,v)::r,(j,x)::q=>k=j/\R v x/\MR R r q
 | _,_=>False
section
variable {κ α:Type} {R R':Value->α->Prop}
theorem MR.imp(h:∀ v x,R v x->R' v x):∀ {a:List (κ×Value)} {b:List (κ×α)},MR R a b->MR R' a b
 | [],[],g=>g
 | (k,v)::r,(j,x)::q,g=>⟨g.1,h v x g.2.1,MR.imp h g.2.2⟩
 | [],_::_,g=>g.elim
 | _::_,[],g=>g.elim
theorem MR.keys:∀ {a:List (κ×Value)} {b:List (κ×α)},MR R a b->a.map (·.1)=b.map (·.1)
 | [],[],_=>rfl
 | (k,v)::r,(j,x)::q,g=>by simp[g.1,MR.keys g.2.2]
 | [],_::_,g=>g.elim
 | _::_,[],g=>g.elim
def MR.len{a:List (κ×Value)}{b:List (κ×α)}(g:MR R a b):eq a=eq b:=by have:=congrArg List.length g.keys;simpa using this
theorem MR.mem{k:κ}{v:Value}:∀ {a:List (κ×Value)} {b:List (κ×α)},MR R a b->(k,v)∈a->∃ x,(k,x)∈b/\R v x
 | (j,u)::r,(i,y)::q,g,hm=>by
  obtain ⟨rfl,h2,g2⟩:=g;rcases aay.1 hm with hm|hm
  ·simp_all
  obtain ⟨x,h3,h4⟩:=MR.mem g2 hm;exact ⟨x,by simp[h3],h4⟩
 | [],_,_,hm=>by simp at hm
 | _::_,[],g,_=>g.elim
variable [DecidableEq κ]
theorem MR.get(k:κ):∀ {a:List (κ×Value)} {b:List (κ×α)},MR R a b->(a8 k a=none/\a8 k b=none)\/∃ v x,a8 k a=some v/\a8 k b=some x/\R v x
 | [],[],_=>.inl ⟨rfl,rfl⟩
 | (j,v)::r,(i,x)::q,g=>by
  obtain ⟨rfl,h,g2⟩:=g
  by_cases e:k=j
  ·exact .inr ⟨v,x,by simp[a8,e],by simp[a8,e],h⟩
  rcases MR.get k g2 with ⟨h1,h2⟩|⟨u,y,h1,h2,h3⟩
  ·exact .inl ⟨by simp[a8,e,h1],by simp[a8,e,h2]⟩
  exact .inr ⟨u,y,by simp[a8,e,h1],by simp[a8,e,h2],h3⟩
 | [],_::_,g=>g.elim
 | _::_,[],g=>g.elim
theorem MR.set{k:κ}{v:Value}{x:α}(h:R v x):∀ {a:List (κ×Value)} {b:List (κ×α)},MR R a b->MR R (cj k v a) (cj k x b)
 | [],[],_=>⟨rfl,h,trivial⟩
 | (j,u)::r,(i,y)::q,g=>by
  obtain ⟨rfl,h2,g2⟩:=g
  by_cases e:k=j
  ·simp only[cj,e,if_true];exact ⟨I,h,g2⟩
  simp only[cj,e,if_false];exact ⟨I,h2,MR.set h g2⟩
 | [],_::_,g=>g.elim
 | _::_,[],g=>g.elim
end
structure ef where
 vs:List (List UInt8)
 syn:Bool
abbrev Ar:=List (Int×ef)
structure Dk where
 room:Int
 steps:Int
 areas:List (Int×Ar)
 left:Int
 dead:Bool
def eE(b:List UInt8):List UInt8:=b++List.replicate (64-eq b) 0
def Dk.stp(D:Dk):Dk:={ D with steps:=D.steps+1,dead:=decide (D.left=0),left:=if D.left>0 then D.left-1 else D.left }
def Dk.ar(D:Dk)(a:Int):Ar:=(a8 a D.areas).getD []
def Dk.sec(D:Dk)(a n:Int):Option ef:=a8 n (D.ar a)
def fI(s:Option ef)(b:List UInt8):ef:=⟨(s.getD ⟨[],false⟩).vs++[eE b],(s.getD ⟨[],false⟩).syn⟩
def Dk.laid(D:Dk)(a n:Int)(b:List UInt8):Dk:=
 { D with room:=if (D.sec a n).isSome=true then D.room else D.room-1,areas:=cj a (cj n (fI (D.sec a n) b) (D.ar a)) D.areas }
def Dk.write(D:Dk)(a n:Int)(b:List UInt8):Dk×Int:=
 if D.dead=true then (D,30) else if n<0\/65536<=n\/64<eq b then (D,31) else if (D.sec a n).isSome=false/\D.room=0 then (D,32)
 else ((D.laid a n b).stp,if (D.laid a n b).stp.dead=true then 30 else 0)
def iP(s:ef):ef:=⟨[s.vs.getLastD []],true⟩
def Dk.synA(D:Dk)(a:Int):List (Int×Ar):=
 match a8 a D.areas with
 | some l=>cj a (l.map fun x=>(x.1,iP x.2)) D.areas
 | none=>D.areas
def Dk.sync(D:Dk)(a:Int):Dk×Int:=
 if D.dead=true then (D,30) else if D.stp.dead=true then (D.stp,30)
 else ({ D.stp with areas:=D.synA a },0)
def Dk.free(D:Dk)(a:Int):Dk×Int:=
 if D.dead=true then (D,30) else if D.stp.dead=true then (D.stp,30)
 else ({ D.stp with room:=D.room+(eq (D.ar a):Int),areas:=dv a D.areas },0)
def Dk.read(D:Dk)(a n:Int):Option (List UInt8):=(D.sec a n).map fun s=>s.vs.getLastD []
structure Dk.Ok (c:Nat) (D:Dk):Prop where
 keys:(D.areas.map (·.1)).Nodup
 ns:∀ x∈D.areas,(x.2.map (·.1)).Nodup/\eq x.2<=c
 vs:∀ x∈D.areas,∀ y∈x.2,y.2.vs≠[]/\eq y.2.vs<=c/\∀ b∈y.2.vs,eq b=64
 room:0<=D.room/\D.room<=1099511627776
 steps:0<=D.steps/\D.steps<=c
 left : -1<=D.left/\D.left<=9223372036854775807
 at_:∀ x∈D.areas,∀ y∈x.2,0<=y.1/\y.1<65536
section
variable {κ ν:Type} [DecidableEq κ]
theorem iu{k:κ}{v:ν}{x:κ×ν}:∀ {m:List (κ×ν)},x∈cj k v m->x=(k,v)\/x∈m
 | [],h=>by simp[cj] at h;exact .inl h
 | (j,u)::m,h=>by
  by_cases e:k=j
  ·grind [cj]
  simp only[cj,e,if_false,aay] at h;rcases h with h|h
  ·exact .inr (by simp[h])
  rcases iu h with h|h
  ·exact .inl h
  exact .inr (by simp[h])
theorem ng{k:κ}{v:ν}{m:List (κ×ν)}(h:(m.map (·.1)).Nodup):((cj k v m).map (·.1)).Nodup:=by
 rw[qM]
 split
 ·exact h
 rename_i hn;rw[acq];refine ⟨h,Nm,?_⟩;intro a ha b hb;simp only[aaz] at hb;subst hb;intro e
 simp_all [fQ]
theorem kF{k:κ}:∀ (m:List (κ×ν)),(dv k m).Sublist m
 | []=>by simp[dv]
 | (j,u)::m=>by
  by_cases e:k=j
  ·simp only[dv,e,if_true]
   first|exact List.sublist_cons_self _ _|exact (kF m).trans (List.sublist_cons_self _ _)
  simp only[dv,e,if_false];exact (kF m).cons_cons _
end
def uA{b:List UInt8}(h:eq b<=64):eq (eE b)=64:=by simp[eE];omega
def Dk.ar_mem{D:Dk}{a:Int}(x:Int×ef)(h:x∈D.ar a):∃ l,(a,l)∈D.areas/\D.ar a=l:=by
 unfold Dk.ar at h ⊢;cases hg:a8 a D.areas with
 | none=>rw[hg] at h;simp at h
 | some l=>exact ⟨l,f8 hg,rfl⟩
def Dk.Ok.arNodup{c:Nat}{D:Dk}(o:D.Ok c)(a:Int):((D.ar a).map (·.1)).Nodup/\eq (D.ar a)<=c:=by
 unfold Dk.ar;cases hg:a8 a D.areas with
 | none=>simp
 | some l=>exact o.ns _ (f8 hg)
def Dk.Ok.secOk{c:Nat}{D:Dk}(o:D.Ok c){a n:Int}{s:ef}(h:D.sec a n=some s):s.vs≠[]/\eq s.vs<=c/\∀ b∈s.vs,eq b=64:=by
 have hm:=f8 h;obtain ⟨l,h1,h2⟩:=Dk.ar_mem _ hm;rw[h2] at hm;exact o.vs _ h1 _ hm
theorem Dk.Ok.up{c d:Nat}{D:Dk}(o:D.Ok c)(h:c<=d):D.Ok d:=
 ⟨o.keys,fun x hx=>⟨(o.ns x hx).1,aas (o.ns x hx).2 h⟩,fun x hx y hy=>⟨(o.vs x hx y hy).1,aas (o.vs x hx y hy).2.1 h,(o.vs x hx y hy).2.2⟩,o.room,⟨o.steps.1,by have:=o.steps.2;omega⟩,o.left,o.at_⟩
def zE{x:Int}(h : -1<=x/\x<=9223372036854775807): -1<=(if x>0 then x-1 else x)/\(if x>0 then x-1 else x)<=9223372036854775807:=by
 omega
theorem Dk.Ok.stp{c:Nat}{D:Dk}(o:D.Ok c):D.stp.Ok (c+1):=
 ⟨o.keys,fun x hx=>⟨(o.ns x hx).1,aas (o.ns x hx).2 (aau c)⟩,fun x hx y hy=>⟨(o.vs x hx y hy).1,aas (o.vs x hx y hy).2.1 (aau c),(o.vs x hx y hy).2.2⟩,o.room,⟨by have:=o.steps.1;simp only[Dk.stp];omega,by have:=o.steps.2;simp only[Dk.stp];omega⟩,zE o.left,o.at_⟩
theorem Dk.Ok.write{c:Nat}{D:Dk}(o:D.Ok c)(a n:Int)(b:List UInt8):(D.write a n b).1.Ok (c+1):=by
 unfold Dk.write
 split
 ·exact o.up<|aau c
 split
 ·exact o.up<|aau c
 rename_i hform
 split
 ·exact o.up<|aau c
 rename_i hfull;have hn:0<=n/\n<65536/\eq b<=64:=qo
 have hsec:(fI (D.sec a n) b).vs≠[]/\eq (fI (D.sec a n) b).vs<=c+1/\∀ d∈(fI (D.sec a n) b).vs,eq d=64:=by
  unfold fI;cases hs:D.sec a n with
  | none=>
   simp_all [uA]
  | some s=>
   obtain ⟨h1,h2,h3⟩:=o.secOk hs;simp only[aa0];refine ⟨Nm,by simp;omega,?_⟩;intro d hd;rcases aaj.1 hd with hd|hd
   all_goals simp_all [uA]
 have hrm:0<=(D.laid a n b).room/\(D.laid a n b).room<=1099511627776:=by
  have:=o.room
  grind [Dk.laid]
 obtain ⟨hnd,hlc⟩:=o.arNodup a;refine ⟨?_,?_,?_,hrm,⟨by have:=o.steps.1;simp only[Dk.stp,Dk.laid];omega,by have:=o.steps.2;simp only[Dk.stp,Dk.laid];omega⟩,zE o.left,?_⟩
 ·exact ng o.keys
 ·intro x hx;rcases iu hx with rfl|hx
  ·grind [ng,pj]
  exact ⟨(o.ns x hx).1,aas (o.ns x hx).2 (aau c)⟩
 ·intro x hx y hy;rcases iu hx with rfl|hx
  ·rcases iu hy with rfl|hy
   ·exact hsec
   obtain ⟨l,h1,h2⟩:=Dk.ar_mem _ hy;rw[h2] at hy;obtain ⟨h3,h4,h5⟩:=o.vs _ h1 _ hy
   grind
  obtain ⟨h3,h4,h5⟩:=o.vs _ hx _ hy
  grind
 intro x hx y hy;rcases iu hx with rfl|hx
 ·rcases iu hy with rfl|hy
  ·omega
  obtain ⟨l,h1,h2⟩:=Dk.ar_mem _ hy;rw[h2] at hy;exact o.at_ _ h1 _ hy
 exact o.at_ _ hx _ hy
theorem Dk.Ok.sync{c:Nat}{D:Dk}(o:D.Ok c)(a:Int):(D.sync a).1.Ok (c+1):=by
 unfold Dk.sync
 split
 ·exact o.up<|aau c
 split
 ·exact o.stp
 have os:=o.stp;unfold Dk.synA;cases hg:a8 a D.areas with
 | none=>exact os
 | some l=>
  have hl:=f8 hg;refine ⟨ng o.keys,?_,?_,os.room,os.steps,os.left,?_⟩
  ·intro x hx;rcases iu hx with rfl|hx
   ·have h1:=(o.ns _ hl)
    grind
   exact os.ns x hx
  ·intro x hx y hy;rcases iu hx with rfl|hx
   ·obtain ⟨z,hz,rfl⟩:=aap.1 hy;obtain ⟨h3,h4,h5⟩:=o.vs _ hl _ hz
    simp_all [ab9,iP]
   exact os.vs x hx y hy
  intro x hx y hy;rcases iu hx with rfl|hx
  ·obtain ⟨z,hz,rfl⟩:=aap.1 hy;exact o.at_ (a,l) hl z hz
  exact o.at_ _ hx _ hy
theorem Dk.Ok.free{c:Nat}{D:Dk}(o:D.Ok c)(a:Int)(hr:D.room+(eq (D.ar a):Int)<=1099511627776):(D.free a).1.Ok (c+1):=by
 unfold Dk.free
 split
 ·exact o.up<|aau c
 split
 ·exact o.stp
 have os:=o.stp;have hs:=kF (k:=a) D.areas;exact ⟨(hs.map _).nodup o.keys,fun x hx=>os.ns x (hs.subset hx),fun x hx=>os.vs x (hs.subset hx),⟨by have:=o.room;dsimp only;omega,hr⟩,os.steps,os.left,fun x hx=>o.at_ x (hs.subset hx)⟩
end
section
attribute [local irreducible] Code.wp wpList Calls
def qb(l:Sl)(o:Oper):Option (Nat×Addr×Option Int×Option Int):=
 match o.op with
 | .slice t x none none none=>match ev l x with
  | some (.pointer (some a))=>some (t,a,none,none)
  | _=>none
 | .slice t x (some lo) none none=>match ev l x,ev l lo with
  | some (.pointer (some a)),some (.int _ i)=>some (t,a,some i,none)
  | _,_=>none
 | .slice t x none (some hi) none=>match ev l x,ev l hi with
  | some (.pointer (some a)),some (.int _ i)=>some (t,a,none,some i)
  | _,_=>none
 | .slice t x (some lo) (some hi) none=>match ev l x,ev l lo,ev l hi with
  | some (.pointer (some a)),some (.int _ i),some (.int _ j)=>some (t,a,some i,some j)
  | _,_,_=>none
 | _=>none
def qI{w:World}{k:IntKind}{i:Int}{y:Nat}(c:BoundsCode)(H:Nat)(h:i=(H:Int))(hy:H<=y):(Instr.sliceBound (.int k i) y c).run P w=.ok H w:=by
 simp_all [Instr.sliceBound,asIntOf]
def uI{l:Sl}{n:Nat}{o:Oper}{t len e sz:Nat}{a:Addr}{lo hi:Option Int}(L N:Nat)(h1:qb l o=some (t,a,lo,hi))(hu:P.underlying t=some (.array len e))(he:(P.info? e).map (·.size)=some sz)
  (hL:lo.getD 0=(L:Int)) (hH:hi.getD len=((L+N:Nat):Int)) (hN:L+N<=len) (hlt:L<len):∀ A w,Ag n l A->(execOp A.eval o).run P w=.ok (.value (.slice (some (a.add (L*sz))) N (len-L))) w:=by
 intro A w ha;cases hii:P.info? e with
 | none=>rw[hii] at he;cases he
 | some ii=>
 rw[hii] at he;have hsz:ii.size=sz:=by simpa using he
 have hne:¬len=L:=qo
 have fin:∀ (lv hv:Option Value),(Instr.sliceBounds false len len lv hv none).run P w=.ok (L,L+N,len) w->(Instr.sliceAt t (.pointer (some a)) lv hv none).run P w=.ok (.slice (some (a.add (L*sz))) N (len-L)) w:=by
  simp_all [run_underlying,Instr.sliceAt,Instr.sureAddr,sizeOf,typeInfo]
 unfold qb at h1
 split at h1
 ·rename_i t' x hop
  split at h1
  ·rename_i a' hx;simp only[aae,aag] at h1;obtain ⟨rfl,rfl,rfl,rfl⟩:=h1;simp only[execOp,hop,ha.ev hx,abS];simp only[abk] at hL hH;rw[Sem.run_bind,fin none none (by unfold Instr.sliceBounds;simp;omega)]
   rfl
  simp at h1
 ·rename_i t' x lo' hop
  split at h1
  ·rename_i a' k i hx hlo;simp only[aae,aag] at h1;obtain ⟨rfl,rfl,rfl,rfl⟩:=h1;simp only[execOp,hop,ha.ev hx,ha.ev hlo,abS,aa9];simp only[abk,aa0] at hL hH
   rw[Sem.run_bind,fin (some _) none (by
    have hb:(Instr.sliceBound (.int k i) len .sliceB).run P w=.ok L w:=qI _ L hL qo;unfold Instr.sliceBounds;simp[Sem.run_bind,Result.andThen,hb];omega)]
   rfl
  simp at h1
 ·rename_i t' x hi' hop
  split at h1
  ·rename_i a' k i hx hlo;simp only[aae,aag] at h1;obtain ⟨rfl,rfl,rfl,rfl⟩:=h1;simp only[execOp,hop,ha.ev hx,ha.ev hlo,abS,aa9];simp only[abk,aa0] at hL hH;have hL0:L=0:=qo
   rw[Sem.run_bind,fin none (some _) (by
    have hb:(Instr.sliceBound (.int k i) len .sliceAlen).run P w=.ok (L+N) w:=qI _ (L+N) hH hN
    simp_all [Instr.sliceBounds])]
   rfl
  simp at h1
 ·rename_i t' x lo' hi' hop
  split at h1
  ·rename_i a' k i k2 j hx hlo hhi;simp only[aae,aag] at h1;obtain ⟨rfl,rfl,rfl,rfl⟩:=h1;simp only[execOp,hop,ha.ev hx,ha.ev hlo,ha.ev hhi,abS,aa9];simp only[aa0] at hL hH
   rw[Sem.run_bind,fin (some _) (some _) (by
    have hb:(Instr.sliceBound (.int k2 j) len .sliceAlen).run P w=.ok (L+N) w:=qI _ (L+N) hH hN;have hb2:(Instr.sliceBound (.int k i) (L+N) .sliceB).run P w=.ok L w:=qI _ L hL qo
    simp_all [Instr.sliceBounds])]
   rfl
  simp at h1
 simp at h1
section rules
variable {P:Program} {T:bg} {w0:World} {ops:Array Oper} {Q:Exit->Act->World->Prop} {rest rest':List Oper} {n:Nat} {l l':Sl} {K:PH} {hs:List PH}
def sR[hT:bc P T](k:Nat){d:Nat}{o:Oper}{t len e sz:Nat}{a:Addr}{lo hi:Option Int}(L N:Nat)(h0:gj T ops n k rest l=some (d,o,rest',l'))(h1:qb l' o=some (t,a,lo,hi))(hu:P.underlying t=some (.array len e))(he:(P.info? e).map (·.size)=some sz)
  (hL:lo.getD 0=(L:Int)) (hH:hi.getD len=((L+N:Nat):Int)) (hN:L+N<=len) (hlt:L<len) (hk:WL P w0 ops Q rest' n ((d,.slice (some (a.add (L*sz))) N (len-L))::l') K hs):WL P w0 ops Q rest n l K hs:=
 iT k h0 (fun A w ha _=>uI L N h1 hu he hL hH hN hlt A w ha) hk
def wC{plan plan':List Nat}{z:Nat}{listed listed':Array Bool}{K0:PH}{A:List PH}[hT:bc P T](hsel:Region.noSelect ops=true)(k:Nat){d:Nat}{o:Oper}{t len e sz:Nat}{a:Addr}{lo hi:Option Int}(L N:Nat)(h0:rZ T ops n z k plan listed l=some (d,o,plan',listed',l'))(h1:qb l' o=some (t,a,lo,hi))(hu:P.underlying t=some (.array len e))(he:(P.info? e).map (·.size)=some sz)
  (hL:lo.getD 0=(L:Int)) (hH:hi.getD len=((L+N:Nat):Int)) (hN:L+N<=len) (hlt:L<len) (hk:WA P w0 ops Q K0 A z plan' listed' n ((d,.slice (some (a.add (L*sz))) N (len-L))::l') K hs):WA P w0 ops Q K0 A z plan listed n l K hs:=
 qf hsel k h0 (fun A w ha _=>uI L N h1 hu he hL hH hN hlt A w ha) hk
def mB(T:bg)(ops:Array Oper)(n z k:Nat)(plan:List Nat)(L:Array Bool)(l:Sl):Option (Nat×Nat×Oper×List Nat×Array Bool×Sl):=
 match j3 T ops n z k plan L l with
 | some (p,o,r,L',l')=>match Nat.beq (p % 2) 0,Nat.beq (p / 2) z,fo ops l' o.guard,o.dst with
  | true,false,some true,some d=>match Nat.blt d n with
   | true=>some (p,d,o,r,L'.setIfInBounds (p / 2) true,l')
   | false=>none
  | _,_,_,_=>none
 | none=>none
def p8{plan plan':List Nat}{z:Nat}{listed listed':Array Bool}{K0:PH}{A:List PH}[hT:bc P T](hsel:Region.noSelect ops=true)(k:Nat){p d:Nat}{o:Oper}{v:Value}(h0:mB T ops n z k plan listed l=some (p,d,o,plan',listed',l'))(hwf:cond (Nat.blt z ops.size) (Region.waitsFor .any ops z (p / 2)) true=true)
  (hv:∀ a w,Ag n l' a->er K0 A w->(execOp a.eval o).run P w=.ok (.value v) w) (hk:WA P w0 ops Q K0 A z plan' listed' n ((d,v)::l') K hs):WA P w0 ops Q K0 A z plan listed n l K hs:=by
 unfold mB at h0
 split at h0
 ·rename_i p' o' r L' l2 hh
  split at h0
  ·rename_i dd hp hz hg hd
   split at h0
   ·rename_i hb;simp only[aae,aag] at h0;obtain ⟨rfl,rfl,rfl,rfl,rfl,rfl⟩:=h0;obtain ⟨g1,g2⟩:=jB hh;refine WA.pures hsel k g1 ?_;have hp2:p'=2*(p' / 2):=by have:=aaB hp;omega
    rw[hp2];refine WA.look g2 hsel hz hd hb (fun A' ha=>.inl ⟨fX ha hg,fun w hw=>?_⟩) hk;obtain ⟨L,hcl,hun,hst⟩:=hw;exact hv A' w ha (hst (nb hcl hun hwf))
   simp at h0
  simp at h0
 simp at h0
def LN{plan plan':List Nat}{z:Nat}{listed listed':Array Bool}{K0:PH}{A:List PH}[hT:bc P T](hsel:Region.noSelect ops=true)(k:Nat){p d:Nat}{o:Oper}{t len e sz:Nat}{a:Addr}{lo hi:Option Int}(L N:Nat)(h0:mB T ops n z k plan listed l=some (p,d,o,plan',listed',l'))(hwf:cond (Nat.blt z ops.size) (Region.waitsFor .any ops z (p / 2)) true=true)(h1:qb l' o=some (t,a,lo,hi))(hu:P.underlying t=some (.array len e))(he:(P.info? e).map (·.size)=some sz)
  (hL:lo.getD 0=(L:Int)) (hH:hi.getD len=((L+N:Nat):Int)) (hN:L+N<=len) (hlt:L<len) (hk:WA P w0 ops Q K0 A z plan' listed' n ((d,.slice (some (a.add (L*sz))) N (len-L))::l') K hs):WA P w0 ops Q K0 A z plan listed n l K hs:=
 p8 hsel k h0 hwf (fun A w ha _=>uI L N h1 hu he hL hH hN hlt A w ha) hk
def DE(l:Sl)(o:Oper):Option (Nat×Nat×(Option Addr×Nat×Nat)):=
 match o.op with
 | .convert t t' x=>match ev l x with
  | some (.slice ao m c)=>some (t,t',(ao,m,c))
  | _=>none
 | _=>none
def LW{plan plan':List Nat}{z:Nat}{listed listed':Array Bool}{K0:PH}{A:List PH}[hT:bc P T](hsel:Region.noSelect ops=true)(k:Nat){p d t t' m c:Nat}{o:Oper}{ao:Option Addr}{h:PH}(xs:List UInt8)(h0:mB T ops n z k plan listed l=some (p,d,o,plan',listed',l'))(hwf:cond (Nat.blt z ops.size) (Region.waitsFor .any ops z (p / 2)) true=true)(h1:DE l' o=some (t,t',(ao,m,c)))(hm:In K0 A h)
  (x:aw h ao m c 1 (xs.map fun b=>Value.int .u8 b.toNat)) (hs':nY P t t'=true)
  (hk:WA P w0 ops Q K0 A z plan' listed' n ((d,str xs)::l') K hs):WA P w0 ops Q K0 A z plan listed n l K hs:=by
 refine p8 hsel k h0 hwf (fun A' w ha hw=>?_) hk;unfold DE at h1
 split at h1
 ·rename_i t1 t2 y hop
  split at h1
  ·rename_i ao' m' c' hx;simp only[aae,aag] at h1;obtain ⟨rfl,rfl,rfl,rfl,rfl⟩:=h1
   have h2:=yR (P:=P) (w:=w) (c:=c') hs' xs (by have:=x.1;simpa using this) (fun j u hj=>by
    obtain ⟨a,h3,h4⟩:=x.2.2 j u hj;exact ⟨a,h3,hw.cell hm h4⟩)
   simp only[execOp,hop,ha.ev hx];simp[h2]
  simp at h1
 simp at h1
def wy(l:Sl)(o:Oper):Option (Nat×Value×Value×Bool):=
 match o.op with
 | .lookup t x y ok=>match ev l x,ev l y with
  | some u,some v=>some (t,u,v,ok)
  | _,_=>none
 | _=>none
def Gr{l:Sl}{n:Nat}{o:Oper}{t:Nat}{u v:Value}{ok:Bool}(h:wy l o=some (t,u,v,ok)):∀ a,Ag n l a->execOp a.eval o=(do let x <- Instr.lookup t u v ok;pure (.value x)):=by
 intro a ha;unfold wy at h
 split at h
 ·rename_i t' x y ok' hop
  split at h
  ·rename_i u' v' hx hy;simp only[aae,aag] at h;obtain ⟨rfl,rfl,rfl,rfl⟩:=h;simp only[execOp,hop,ha.ev hx,ha.ev hy]
  simp at h
 simp at h
def C0{κ ν:Type}[DecidableEq κ]{enc:κ->Value}{encv:ν->Value}{h:PH}{b:Nat}{m:List (κ×ν)}{plan plan':List Nat}{z:Nat}{listed listed':Array Bool}{K0:PH}{A:List PH}[hT:bc P T](hsel:Region.noSelect ops=true)(k:Nat){p d t kt et:Nat}{o:Oper}{zv v:Value}{ok:Bool}(j:κ)(h0:mB T ops n z k plan listed l=some (p,d,o,plan',listed',l'))(hwf:cond (Nat.blt z ops.size) (Region.waitsFor .any ops z (p / 2)) true=true)(h1:wy l' o=some (t,.map (some b),v,ok))(hu:P.underlying t=some (.map kt et))(hz:(P.info? et).bind (·.zero)=some zv)(hK:gM P kt enc)(hv:v=enc j)(hin:In K0 A h)(hm:dX enc encv h b m)
  (hk:WA P w0 ops Q K0 A z plan' listed' n ((d,oT ok (match a8 j m with|some v=>encv v|none=>zv) (a8 j m).isSome)::l') K hs):WA P w0 ops Q K0 A z plan listed n l K hs:=by
 subst hv;refine p8 hsel k h0 hwf (fun a w ha hw=>?_) hk;have:=tG (P:=P) hu hK hz hm (hw.inn hin) j ok;rw[Gr h1 a ha,Sem.run_bind,this]
 rfl
def sD(l:Sl)(o:Oper):Option (Nat×Value):=
 match o.op with
 | .call { callee:=.builtin .len,args,argTypes }=>match args.toList,argTypes.toList with
  | [x],[t]=>match ev l x with
   | some u=>some (t,u)
   | _=>none
  | _,_=>none
 | _=>none
def y5{l:Sl}{n:Nat}{o:Oper}{t:Nat}{u:Value}(h:sD l o=some (t,u)){w:World}{N:Int}(hr:(Builtin.len_ #[t] o.type #[u]).run P w=.ok (.int .i64 N) w):∀ a,Ag n l a->(execOp a.eval o).run P w=.ok (.value (.int .i64 N)) w:=by
 intro a ha;unfold sD at h
 split at h
 ·rename_i args argTypes hop
  split at h
  ·rename_i x t' e1 e2
   split at h
   ·rename_i u' hx;simp only[aae,aag] at h;obtain ⟨rfl,rfl⟩:=h;have a1':args=#[x]:=by cases args;simp_all
    have a2':argTypes=#[t']:=by cases argTypes;simp_all
    subst a1' a2';simp only[execOp,hop];simp[resolve,invoke,builtin,ha.ev hx,hr]
   simp at h
  simp at h
 simp at h
def Mv{κ ν:Type}[DecidableEq κ]{enc:κ->Value}{encv:ν->Value}{h:PH}{b:Nat}{m:List (κ×ν)}{plan plan':List Nat}{z:Nat}{listed listed':Array Bool}{K0:PH}{A:List PH}[hT:bc P T](hsel:Region.noSelect ops=true)(k:Nat){p d t kt et:Nat}{o:Oper}(h0:mB T ops n z k plan listed l=some (p,d,o,plan',listed',l'))(hwf:cond (Nat.blt z ops.size) (Region.waitsFor .any ops z (p / 2)) true=true)(h1:sD l' o=some (t,.map (some b)))(hu:P.underlying t=some (.map kt et))(hin:In K0 A h)(hm:dX enc encv h b m)
  (hk:WA P w0 ops Q K0 A z plan' listed' n ((d,.int .i64 (eq m:Int))::l') K hs):WA P w0 ops Q K0 A z plan listed n l K hs:=
 p8 hsel k h0 hwf (fun a w ha hw=>y5 h1 (yp hu hm (hw.inn hin)) a ha) hk
def LP{plan plan':List Nat}{z:Nat}{listed listed':Array Bool}{K0:PH}{A:List PH}[hT:bc P T](hsel:Region.noSelect ops=true)(k:Nat){p d t kt et:Nat}{o:Oper}(h0:mB T ops n z k plan listed l=some (p,d,o,plan',listed',l'))(hwf:cond (Nat.blt z ops.size) (Region.waitsFor .any ops z (p / 2)) true=true)(h1:sD l' o=some (t,.map none))(hu:P.underlying t=some (.map kt et))
  (hk:WA P w0 ops Q K0 A z plan' listed' n ((d,.int .i64 0)::l') K hs):WA P w0 ops Q K0 A z plan listed n l K hs:=
 p8 hsel k h0 hwf (fun a w ha hw=>y5 h1 (by simp_all [run_underlying,Builtin.len_,goInt]) a ha) hk
def Dp(T:bg)(ops:Array Oper)(n k:Nat)(rest:List Oper)(l:Sl):Option (Oper×Nat×Value×Value×List Oper×Sl):=
 match d8 T ops n k rest l with
 | some (o,r,l')=>match o.dst,o.op with
  | none,.call { callee:=.builtin .delete,args,argTypes }=>match args.toList,argTypes.toList with
   | [x,y],[t,_]=>match ev l' x,ev l' y with
    | some u,some v=>some (o,t,u,v,r,l')
    | _,_=>none
   | _,_=>none
  | _,_=>none
 | none=>none
def D0{κ ν:Type}[DecidableEq κ]{enc:κ->Value}{encv:ν->Value}{h:PH}{b:Nat}{m:List (κ×ν)}[hT:bc P T](k i:Nat){t kt et:Nat}{o:Oper}{v:Value}(j:κ)(h0:Dp T ops n k rest l=some (o,t,.map (some b),v,rest',l'))(hi:hs[i]?=some h)(hu:P.underlying t=some (.map kt et))(hK:gM P kt enc)(hv:v=enc j)(hm:dX enc encv h b m)
  (hk:∀ h',dX enc encv h' b (dv j m)->WL P w0 ops Q rest' n l' K (hs.set i h')):WL P w0 ops Q rest n l K hs:=by
 unfold Dp at h0
 split at h0
 ·rename_i o' r l2 ho
  split at h0
  ·rename_i args argTypes hd hop
   split at h0
   ·rename_i x y t' t2 e1 e2
    split at h0
    ·rename_i u v' hx hy;simp only[aae,aag] at h0;obtain ⟨rfl,rfl,rfl,rfl,rfl,rfl⟩:=h0;subst hv;have a1':args=#[x,y]:=by cases args;simp_all
     have a2':argTypes=#[t',t2]:=by cases argTypes;simp_all
     subst a1' a2';refine WL.at' ho fun hg=>?_;intro a w ha hw;obtain ⟨h',w',g1,g2,g3⟩:=Fo (P:=P) hu hK hm hw hi j #[t',t2] rfl o'.type;have hw1:=fX ha hg;unfold wpList;rw[aab hw1];refine .inl ?_;unfold Oper.wp
     have hrun:(execOp a.eval o').run P w=.ok (.value (.tuple #[])) w':=by
      simp only[execOp,hop];simp[resolve,invoke,builtin,ha.ev hx,ha.ev hy,g2]
     rw[hrun];simp only[Oper.upon,hd,Act.put];exact hk h' g1 _ _ ha g3
    simp at h0
   simp at h0
  simp at h0
 simp at h0
end rules
section joink
variable {P:Program} {w0:World} {Q:Exit->Act->World->Prop} {n:Nat} {l:Sl} {K:PH} {hs:List PH}
def wU(w0:World){σ:Type}(F:σ->Sl)(HK:σ->PH)(H:σ->List PH)(J:σ->Prop)(n:Nat)(Q:Exit->Act->World->Prop):Exit->Act->World->Prop
 | .normal,a,w=>∃ s,J s/\Ag n (F s) a/\a7 w0 w (HK s) (H s)
 | e,a,w=>Q e a w
def jR{σ:Type}{x y:Code}(F:σ->Sl)(HK:σ->PH)(H:σ->List PH)(J:σ->Prop)(h1:WC P w0 x (wU w0 F HK H J n Q) n l K hs)(h2:∀ s,J s->WC P w0 y Q n (F s) (HK s) (H s)):WC P w0 (.seq x y) Q n l K hs:=
 sq fun a w ha hw=>Code.wp_mono (fun e a w h=>by
  cases e with
  | normal=>obtain ⟨s,hJ,ha,hw⟩:=h;exact h2 s hJ a w ha hw
  | _=>exact h) (h1 a w ha hw)
def fb{σ:Type}{F:σ->Sl}{HK:σ->PH}{H:σ->List PH}{J:σ->Prop}(s:σ)(hJ:J s)(hF:jz l (F s))(hK:K=HK s)(hH:hs=H s):WQ w0 (wU w0 F HK H J n Q) .normal n l K hs:=
 fun a w ha hw=>⟨s,hJ,ha.sub hF,by rw[<-hK,<-hH];exact hw⟩
def MW{σ:Type}{F:σ->Sl}{HK:σ->PH}{H:σ->List PH}{J:σ->Prop}(h:WQ w0 Q .ret n l K hs):WQ w0 (wU w0 F HK H J n Q) .ret n l K hs:=h
end joink
end
section
def iS(l:List (List UInt8)):List Value:=l.map str
def i7(K:PH)(v:Value)(s:ef):Prop:=∃ ao c,v=.agg #[.slice ao (eq s.vs) c,.bool s.syn]/\aw K ao (eq s.vs) c 1 (iS s.vs)
def sK(n:Int):Value:=.int .u64 n
def lW(n:Int):Value:=.int .i64 n
def qe(b:Nat):Value:=.map (some b)
def bW(D:Dk)(bo:Nat):Array Value:=#[.int .i64 D.room,.int .i64 D.steps,.map (some bo),.int .i64 D.left,.bool D.dead]
abbrev jf:=List (Int×Nat×PH)
def eQ(K:PH):jf->List (Int×Ar)->Prop
 | [],[]=>True
 | x::r,y::q=>x.1=y.1/\(∃ mv,dX lW id x.2.2 x.2.1 mv/\MR (i7 K) mv y.2)/\eQ K r q
 | _,_=>False
theorem i7.le{K K':PH}(l:Le K K'){v:Value}{s:ef}(h:i7 K v s):i7 K' v s:=let ⟨a,c,h1,h2⟩:=h;⟨a,c,h1,h2.le l⟩
theorem eQ.le{K K':PH}(l:Le K K'):∀ {i:jf} {q:List (Int×Ar)},eQ K i q->eQ K' i q
 | [],[],h=>h
 | x::r,y::q,⟨h1,⟨mv,h2,h3⟩,h4⟩=>⟨h1,⟨mv,h2,h3.imp fun _ _ h=>h.le l⟩,eQ.le l h4⟩
 | [],_::_,h=>h.elim
 | _::_,[],h=>h.elim
theorem Ci{K:PH}{a:Int}:∀ {i:jf} {q:List (Int×Ar)} {l:Ar},eQ K i q->a8 a q=some l->∃ i1 bi hi mv i2 q1 q2,i=i1++(a,bi,hi)::i2/\q=q1++(a,l)::q2/\a∉q1.map (·.1)/\eQ K i1 q1/\eQ K i2 q2/\dX lW id hi bi mv/\MR (i7 K) mv l
 | [],[],_,_,h=>by cases h
 | x::r,y::q,l,⟨h1,⟨mv,h2,h3⟩,h4⟩,h=>by
  obtain ⟨y1,y2⟩:=y;obtain ⟨x1,x2,x3⟩:=x;dsimp only at h1 h2 h3;subst h1
  by_cases e:a=x1
  ·subst e;simp only[a8,if_true,aae] at h;subst h;exact ⟨[],x2,x3,mv,r,[],q,I,I,Nm,trivial,h4,h2,h3⟩
  simp only[a8,e,if_false] at h;obtain ⟨i1,bi,hi,mv',i2,q1,q2,g1,g2,g3,g4,g5,g6,g7⟩:=Ci h4 h;exact ⟨(x1,x2,x3)::i1,bi,hi,mv',i2,(x1,y2)::q1,q2,by rw[g1];rfl,by rw[g2];rfl,by simp[e];simpa using g3,⟨rfl,⟨mv,h2,h3⟩,g4⟩,g5,g6,g7⟩
 | [],_::_,_,h,_=>h.elim
 | _::_,[],_,h,_=>h.elim
theorem mn{K:PH}:∀ {i:jf} {q:List (Int×Ar)},eQ K i q->i.map (·.1)=q.map (·.1)
 | [],[],_=>rfl
 | x::r,y::q,⟨h1,_,h4⟩=>by simp[h1,mn h4]
 | [],_::_,h=>h.elim
 | _::_,[],h=>h.elim
theorem eQ.app{K:PH}:∀ {i j:jf} {q r:List (Int×Ar)},eQ K i q->eQ K j r->eQ K (i++j) (q++r)
 | [],_,[],_,_,h=>h
 | x::i,_,y::q,_,⟨h1,h2,h3⟩,h=>⟨h1,h2,eQ.app h3 h⟩
 | [],_,_::_,_,h,_=>h.elim
 | _::_,_,[],_,h,_=>h.elim
theorem uP{κ ν:Type}[DecidableEq κ]{k:κ}{u v:ν}{q2:List (κ×ν)}:∀ {q1:List (κ×ν)},k∉q1.map (·.1)->cj k v (q1++(k,u)::q2)=q1++(k,v)::q2
 | [],_=>by simp[cj]
 | (j,w)::q1,h=>by
  simp only[aaq,aay,not_or] at h;simp only[aaJ,cj,h.1,if_false];rw[uP h.2]
theorem uT{κ ν:Type}[DecidableEq κ]{k:κ}{u:ν}{q2:List (κ×ν)}:∀ {q1:List (κ×ν)},k∉q1.map (·.1)->dv k (q1++(k,u)::q2)=q1++q2
 | [],_=>by simp[dv]
 | (j,w)::q1,h=>by
  simp only[aaq,aay,not_or] at h;simp only[aaJ,dv,h.1,if_false];rw[uT h.2]
theorem uS{κ ν:Type}[DecidableEq κ]{k:κ}{u:ν}{q2:List (κ×ν)}:∀ {q1:List (κ×ν)},k∉q1.map (·.1)->a8 k (q1++(k,u)::q2)=some u
 | [],_=>by simp[a8]
 | (j,w)::q1,h=>by
  simp only[aaq,aay,not_or] at h;simp only[aaJ,a8,h.1,if_false];exact uS h.2
theorem pK{κ ν:Type}[DecidableEq κ]{k:κ}{v:ν}:∀ {q:List (κ×ν)},a8 k q=none->cj k v q=q++[(k,v)]
 | [],_=>rfl
 | (j,w)::q,h=>by
  by_cases e:k=j
  ·simp[a8,e] at h
  simp only[a8,e,if_false] at h;simp only[cj,e,if_false,aaJ];rw[pK h]
def ez(i:jf):List (Int×Nat):=i.map fun x=>(x.1,x.2.1)
def bC(i:jf):List PH:=i.map (·.2.2)
attribute [local irreducible] Code.wp wpList Calls
def go(K:PH)(b:Nat)(D:Dk)(m:List PH):Prop:=∃ bo ho ins,m=pt b (bW D bo) 126::ho::bC ins/\dX sK qe ho bo (ez ins)/\eQ K ins D.areas
theorem go.le{K K':PH}(l:Le K K'){b:Nat}{D:Dk}{m:List PH}(h:go K b D m):go K' b D m:=let ⟨bo,ho,ins,h1,h2,h3⟩:=h;⟨bo,ho,ins,h1,h2,h3.le l⟩
def CC(ao:Option Addr)(n c:Nat)(hn:n<=c):aj w0 249 [.slice ao n c] K hs (fun v K' hs'=>K'=K/\hs'=hs/\v=.slice (dm ao n 0 1) n n):=by
 refine cB Tryz.func249 ?_;refine wu 5 0 n n I I Nm I qo hn (au ?_);exact ah I I ⟨I,I,I⟩
def gk:gM Tryz.prog 29 sK:=Cf Tryz.underlying29
def kc:gM Tryz.prog 3 lW:=Cf Tryz.underlying3
def vI(b bo:Nat)(D:Dk)(h1:0<=D.steps/\D.steps<=1099511627776)(h2 : -1<=D.left/\D.left<=9223372036854775807):
  aj w0 110 [Nr b] K (pt b (bW D bo) 126::hs) (fun v K' hs'=>K'=K/\hs'=pt b (bW D.stp bo) 126::hs/\v=.bool D.stp.dead):=by
 refine cB Tryz.func110 ?_;refine ar 0 I (aC qo) (au ?_);refine ar 0 I (v':=.bool (decide (D.left=0))) (congrArg Value.bool (by rw[aaS];simp)) (stp 2 0 rfl rfl rfl rfl (fin 0 rfl (th (jn (σ:=Unit) (fun _=>[(0,Nr b)]) (fun _=>pt b (bW D.stp bo) 126::hs) (fun _=>True) ?_ ?_))))
 ·refine au ?_;refine ai 0 I fun b22 h22=>fin 0 I (th (ax h22 I (fun e1=>?_) (fun e1=>?_)))
  ·refine au ?_;exact ar 0 I (aC qo) (stp 2 0 I I I I (fin 0 I (jx () trivial sb I (by simp only[bW,Dk.stp,aab e1];rfl))))
  exact sk (jx () trivial sb I (by simp only[bW,Dk.stp,aaa e1];rfl))
 rintro - -;refine au ?_;exact ah I I ⟨I,I,I⟩
end
section
def In.tail{x:PH}(l:List PH)(hm:In K hs x):In K (l++hs) x:=by
 induction l with
 | nil=>exact hm
 | cons a l ih=>exact ih.cons
def Eb(K:PH)(D:Dk)(a:Int)(ins:jf)(hs:List PH)(bi:Option Nat)(h:PH)(tl:List PH):Prop:=
 (a8 a D.areas=none/\bi=none/\h=em/\tl=bC ins++hs) \/
 ∃ b i1 mv i2 q1 q2,bi=some b/\ins=i1++(a,b,h)::i2/\D.areas=q1++(a,D.ar a)::q2/\a∉q1.map (·.1)/\eQ K i1 q1/\eQ K i2 q2/\dX lW id h b mv/\MR (i7 K) mv (D.ar a)/\tl=bC i1++(bC i2++hs)
theorem nm(i:jf):(ez i).map (·.1)=i.map (·.1):=by simp[ez]
def pD{D:Dk}{a:Int}{ins:jf}(hI:eQ K ins D.areas){bi:Option Nat}{h:PH}{tl:List PH}(x:Eb K D a ins hs bi h tl):a8 a (ez ins)=bi:=by
 rcases x with ⟨h1,h2,_⟩|⟨b,i1,mv,i2,q1,q2,h1,h2,h3,h4,h5,h6,_⟩
 ·rw[h2,fQ,nm,mn hI];exact fQ.1 h1
 rw[h1,h2];have:a∉(ez i1).map (·.1):=by rw[nm,mn h5];exact h4
 unfold ez at this ⊢;rw[aaX,aaq];generalize (i1.map fun x:Int×Nat×PH=>(x.1,x.2.1))=z at this ⊢
 induction z with
 | nil=>simp[a8]
 | cons y z ih=>
  simp only[aaq,aay,not_or] at this;simp only[aaJ,a8,this.1,if_false];exact ih this.2
def qp{D:Dk}{ins:jf}(hI:eQ K ins D.areas)(a:Int)(hs:List PH):∃ bi h tl,Eb K D a ins hs bi h tl/\∀ P O:PH,(bi=none->(P::O::(bC ins++hs))=(P::O::tl))/\(bi≠none->(P::O::(bC ins++hs)).Perm (h::P::O::tl)):=by
 cases hg:a8 a D.areas with
 | none=>exact ⟨none,em,_,.inl ⟨hg,rfl,rfl,rfl⟩,fun P O=>⟨fun _=>rfl,fun h=>absurd rfl h⟩⟩
 | some l=>
  obtain ⟨i1,bi,hi,mv,i2,q1,q2,g1,g2,g3,g4,g5,g6,g7⟩:=Ci hI hg;have hl:D.ar a=l:=by unfold Dk.ar;rw[hg];rfl
  refine ⟨some bi,hi,bC i1++(bC i2++hs),.inr ⟨bi,i1,mv,i2,q1,q2,I,g1,by rw[hl];exact g2,g3,g4,g5,g6,by rw[hl];exact g7,I⟩,fun P O=>⟨fun h=>(by cases h),fun _=>?_⟩⟩;rw[g1];unfold bC;rw[aaX,aaq,aaD,aaJ];have p:(i1.map (·.2.2)++hi::(i2.map (·.2.2)++hs)).Perm (hi::(i1.map (·.2.2)++(i2.map (·.2.2)++hs))):=aaN;exact ((p.cons O).trans (aat hi O _)).cons P |>.trans (aat hi P _)
def My(k:Nat)(bs:List UInt8):(List.take 0 (Array.replicate k (Value.int .u8 0)).toList++List.take (eq bs*1) (bv bs)++List.drop (0+eq bs*1) (Array.replicate k (Value.int .u8 0)).toList).toArray=(bv (bs++List.replicate (k-eq bs) 0)).toArray:=by
 have h1:List.take (eq bs*1) (bv bs)=bv bs:=aav (by simp[bv]);rw[h1];simp[bv]
def LZ(bs:List UInt8):(List.take 0 (Array.replicate 64 (Value.int .u8 0)).toList++List.take (eq bs*1) (bv bs)++List.drop (0+eq bs*1) (Array.replicate 64 (Value.int .u8 0)).toList).toArray=(bv (eE bs)).toArray:=My 64 bs
attribute [local irreducible] Code.wp wpList Calls
def J1{hv:PH}{m:List PH}(b:Nat)(D:Dk)(c:Nat)(o:D.Ok c)(hc:c<=1099511627)(hm:go K b D m)(area n:Int)(ha:0<=area/\area<=18446744073709551615)(ao:Option Addr)(cap:Nat)(bs:List UInt8)(hin:In K hs hv)(x:aw hv ao (eq bs) cap 1 (bv bs)):
  aj w0 207 [Nr b,.int .u64 area,.int .i64 n,.slice ao (eq bs) cap] K (m++hs)
   (fun v K' hs'=>Le K K'/\∃ m',hs'=m'++hs/\go K' b (D.write area n bs).1 m'/\v=.int .i64 (D.write area n bs).2):=by
 obtain ⟨bo,ho,ins,rfl,hO,hI⟩:=hm;obtain ⟨bi,hA,tl,hAr,hperm⟩:=qp hI area hs;have hmo:=pD hI hAr;obtain ⟨old,hold⟩:=be ((D.sec area n).getD ⟨[],false⟩);have hro:=o.room;refine ent Tryz.func207 ?_;refine acI ?_
 refine fin 1 I (th (jn (σ:=Option Addr×Nat×Nat) (fun s=>[(0,Nr b),(1,.int .u64 area),(2,.int .i64 n),(3,.slice ao (eq bs) cap),(8,.int .i64 0),(9,.pointer (some ⟨s.2.2,0,none⟩)),(10,.bool (D.sec area n).isSome)])
  (fun s=>pt s.2.2 #[.slice s.1 (eq old.vs) s.2.1,.bool old.syn] 136::hA::pt b (bW D bo) 126::ho::tl) (fun s=>aw K s.1 (eq old.vs) s.2.1 1 (iS old.vs)) ?_ ?_))
 ·cases hbi:bi with
  | none=>
   rw[hbi] at hmo hAr;rw[show ((pt b (bW D bo) 126::ho::bC ins)++hs)=(pt b (bW D bo) 126::ho::tl) from (hperm _ _).1 hbi];rcases hAr with ⟨g1,_,rfl,g3⟩|⟨b',_,_,_,_,_,g1,_⟩
   ·have hs0:D.sec area n=none:=by unfold Dk.sec Dk.ar;rw[g1];rfl
    rw[hs0] at hold;refine rg (WL.em (au ?_));refine il 1 (z:=.map none) area I Tryz.underlying124 qk gk I (.inr ⟨2,I⟩) hO ?_;rw[hmo];refine D4 1 (z:=.agg #[.slice none 0 0,.bool false]) n I Tryz.underlying129 qk kc I (al 3 (.agg #[.slice none 0 0,.bool false]) I qk fun b9=>?_);refine bJ 0 0 I I qk I I ?_;refine fin 1 I ?_;rw[show old=⟨[],false⟩ from hold];exact jx (none,0,b9) (aw.nil _ _ _ _) ⟨I,I,I,I,I,I,by rw[hs0];rfl,trivial⟩ rfl rfl
   cases g1
  | some bi=>
   rw[hbi] at hmo hAr;rcases hAr with ⟨_,g1,_⟩|⟨b',i1,mv,i2,q1,q2,g1,g2,g3,g4,g5,g6,hMv,hMR,g9⟩
   ·cases g1
   cases g1;refine WC.perm ((hperm _ _).2 (by rw[hbi];simp)) ?_;have hsec:D.sec area n=a8 n (D.ar area):=rfl;rcases MR.get n hMR with ⟨h1,h2⟩|⟨v,s,h1,h2,aoV,cV,rfl,h3⟩
   ·rw[hsec,h2] at hold;refine au ?_;refine il 1 (z:=.map none) area I Tryz.underlying124 qk gk I (.inr ⟨2,I⟩) hO ?_;rw[hmo];refine il 1 (z:=.agg #[.slice none 0 0,.bool false]) n I Tryz.underlying129 qk kc I (.inr ⟨0,I⟩) hMv ?_;rw[h1];refine al 3 (.agg #[.slice none 0 0,.bool false]) I qk fun b9=>?_;refine bJ 0 0 I I qk I I ?_;refine fin 1 I ?_;rw[show old=⟨[],false⟩ from hold];exact jx (none,0,b9) (aw.nil _ _ _ _) ⟨I,I,I,I,I,I,by rw[hsec,h2];rfl,trivial⟩ rfl rfl
   rw[hsec,h2] at hold;refine au ?_;refine il 1 (z:=.map none) area I Tryz.underlying124 qk gk I (.inr ⟨2,I⟩) hO ?_;rw[hmo];refine il 1 (z:=.agg #[.slice none 0 0,.bool false]) n I Tryz.underlying129 qk kc I (.inr ⟨0,I⟩) hMv ?_;rw[h1];refine al 3 (.agg #[.slice none 0 0,.bool false]) I qk fun b9=>?_;refine bJ 0 0 I I qk I I ?_;refine fin 1 I ?_;rw[show old=s from hold];exact jx (aoV,cV,b9) h3 ⟨I,I,I,I,I,I,by rw[hsec,h2];rfl,trivial⟩ rfl rfl
 rintro ⟨aoV,cV,b9⟩ hV;dsimp only at *
 have back:∀ (P O:PH),bi=none/\hA=em/\(P::O::tl)=(P::O::(bC ins++hs))\/(hA::P::O::tl).Perm (P::O::(bC ins++hs)):=fun P O=>by
  cases hbi:bi with
  | none=>
   left
   rcases hAr with ⟨_,_,g2,g3⟩|⟨b',_,_,_,_,_,g1,_⟩
   ·exact ⟨I,g2,by rw[g3]⟩
   rw[hbi] at g1;cases g1
  | some z=>exact .inr ((hperm P O).2 (by rw[hbi];simp)).symm
 have giveup:∀ {fn:Func} {R:Value->PH->List PH->Prop} {l:Sl},WQ w0 (bodyPost Tryz.prog fn (fg w0 R)) .ret 93 l K (pt b (bW D bo) 126::ho::(bC ins++hs))->WQ w0 (bodyPost Tryz.prog fn (fg w0 R)) .ret 93 l K (pt b9 #[.slice aoV (eq old.vs) cV,.bool old.syn] 136::hA::pt b (bW D bo) 126::ho::tl):=fun {fn R l} h=>by
  refine WQ.drop ?_;rcases back (pt b (bW D bo) 126) ho with ⟨_,_,e⟩|p
  ·rw[e];exact WQ.drop h
  exact WQ.perm p h
 refine jn (σ:=Unit) (fun _=>[(0,Nr b),(1,.int .u64 area),(2,.int .i64 n),(3,.slice ao (eq bs) cap),(9,Nr b9),(10,.bool (D.sec area n).isSome)]) (fun _=>pt b9 #[.slice aoV (eq old.vs) cV,.bool old.syn] 136::hA::pt b (bW D bo) 126::ho::tl) (fun _=>¬D.dead=true/\¬(n<0\/65536<=n\/64<eq bs)/\¬((D.sec area n).isSome=false/\D.room=0)) ?_ ?_
 ·refine bk (acI (a9 3 2 (v:=.bool D.dead) I I I ?_));cases hdead:D.dead with
  | true=>
   refine au ?_;refine jr (giveup ?_);have e:D.write area n bs=(D,30):=by unfold Dk.write;rw[aab hdead]
   rw[e];exact ah I I ⟨Le.refl _,_,I,⟨bo,ho,ins,I,hO,hI⟩,I⟩
  | false=>
   refine fin 1 I (th (bY I ?_));have hd0:¬D.dead=true:=by rw[hdead];simp
   refine acI (bh 1 I (fun h2=>?_) (fun h2=>?_))
   ·refine au ?_;refine jr (giveup ?_);have e:D.write area n bs=(D,31):=by unfold Dk.write;rw[aaa hd0,aab (.inl h2)]
    rw[e];exact ah I I ⟨Le.refl _,_,I,⟨bo,ho,ins,I,hO,hI⟩,I⟩
   refine bh 2 I (fun h3=>?_) (fun h3=>?_)
   ·refine au ?_;refine jr (giveup ?_);have e:D.write area n bs=(D,31):=by unfold Dk.write;rw[aaa hd0,aab (.inr (.inl qo))]
    rw[e];exact ah I I ⟨Le.refl _,_,I,⟨bo,ho,ins,I,hO,hI⟩,I⟩
   refine bh 4 I (fun h4=>?_) (fun h4=>?_)
   ·refine au ?_;refine jr (giveup ?_);have e:D.write area n bs=(D,31):=by unfold Dk.write;rw[aaa hd0,aab (.inr (.inr qo))]
    rw[e];exact ah I I ⟨Le.refl _,_,I,⟨bo,ho,ins,I,hO,hI⟩,I⟩
   have hnf:¬(n<0\/65536<=n\/64<eq bs):=qo
   refine fin 2 I<|th (bY I ?_)
   by_cases hfull:(D.sec area n).isSome=false/\D.room=0
   ·refine acI ?_;rw[hfull.1];refine au ?_;refine bh 0 I (fun h5=>au ?_) (fun h5=>absurd hfull.2 h5);refine jr (giveup ?_);have e:D.write area n bs=(D,32):=by unfold Dk.write;rw[aaa hd0,aaa hnf,aab hfull]
    rw[e];exact ah I I ⟨Le.refl _,_,I,⟨bo,ho,ins,I,hO,hI⟩,I⟩
   refine acI ?_;have hg:¬D.dead=true/\¬(n<0\/65536<=n\/64<eq bs)/\¬((D.sec area n).isSome=false/\D.room=0):=⟨hd0,hnf,hfull⟩;cases hse:(D.sec area n).isSome with
   | true=>
    refine fin 10 I (th (bY I (sk (bl ?_))));exact jx () (by rw[hse,hdead] at hg;exact hg) sb I I
   | false=>
    refine au ?_;refine bh 0 I (fun h5=>absurd ⟨hse,h5⟩ hfull) (fun h5=>fin 2 I (th (bY I (sk (bl ?_)))));exact jx () (by rw[hse,hdead] at hg;exact hg) sb I I
 rintro-⟨hd0,hnf,hfull⟩;have e:D.write area n bs=((D.laid area n bs).stp,if (D.laid area n bs).stp.dead=true then 30 else 0):=by unfold Dk.write;rw[aaa hd0,aaa hnf,aaa hfull]
 rw[e];obtain ⟨D1,hD1⟩:∃ D1:Dk,D1={ D with room:=if (D.sec area n).isSome=true then D.room else D.room-1 }:=⟨_,rfl⟩;refine jn (σ:=Unit) (fun _=>[(0,Nr b),(1,.int .u64 area),(2,.int .i64 n),(3,.slice ao (eq bs) cap),(9,Nr b9),(10,.bool (D.sec area n).isSome)]) (fun _=>pt b9 #[.slice aoV (eq old.vs) cV,.bool old.syn] 136::hA::pt b (bW D1 bo) 126::ho::tl) (fun _=>True) ?_ ?_
 ·refine acI ?_;cases hse:(D.sec area n).isSome with
  | true=>
   refine fin 2 I (th (bY I (sk ?_)));exact jx () trivial sb I (by rw[hD1,aab hse])
  | false=>
   have hr0:0<D.room:=by
    have:¬D.room=0:=fun h=>hfull ⟨hse,h⟩;omega
   refine au ?_;refine ar 0 I (aC qo) (stp 2 2 I I I I (fin 0 I ?_));exact jx () trivial sb I (by rw[hD1,aaa (by rw[hse];simp)];rfl)
 rintro - -
 refine jn (σ:=PH×PH×List PH) (fun _=>[(0,Nr b),(1,.int .u64 area),(2,.int .i64 n),(3,.slice ao (eq bs) cap),(9,Nr b9),(10,.bool (D.sec area n).isSome)]) (fun s=>pt b9 #[.slice aoV (eq old.vs) cV,.bool old.syn] 136::s.1::pt b (bW D1 bo) 126::s.2.1::s.2.2)
  (fun s=>∃ i1 bi mv i2 q1 q2,dX lW id s.1 bi mv/\MR (i7 K) mv (D.ar area)/\dX sK qe s.2.1 bo (ez (i1++(area,bi,s.1)::i2))/\eQ K i1 q1/\eQ K i2 q2/\area∉q1.map (·.1)/\(∀ l,cj area l D.areas=q1++(area,l)::q2)/\s.2.2=bC i1++(bC i2++hs)) ?_ ?_
 ·refine au ?_;refine il 1 (z:=.map none) area I Tryz.underlying124 qk gk I (.inr ⟨3,I⟩) hO ?_;rw[hmo];cases hbi:bi with
  | none=>
   rw[hbi] at hmo hAr;rcases hAr with ⟨g1,_,rfl,rfl⟩|⟨b',_,_,_,_,_,g1,_⟩
   ·refine dE 0 True I Nm fun b65 h65=>fin 0 I (th (ax h65 I (fun _=>au ?_) (fun h=>absurd trivial h)));refine sU 1 I fun bm=>sT 0 4 area bm I I Tryz.underlying124 gk I I hO fun ho' hO'=>fin 0 I (WQ.perm (gU _ 2 _ I) (WQ.drop (WQ.perm (aat _ _ _) (jx (sg bm (.map #[] 0),ho',bC ins++hs) ⟨ins,bm,[],[],D.areas,[],dX.empty _ _,?_,?_,hI,trivial,fQ.1 g1,fun l=>by rw[pK g1],I⟩ ⟨I,I,I,I,I,I,trivial⟩ I I))))
    ·unfold Dk.ar;rw[g1];trivial
    rw[pK hmo] at hO';simpa[ez] using hO'
   cases g1
  | some bi=>
   rw[hbi] at hmo hAr;rcases hAr with ⟨_,g1,_⟩|⟨b',i1,mv,i2,q1,q2,g1,g2,g3,g4,g5,g6,hMv,hMR,g9⟩
   ·cases g1
   cases g1;refine dE 0 False I (by simp[qe]) fun b65 h65=>fin 0 I (th (ax h65 I (fun h=>h.elim) (fun _=>sk (jx (hA,ho,tl) ⟨i1,bi,mv,i2,q1,q2,hMv,hMR,by rw[<-g2];exact hO,g5,g6,g4,fun l=>?_,g9⟩ sb I I))));rw[g3];exact uP g4
 rintro ⟨hA1,ho1,tl1⟩ ⟨i1,bi1,mv,i2,q1,q2,hMv,hMR,hO1,g5,g6,g4,hset,rfl⟩;dsimp only at *;have hb64:eq bs<=64:=qo
 have hk:eq old.vs<=c:=by
  cases hs0:D.sec area n with
  | none=>rw[hold,hs0];simp
  | some s=>rw[hold,hs0];exact (o.secOk hs0).2.1
 have hnone:aoV=none->eq old.vs=0:=fun h=>by
  rcases abx (eq old.vs) with h2|h2
  ·exact h2
  obtain ⟨a,ha⟩:=hV.addr h2 Nn;rw[h] at ha;cases ha
 have xC:aw K (dm aoV (eq old.vs) 0 1) (eq old.vs) (eq old.vs) 1 (iS old.vs):=by rw[pT];exact ⟨hV.1,aac _,hV.2.2⟩
 refine acI (al 0 (.agg (Array.replicate 64 (.int .u8 0))) I qk fun b11=>au ?_);refine sR 0 (sz:=1) 0 64 I I Tryz.underlying245 qk I I (aac _) Nn ?_;simp only[bf,abq,aa5];refine D8 1 0 (eq bs) I I I (In.tail (_::_::_::_::_::bC i1) (In.tail (bC i2) hin)) x qo (fun u hu=>fM bs u (aaW hu)) (by show 0+eq bs*1<=64;omega) ?_;refine WL.hs (pt b11 (bv (eE bs)).toArray 245::pt b9 #[.slice aoV (eq old.vs) cV,.bool old.syn] 136::hA1::pt b (bW D1 bo) 126::ho1::(bC i1++(bC i2++hs))) (congrArg (fun z=>pt b11 z 245::pt b9 #[.slice aoV (eq old.vs) cV,.bool old.syn] 136::hA1::pt b (bW D1 bo) 126::ho1::(bC i1++(bC i2++hs))) (LZ bs)) ?_
 have xW:aw (pt b11 (bv (eE bs)).toArray 245) (some ⟨b11,0,none⟩) 64 64 1 ((eE bs).map fun b=>Value.int .u8 b.toNat):=by
  have:=(aZ.ofPt (b:=b11) (c:=(bv (eE bs)).toArray) (e:=245) (n:=64) (size:=1) (by simp[bv,uA hb64]) (by simp[maxLen])).isS;simpa[bv] using this
 refine fin 0 I (th (jR (σ:=PH×Option Addr×Nat) (fun _=>[(0,Nr b),(1,.int .u64 area),(2,.int .i64 n),(9,Nr b9)]) (fun s=>s.1) (fun s=>pt b9 #[.slice s.2.1 (eq old.vs+1) s.2.2,.bool old.syn] 136::hA1::pt b (bW D1 bo) 126::ho1::(bC i1++(bC i2++hs)))
  (fun s=>Le K s.1/\aw s.1 s.2.1 (eq old.vs+1) s.2.2 1 (iS (old.vs++[eE bs]))) ?_ ?_))
 ·refine bQ [1,0] 8 [0,2,6,8,5,11,13,14,17] ?_;refine au ?_;refine LN qk 0 (sz:=1) 0 64 I qk I Tryz.underlying245 qk I I (aac _) Nn ?_;simp only[bf,abq,aa5];refine LW qk 0 (eE bs) I qk I (.inr ⟨1,I⟩) xW qk (sa 5 qk 0 [5,13,14,17] I qk ?_ ?_)
  ·refine cl 0 I (CC aoV (eq old.vs) cV hV.2.1) ?_;rintro v77 K77 hs77 ⟨rfl,rfl,rfl⟩;exact ba Nm I (aJ qk 0 I (lit 0 #[str (eE bs)] I Nn qk fun b80=>ba Nm I (aJ qk 0 I (sO 0 I (.inl I) xC (by rw[pT];exact hnone) (.inr ⟨0,I⟩) (aZ.ofPt (b:=b80) (c:=#[str (eE bs)]) (e:=9) (n:=1) (size:=1) I (by simp[maxLen])).isS I Nn qo (by show (eq old.vs+1)*16<=_;omega) (by simp only[maxLen];omega) fun ao81 c81 g81 o81=>WL.frz fun K2 le2 l2=>WL.drop (eK Nm le2 (aJ qk 1 rfl (stp 0 1 rfl rfl rfl rfl (ci (.inl qk) (aM qk 0 rfl (WQ.drop (fb (K2,ao81,c81) ⟨le2,by simpa[iS] using o81.isS.le l2⟩ sb rfl rfl)))))))))))
  refine lit 0 #[str (eE bs)] I Nn qk fun b80=>ba Nm I (aJ qk 0 I (cl 0 I (CC aoV (eq old.vs) cV hV.2.1) ?_));rintro v77 K77 hs77 ⟨rfl,rfl,rfl⟩;exact ba Nm I (aJ qk 0 I (sO 0 I (.inl I) xC (by rw[pT];exact hnone) (.inr ⟨0,I⟩) (aZ.ofPt (b:=b80) (c:=#[str (eE bs)]) (e:=9) (n:=1) (size:=1) I (by simp[maxLen])).isS I Nn qo (by show (eq old.vs+1)*16<=_;omega) (by simp only[maxLen];omega) fun ao81 c81 g81 o81=>WL.frz fun K2 le2 l2=>WL.drop (eK Nm le2 (aJ qk 1 rfl (stp 0 1 rfl rfl rfl rfl (ci (.inl qk) (aM qk 0 rfl (WQ.drop (fb (K2,ao81,c81) ⟨le2,by simpa[iS] using o81.isS.le l2⟩ sb rfl rfl)))))))))
 rintro ⟨K2,ao81,c81⟩ ⟨le2,x81⟩;dsimp only at *
 have hsec2:i7 K2 (.agg #[.slice ao81 (eq old.vs+1) c81,.bool old.syn]) (fI (D.sec area n) bs):=by
  refine ⟨ao81,c81,?_,?_⟩
  ·unfold fI;rw[<-hold];simp
  unfold fI;rw[<-hold];simpa using x81
 refine sq (bG [pt b (bW D1 bo) 126,ho1,pt b9 #[.slice ao81 (eq old.vs+1) c81,.bool old.syn] 136] 9 [0,2,4,6,8,10,12,14,17] Nm qk qk (au ?_));refine DA qk 1 (zv:=.map none) area I Tryz.underlying124 qk gk I (.inr ⟨1,I⟩) hO1 ?_
 have hmo1:a8 area (ez (i1++(area,bi1,hA1)::i2))=some bi1:=by
  have h0:area∉(ez i1).map (·.1):=by rw[nm,mn g5];exact g4
  have:=uS (u:=bi1) (q2:=ez i2) h0;simpa[ez] using this
 rw[hmo1];refine kT qk 1 2 I qk I qk (aJ qk 0 I (sT 0 1 n (.agg #[.slice ao81 (eq old.vs+1) c81,.bool old.syn]) I I Tryz.underlying129 kc I I hMv fun hA2 hMv2=>ba Nm I (aM qk 0 I (th (WC.drop (WC.perm (aat _ _ _) (sq (acI ?_))))))));have e1:bW D1 bo=bW (D.laid area n bs) bo:=by rw[hD1];rfl
 refine WL.hs (pt b (bW (D.laid area n bs) bo) 126::hA2::ho1::(bC i1++(bC i2++hs))) (by rw[e1]) (cl 1 I (vI b bo (D.laid area n bs) (by have:=o.steps;simp only[Dk.laid];omega) o.left) ?_);rintro v92 K92 hs92 ⟨rfl,rfl,rfl⟩
 have fin:∀ {fn:Func} {R:Value->PH->List PH->Prop} {l:Sl},(∀ m',go K92 b (D.laid area n bs).stp m'->WQ w0 (bodyPost Tryz.prog fn (fg w0 R)) .ret 93 l K92 (m'++hs))->WQ w0 (bodyPost Tryz.prog fn (fg w0 R)) .ret 93 l K92 (pt b (bW (D.laid area n bs).stp bo) 126::hA2::ho1::(bC i1++(bC i2++hs))):=fun {fn R l} h=>by
  have hm':go K92 b (D.laid area n bs).stp (pt b (bW (D.laid area n bs).stp bo) 126::ho1::bC (i1++(area,bi1,hA2)::i2)):=by
   refine ⟨bo,ho1,i1++(area,bi1,hA2)::i2,I,by simpa[ez] using hO1,?_⟩;show eQ K92 _ (cj area (cj n (fI (D.sec area n) bs) (D.ar area)) D.areas);rw[hset];exact (g5.le le2).app ⟨I,⟨_,hMv2,MR.set hsec2 (hMR.imp fun _ _ h=>h.le le2)⟩,g6.le le2⟩
  refine WQ.perm ?_ (h _ hm');unfold bC;rw[aaX,aaq,aaJ,aaJ,aaD,aaJ];exact ((aat ho1 hA2 _).trans (List.perm_middle.symm.cons ho1)).cons _
 cases hst:(D.laid area n bs).stp.dead with
 | true=>
  exact WL.perm (List.Perm.refl _)<|En.fin 0 I (th<|cU I (acI (En.fin 1 I<|acK<|rT (fin fun m' hm'=>ah I I ⟨le2,m',I,hm',I⟩))))
 | false=>
  exact En.fin 0 I<|th (bY I<|sk (acF<|En.fin 1 I (acK (fin fun m' hm'=>ah I I ⟨le2,m',I,hm',I⟩))))
end
section
theorem ud{κ ν:Type}[DecidableEq κ]{k:κ}:∀ {q:List (κ×ν)},a8 k q=none->dv k q=q
 | [],_=>rfl
 | (j,w)::q,h=>by
  by_cases e:k=j
  ·simp[a8,e] at h
  simp only[a8,e,if_false] at h;simp only[dv,e,if_false];rw[ud h]
attribute [local irreducible] Code.wp wpList Calls
def dT(r:Int):Dk:=⟨r,0,[],-1,false⟩
def La{r:Int}(h:0<=r/\r<=1099511627776):(dT r).Ok 0:=⟨by simp[dT],by simp[dT],by simp[dT],h,by simp[dT],by simp[dT],by simp[dT]⟩
def CQ(r:Int)(hr:0<=r/\r<=1099511627776):aj w0 47 [.int .i64 r] K hs
  (fun v K' hs'=>K'=K/\∃ b m,hs'=m++hs/\go K b (dT r) m/\v=Nr b):=by
 refine cB Tryz.func47 ?_;refine ar 1 I (v':=.int .i64 r) (by rw[show (if r<0 then (0:Int) else r)=r from by rw[aaa qo]]) (sU 0 I fun bm=>bd 0 (.agg (bW (dT r) bm)) I (fun w=>by kernel_rfl) (bx 0 I fun b7=>au ?_));exact ah I I ⟨I,b7,_,I,⟨bm,_,[],I,dX.empty _ _,trivial⟩,I⟩
def LU{m:List PH}(b:Nat)(D:Dk)(hm:go K b D m):aj w0 100 [Nr b] K (m++hs)
  (fun v K' hs'=>K'=K/\hs'=m++hs/\v=.bool D.dead):=by
 obtain ⟨bo,ho,ins,rfl,hO,hI⟩:=hm;refine ent Tryz.func100 ?_;refine acI (fin 1 I (acF (a9 3 0 (v:=.bool D.dead) I I I (au ?_))));exact ah I I ⟨I,I,I⟩
def Kw{m:List PH}(b:Nat)(D:Dk)(c:Nat)(o:D.Ok c)(hc:c<=1099511627)(hm:go K b D m)(area n:Int):
  aj w0 109 [Nr b,.int .u64 area,.int .i64 n] K (m++hs)
   (fun v K' hs'=>Le K K'/\hs'=m++hs/\((D.read area n=none/\v=.tuple #[.slice none 0 0,.bool false]) \/
    ∃ bs ao cap,D.read area n=some bs/\eq bs=64/\v=.tuple #[.slice ao (eq bs) cap,.bool true]/\aw K' ao (eq bs) cap 1 (bv bs))):=by
 obtain ⟨bo,ho,ins,rfl,hO,hI⟩:=hm;obtain ⟨bi,hA,tl,hAr,hperm⟩:=qp hI area hs;have hmo:=pD hI hAr;refine ent Tryz.func109 ?_;refine acI (fin 2 I (th ?_));cases hbi:bi with
 | none=>
  rw[hbi] at hmo hAr;rcases hAr with ⟨g1,_,rfl,g3⟩|⟨b',_,_,_,_,_,g1,_⟩
  ·have hs0:D.read area n=none:=by unfold Dk.read Dk.sec Dk.ar;rw[g1];rfl
   refine au ?_;refine il 1 (z:=.map none) area I Tryz.underlying124 qk gk I (.inr ⟨1,I⟩) hO ?_;rw[hmo];refine D4 1 (z:=.agg #[.slice none 0 0,.bool false]) n I Tryz.underlying129 qk kc I (al 3 (.agg #[.slice none 0 0,.bool false]) I qk fun b9=>?_);refine bJ 0 0 I I qk I I ?_;exact fin 1 I (acE (fin 2 I (th (cU I (acI (fin 2 I (acK (rT (WQ.drop (bM I I I ⟨Le.refl _,I,.inl ⟨hs0,I⟩⟩))))))))))
  cases g1
 | some bi=>
  rw[hbi] at hmo hAr;rcases hAr with ⟨_,g1,_⟩|⟨b',i1,mv,i2,q1,q2,g1,g2,g3,g4,g5,g6,hMv,hMR,g9⟩
  ·cases g1
  cases g1;have hp:=(hperm (pt b (bW D bo) 126) ho).2 (by rw[hbi];simp);refine WC.perm hp ?_;have hsec:D.sec area n=a8 n (D.ar area):=rfl;rcases MR.get n hMR with ⟨h1,h2⟩|⟨v,s,h1,h2,aoV,cV,rfl,h3⟩
  ·have hs0:D.read area n=none:=by unfold Dk.read;rw[hsec,h2];rfl
   refine au ?_;refine il 1 (z:=.map none) area I Tryz.underlying124 qk gk I (.inr ⟨2,I⟩) hO ?_;rw[hmo];refine il 1 (z:=.agg #[.slice none 0 0,.bool false]) n I Tryz.underlying129 qk kc I (.inr ⟨0,I⟩) hMv ?_;rw[h1];refine al 3 (.agg #[.slice none 0 0,.bool false]) I qk fun b9=>?_;refine bJ 0 0 I I qk I I ?_;exact fin 1 I (acE (fin 2 I (th (cU I (acI (fin 2 I (acK (rT (WQ.drop (WQ.perm hp.symm (bM I I I ⟨Le.refl _,I,.inl ⟨hs0,I⟩⟩)))))))))))
  obtain ⟨k1,k2,k3⟩:=o.secOk (show D.sec area n=some s by rw[hsec,h2])
  have hlen:0<eq s.vs:=by
   rcases abx (eq s.vs) with h|h
   ·exact absurd (aaZ h) k1
   exact h
  have hs0:D.read area n=some (s.vs.getLastD []):=by unfold Dk.read;rw[hsec,h2];rfl
  have hget:(iS s.vs)[eq s.vs-1]?=some (str (s.vs.getLastD [])):=by
   unfold iS;rw[aby,abw,List.getLast?_eq_getElem?];rw[aai qo]
   rfl
  have hl64:eq (s.vs.getLastD [])=64:=by
   rw[abw,ab9 k1];exact k3 _ (List.getLast_mem k1)
  refine au ?_;refine il 1 (z:=.map none) area I Tryz.underlying124 qk gk I (.inr ⟨2,I⟩) hO ?_;rw[hmo];refine il 1 (z:=.agg #[.slice none 0 0,.bool false]) n I Tryz.underlying129 qk kc I (.inr ⟨0,I⟩) hMv ?_;rw[h1];refine al 3 (.agg #[.slice none 0 0,.bool false]) I qk fun b9=>?_;refine bJ 0 0 I I qk I I ?_;exact fin 1 I (acE (fin 2 I (th (bY I (sk (acF (a9 1 0 I I I (a9 1 0 I I I (ar 1 I (aC qo) (dR 0 (eq s.vs-1) I qo I h3 hget fun a29 hc29=>ld 0 I (.inl I) hc29 (D7 0 I qk fun b31 c31 g31 x31=>WL.frz fun K2 le2 l2=>fin 2 I (acK (WQ.drop (WQ.perm hp.symm (bM I I I ⟨le2,I,.inr ⟨_,_,c31,hs0,hl64,I,x31.le l2⟩⟩)))))))))))))))
def LM{m:List PH}(b:Nat)(D:Dk)(c:Nat)(o:D.Ok c)(hc:c<=1099511627)(hm:go K b D m)(area:Int):
  aj w0 58 [Nr b,.int .u64 area] K (m++hs)
   (fun v K' hs'=>K'=K/\∃ m',hs'=m'++hs/\go K b (D.free area).1 m'/\v=.int .i64 (D.free area).2):=by
 obtain ⟨bo,ho,ins,rfl,hO,hI⟩:=hm;have hr:=o.room;have har:=(o.arNodup area).2;refine ent Tryz.func58 ?_;refine acI (fin 1 I (acE (a9 3 0 (v:=.bool D.dead) I I I ?_)));cases hd:D.dead with
 | true=>
  have e:D.free area=(D,30):=by unfold Dk.free;rw[aab hd]
  rw[e];refine au ?_;exact ah I I ⟨I,_,I,⟨bo,ho,ins,I,hO,hI⟩,I⟩
 | false=>
  refine cl 2 I (vI b bo D (by have:=o.steps;omega) o.left) ?_;rintro v11 K11 hs11 ⟨rfl,rfl,rfl⟩;cases hst:D.stp.dead with
  | true=>
   have e:D.free area=(D.stp,30):=by unfold Dk.free;rw[aaa (by rw[hd];simp),aab hst]
   rw[e];refine au ?_;exact ah I I ⟨I,pt b (bW D.stp bo) 126::ho::bC ins,I,⟨bo,ho,ins,I,hO,hI⟩,I⟩
  | false=>
   have e:D.free area=({ D.stp with room:=D.room+(eq (D.ar area):Int),areas:=dv area D.areas },0):=by unfold Dk.free;rw[aaa (by rw[hd];simp),aaa (by rw[hst];simp)]
   rw[e];refine fin 1 I (th (bY I (sk (th ?_))));obtain ⟨bi,hA,tl,hAr,hperm⟩:=qp hI area hs;have hmo:=pD hI hAr;cases hbi:bi with
   | none=>
    rw[hbi] at hmo hAr;rcases hAr with ⟨g1,_,rfl,g3⟩|⟨b',_,_,_,_,_,g1,_⟩
    ·have hl0:D.ar area=[]:=by unfold Dk.ar;rw[g1];rfl
     refine sq (bG [pt b (bW D.stp bo) 126,ho] 14 [0,2,4,6,8,10,12,14,16,18,20,22,24,26,29] Nm qk qk (bP qk 3 0 (v:=.int .i64 D.room) I qk I I (au ?_)));refine C0 qk 1 (zv:=.map none) area I qk I Tryz.underlying124 qk gk I (.inr ⟨1,I⟩) hO ?_;rw[hmo];refine LP qk 0 I qk I Tryz.underlying129 (bA qk 0 I (v':=.int .i64 (D.room+(eq (D.ar area):Int))) (by rw[hl0];exact aC (by simp;omega)) (au ?_));refine D0 1 1 area I I Tryz.underlying124 gk I hO fun ho' hO'=>au ?_;rw[ud hmo] at hO';refine ah I I ⟨I,pt b (bW { D.stp with room:=D.room+(eq (D.ar area):Int),areas:=dv area D.areas } bo) 126::ho'::bC ins,I,⟨bo,ho',ins,I,hO',?_⟩,I⟩;show eQ K11 ins (dv area D.areas);rw[ud g1];exact hI
    cases g1
   | some bi=>
    rw[hbi] at hmo hAr;rcases hAr with ⟨_,g1,_⟩|⟨b',i1,mv,i2,q1,q2,g1,g2,g3,g4,g5,g6,hMv,hMR,rfl⟩
    ·cases g1
    cases g1;have hp:=(hperm (pt b (bW D.stp bo) 126) ho).2 (by rw[hbi];simp);refine WC.perm hp (sq (bQ [1,2,0] 14 [0,2,4,6,8,10,12,14,16,18,20,22,24,26,29] ?_));refine bP qk 3 0 (v:=.int .i64 D.room) I qk I I (au ?_);refine C0 qk 1 (zv:=.map none) area I qk I Tryz.underlying124 qk gk I (.inr ⟨1,I⟩) hO ?_;rw[hmo];refine Mv qk 0 I qk I Tryz.underlying129 (.inr ⟨2,I⟩) hMv ?_;rw[hMR.len];refine bA qk 0 I (v':=.int .i64 (D.room+(eq (D.ar area):Int))) (aC qo) (aJ qk 2 I (stp 0 1 I I I I (ci (.inl qk) (aM qk 0 I (th (WC.drop (acI (au ?_))))))));refine D0 1 1 area I I Tryz.underlying124 gk I hO fun ho' hO'=>au ?_;refine ah I I ⟨I,pt b (bW { D.stp with room:=D.room+(eq (D.ar area):Int),areas:=dv area D.areas } bo) 126::ho'::bC (i1++i2),by simp[bC];rfl,⟨bo,ho',i1++i2,rfl,?_,?_⟩,rfl⟩
    ·rw[g2] at hO';have h0:area∉(ez i1).map (·.1):=by rw[nm,mn g5];exact g4
     have:=uT (u:=bi) (q2:=ez i2) h0;have h3:ez (i1++(area,bi,hA)::i2)=ez i1++(area,bi)::ez i2:=by simp[ez]
     rw[h3,this] at hO';simpa[ez] using hO'
    show eQ K11 (i1++i2) (dv area D.areas);rw[g3,uT g4];exact g5.app g6
end
section
def fH(ks:List Int)(x:Int×ef):Int×ef:=if x.1∈ks then (x.1,iP x.2) else x
def qS(ks:List Int)(x:Int×ef):(fH ks x).1=x.1:=by unfold fH;split <;> rfl
def FZ(ks:List Int)(l:Ar):(l.map (fH ks)).map (·.1)=l.map (·.1):=by
 rw[aa3];exact abf fun x _=>qS ks x
def yj{ks:List Int}{k:Int}{x:Int×ef}(h:x.1≠k):fH (ks++[k]) x=fH ks x:=by
 unfold fH
 by_cases e:x.1∈ks
 ·rw[aab e,aab (by simp[e])]
 rw[aaa e,aaa (by simp[e,h])]
theorem AW{k:Int}{s:ef}{ks:List Int}(hk:k∉ks):∀ {l:Ar},(l.map (·.1)).Nodup->(k,s)∈l.map (fH ks)->cj k (iP s) (l.map (fH ks))=l.map (fH (ks++[k]))
 | [],_,h=>by simp at h
 | (j,t)::l,hnd,h=>by
  simp only[aaq,aa7] at hnd
  by_cases e:k=j
  ·subst e;have hf:fH ks (k,t)=(k,t):=by unfold fH;rw[aaa hk]
   have hf2:fH (ks++[k]) (k,t)=(k,iP t):=by unfold fH;rw[aab Nm]
   have hst:s=t:=by
    rw[aaq,aay,hf] at h;rcases h with h|h
    ·exact (aag _ _ _ _ ▸ h).2
    exfalso
    obtain ⟨x,hx,hxe⟩:=aap.1 h;have:x.1=k:=by rw[<-qS ks x,hxe]
    exact hnd.1<|aap.2 ⟨x,hx,this⟩
   subst hst;rw[aaq,hf,aaq,hf2];simp only[cj,if_true]
   congr 1
   exact abf fun x hx=>(yj (fun h=>hnd.1<|aap.2 ⟨x,hx,h⟩)).symm
  have hj:(fH ks (j,t)).1=j:=qS ks _
  have h2:(k,s)∈l.map (fH ks):=by
   rw[aaq,aay] at h;rcases h with h|h
   ·exact absurd (by rw[<-h] at hj;exact hj) e
   exact h
  rw[aaq,aaq,yj (by exact fun h=>e h.symm)];cases hq:fH ks (j,t) with
  | mk a b=>
   rw[hq] at hj;dsimp only at hj;subst hj;simp only[cj,e,if_false];rw[AW hk hnd.2 h2]
def IE{ks:List Int}{l:Ar}(h:∀ x∈l,x.1∈ks):l.map (fH ks)=l.map fun x=>(x.1,iP x.2):=
 abf fun x hx=>by unfold fH;rw[aab (h x hx)]
def lN:Ar->List Int->Nat
 | [],_=>0
 | x::l,ks=>(if x.1∈ks then 0 else 1)+lN l ks
theorem AU(ks:List Int)(k:Int):∀ l:Ar,lN l (ks++[k])<=lN l ks
 | []=>aac _
 | x::l=>by
  have:=AU ks k l;simp only[lN]
  by_cases e:x.1∈ks
  ·rw[aab e,aab (by simp[e])];omega
  rw[aaa e];split <;> omega
theorem AT{ks:List Int}{k:Int}(hk:k∉ks):∀ {l:Ar},k∈l.map (·.1)->lN l (ks++[k])<lN l ks
 | [],h=>by simp at h
 | x::l,h=>by
  simp only[lN]
  by_cases e:x.1=k
  ·have:=AU ks k l;rw[aab (by simp[e]),aaa (by rw[e];exact hk)];omega
  have h2:k∈l.map (·.1):=by
   rw[aaq,aay] at h;rcases h with h|h
   ·exact absurd h.symm e
   exact h
  have:=AT hk h2
  by_cases e1:x.1∈ks
  ·rw[aab e1,aab (by simp[e1])];omega
  rw[aaa e1,aaa (by simp[e1,e])];omega
attribute [local irreducible] Code.wp wpList Calls
def Lu{m:List PH}(b:Nat)(D:Dk)(c:Nat)(o:D.Ok c)(hc:c<=1099511627)(hm:go K b D m)(area:Int):
  aj w0 175 [Nr b,.int .u64 area] K (m++hs)
   (fun v K' hs'=>K'=K/\∃ m',hs'=m'++hs/\go K b (D.sync area).1 m'/\v=.int .i64 (D.sync area).2):=by
 obtain ⟨bo,ho,ins,rfl,hO,hI⟩:=hm;have hr:=o.room;refine ent Tryz.func175 ?_;refine acI (fin 1 I (acE (a9 3 0 (v:=.bool D.dead) I I I ?_)));cases hd:D.dead with
 | true=>
  have e:D.sync area=(D,30):=by unfold Dk.sync;rw[aab hd]
  rw[e];refine au ?_;exact ah I I ⟨I,_,I,⟨bo,ho,ins,I,hO,hI⟩,I⟩
 | false=>
  refine cl 2 I (vI b bo D (by have:=o.steps;omega) o.left) ?_;rintro v11 K11 hs11 ⟨rfl,rfl,rfl⟩;cases hst:D.stp.dead with
  | true=>
   have e:D.sync area=(D.stp,30):=by unfold Dk.sync;rw[aaa (by rw[hd];simp),aab hst]
   rw[e];refine au ?_;exact ah I I ⟨I,pt b (bW D.stp bo) 126::ho::bC ins,I,⟨bo,ho,ins,I,hO,hI⟩,I⟩
  | false=>
   have e:D.sync area=({ D.stp with areas:=D.synA area },0):=by unfold Dk.sync;rw[aaa (by rw[hd];simp),aaa (by rw[hst];simp)]
   rw[e];refine fin 1 I (th (bY I (sk (th ?_))));obtain ⟨bi,hA,tl,hAr,hperm⟩:=qp hI area hs;have hmo:=pD hI hAr;cases hbi:bi with
   | none=>
    rw[hbi] at hmo hAr;rcases hAr with ⟨g1,_,rfl,g3⟩|⟨b',_,_,_,_,_,g1,_⟩
    ·refine au ?_;refine il 1 (z:=.map none) area I Tryz.underlying124 qk gk I (.inr ⟨1,I⟩) hO ?_;rw[hmo];refine Mo 0 I Tryz.underlying129 fun r=>au ?_;refine loop (σ:=Unit) (fun _=>[(21,Nr r)]) (fun _=>K11) (fun _=>sg r (.mapIter none 0 #[] 0)::pt b (bW D.stp bo) 126::ho::(bC ins++hs)) (fun _=>True) (fun _=>0) () trivial sb I I ?_;rintro - -;refine acI (Mq 0 I (.inr ⟨0,I⟩) (fin 1 I (th (sq (bY I (ex (xt (xt (xb (acF (fin 1 I (acK (WQ.drop (ah I I ⟨I,pt b (bW D.stp bo) 126::ho::bC ins,I,⟨bo,ho,ins,I,hO,?_⟩,I⟩))))))))))))));show eQ K11 ins (D.synA area);unfold Dk.synA;rw[g1];exact hI
    cases g1
   | some bi=>
    rw[hbi] at hmo hAr;rcases hAr with ⟨_,g1,_⟩|⟨b',i1,mv,i2,q1,q2,g1,g2,g3,g4,g5,g6,hMv,hMR,rfl⟩
    ·cases g1
    cases g1;have hp:=(hperm (pt b (bW D.stp bo) 126) ho).2 (by rw[hbi];simp);have hnd:=(o.arNodup area).1;have hga:a8 area D.areas=some (D.ar area):=by rw[g3];exact uS g4
    refine WC.perm hp (au ?_);refine il 1 (z:=.map none) area I Tryz.underlying124 qk gk I (.inr ⟨2,I⟩) hO ?_;rw[hmo];refine DW 0 I Tryz.underlying129 (.inr ⟨0,I⟩) hMv fun r hi hI0=>au ?_
    refine loop (σ:=PH×PH×List (Int×Value)×List Int) (fun _=>[(0,Nr b),(1,.int .u64 area),(21,Nr r)]) (fun _=>K11)
     (fun s=>s.1::s.2.1::pt b (bW D.stp bo) 126::ho::(bC i1++(bC i2++hs))) (fun s=>jA lW id s.2.1 s.1 bi r s.2.2.1 s.2.2.2/\MR (i7 K11) s.2.2.1 ((D.ar area).map (fH s.2.2.2))) (fun s=>lN (D.ar area) s.2.2.2)
     (hi,hA,mv,[]) ⟨hI0,by rw[show (D.ar area).map (fH [])=D.ar area from by rw[abf (g:=id) (fun x _=>by simp[fH])];simp];exact hMR⟩ sb I I ?_
    rintro ⟨hi,hA,mv,ks⟩ ⟨hJ,hR⟩;dsimp only at *;have hkeys:mv.map (·.1)=(D.ar area).map (·.1):=by rw[hR.keys,FZ]
    refine acI (DX 0 0 I (.inr ⟨1,I⟩) I hJ (by rw[hkeys];exact hnd) (fun k v hi' hmem hnk hS=>?_) (fun hall=>?_))
    ·obtain ⟨s,hsm,ao,cv,rfl,hV⟩:=hR.mem hmem;have hkm:k∈(D.ar area).map (·.1):=by rw[<-hkeys];exact aap.2 ⟨_,hmem,I⟩
     have hs2:(k,s)∈D.ar area:=by
      obtain ⟨x,hx,hxe⟩:=aap.1 hsm;have hx1:x.1=k:=by rw[<-qS ks x,hxe]
      have:fH ks x=x:=by unfold fH;rw[aaa (by rw[hx1];exact hnk)]
      rw[this] at hxe;rw[<-hxe];exact hx
     obtain ⟨l0,hl1,hl2⟩:=Dk.ar_mem _ hs2;rw[hl2] at hs2;obtain ⟨v1,v2,_⟩:=o.vs _ hl1 _ hs2
     replace v2:eq s.vs<=c:=v2
     replace v1:s.vs≠[]:=v1
     have hlen:0<eq s.vs:=by
      rcases abx (eq s.vs) with h|h
      ·exact absurd (aaZ h) v1
      exact h
     have hlast:((iS s.vs).drop ((eq s.vs-1)*1)).take (1*1)=iS [s.vs.getLastD []]:=by
      unfold iS
      have fD:s.vs.drop (eq s.vs-1)=[s.vs.getLast v1]:=by
       rw[aaF qo,List.getLast_eq_getElem,aa6 qo]
      rw[aaf,aaf,<-List.map_drop,<-List.map_take,fD];rw[abw,ab9 v1]
      rfl
     have hcut:=hV.cut (eq s.vs-1) 1 qo hlast;refine au ?_;refine DZ 0 I (.inr ⟨1,I⟩) (.inr ⟨0,I⟩) hS (al 2 (.agg #[.slice none 0 0,.bool false]) I qk fun b6=>?_);refine bJ 1 0 I I qk I I ?_;refine fin 0 I (th (bQ [3,4,0] 16 [0,2,4,6,8,10,12,14,16,18,20,22,24,26,28,31] ?_));refine au ?_;refine DA qk 1 (zv:=.map none) area I Tryz.underlying124 qk gk I (.inr ⟨1,I⟩) hO ?_;rw[hmo];refine au ?_;refine bA qk 1 I (v':=.int .i64 (eq s.vs-1:Nat)) (by rw[show ((eq s.vs:Nat):Int)-1=((eq s.vs-1:Nat):Int) from qo];exact aC qo) (mK qk 0 (eq s.vs-1) 1 I I I (by simp;omega) (by have:=hV.2.1;omega) (jw qk 0 (.agg #[.slice (dm ao cv (eq s.vs-1) 1) 1 (cv-(eq s.vs-1)),.bool true]) rfl (fun w=>by kernel_rfl) (au ?_)));refine Mp 0 2 k (.agg #[.slice (dm ao cv (eq s.vs-1) 1) 1 (cv-(eq s.vs-1)),.bool true]) I I Tryz.underlying129 kc I I hS.1 ?_ fun hA2 hJ2=>?_
     ·cases hg:a8 k mv with
      | some u=>rfl
      | none=>exact absurd (aap.2 ⟨_,hmem,rfl⟩) (fQ.1 hg)
     refine ba Nm I (aM qk 0 I (bl (WQ.drop (bw (x:=(hi,hA,mv,ks)) (hi',hA2,cj k _ mv,ks++[k]) ⟨I,I,I,trivial⟩ I I ⟨hJ2,?_⟩ (AT hnk hkm)))));dsimp only;rw[<-AW hnk hnd hsm];exact hR.set ⟨_,_,I,hcut⟩
    refine fin 1 I<|th (sq<|bY I (ex<|xt (xt<|xb (acF<|fin 1 I (acK (WQ.drop ?_))))))
    have hall2:∀ x∈D.ar area,x.1∈ks:=fun x hx=>by
     have:x.1∈mv.map (·.1):=by rw[hkeys];exact aap.2 ⟨x,hx,I⟩
     obtain ⟨y,hy,hye⟩:=aap.1 this;rw[<-hye];exact hall y hy
    have hm':go K11 b { D.stp with areas:=D.synA area } (pt b (bW D.stp bo) 126::ho::bC (i1++(area,bi,hA)::i2)):=by
     refine ⟨bo,ho,i1++(area,bi,hA)::i2,I,?_,?_⟩
     ·rw[g2] at hO;simpa[ez] using hO
     show eQ K11 _ (D.synA area);unfold Dk.synA;rw[hga];dsimp only
     rw[show cj area ((D.ar area).map fun x=>(x.1,iP x.2)) D.areas=q1++(area,(D.ar area).map fun x=>(x.1,iP x.2))::q2 from by
      conv=>lhs;rw[g3]
      exact uP g4]
     rw[IE hall2] at hR;exact g5.app ⟨I,⟨_,hJ.map,hR⟩,g6⟩
    refine WQ.perm ?_ (ah I I ⟨I,_,I,hm',I⟩);unfold bC;rw[aaX,aaq,aaJ,aaJ,aaD,aaJ];exact ((aat (pt b (bW D.stp bo) 126) hA _).trans (((aat ho hA _).trans (List.perm_middle.symm.cons ho)).cons _))
end
section
def swp(i j:Nat)(xs:List Nat):List Nat:=(xs.set i (xs.getD j 0)).set j (xs.getD i 0)
def ly(i j:Nat)(xs:List Nat):eq (swp i j xs)=eq xs:=by simp[swp]
def AX{i j:Nat}{xs:List Nat}(hi:i<eq xs)(hj:j<eq xs)(k:Nat):(swp i j xs)[k]?=if k=j then some (xs.getD i 0) else if k=i then some (xs.getD j 0) else xs[k]?:=by
 unfold swp;rw[acr]
 by_cases e1:j=k
 ·rw[aab e1,aab e1.symm,aab (by simpa using hj)]
 rw[aaa e1,aaa (Ne.symm e1),acr]
 by_cases e2:i=k
 ·rw[aab e2,aab e2.symm,aab qo]
 rw[aaa e2,aaa (Ne.symm e2)]
structure bF (a b:Nat) (xs ys:List Nat):Prop where
 len:eq ys=eq xs
 out:∀ i,i<a\/b<=i->ys[i]?=xs[i]?
 perm:ys.Perm xs
theorem bF.refl(a b:Nat)(xs:List Nat):bF a b xs xs:=⟨rfl,fun _ _=>rfl,List.Perm.refl _⟩
theorem bF.trans{a b:Nat}{xs ys zs:List Nat}(h:bF a b xs ys)(g:bF a b ys zs):bF a b xs zs:=
 ⟨g.len.trans h.len,fun i hi=>(g.out i hi).trans (h.out i hi),g.perm.trans h.perm⟩
def bF.wide{a b c d:Nat}{xs ys:List Nat}(h:bF a b xs ys)(h1:c<=a)(h2:b<=d):bF c d xs ys:=
 ⟨h.len,fun i hi=>h.out i qo,h.perm⟩
def Ha{i j:Nat}{xs:List Nat}(hi:i<eq xs)(hj:j<eq xs):(swp i j xs).Perm xs:=by
 rw[List.perm_iff_count];intro v;unfold swp;have hgi:xs.getD i 0=xs[i]:=by rw[aaG,aai hi];rfl
 have hgj:xs.getD j 0=xs[j]:=by rw[aaG,aai hj];rfl
 rw[hgi,hgj,List.count_set (by simpa using hj),List.count_set hi]
 by_cases e:i=j
 ·subst e
  simp
  by_cases h:xs[i]=v
  ·have:0<List.count v xs:=List.count_pos_iff.2 (by rw[<-h];exact abp hi);simp[h];omega
  simp[h]
 have h3:(xs.set i xs[j])[j]'(by simpa using hj)=xs[j]:=by rw[List.getElem_set_ne (fun h=>e h)]
 rw[h3]
 have c1:(if (xs[i] == v)=true then 1 else 0)<=List.count v xs:=by
  split
  ·rename_i h;have h:=eq_of_beq h;exact List.count_pos_iff.2 (by rw[<-h];exact abp hi)
  exact aad _
 omega
theorem bF.swp{a b i j:Nat}{xs:List Nat}(h1:a<=i/\i<b)(h2:a<=j/\j<b)(hb:b<=eq xs):bF a b xs (swp i j xs):=
 ⟨ly i j xs,fun k hk=>by rw[AX qo qo,aaa qo,aaa qo],Ha qo qo⟩
def de(a b:Nat)(xs:List Nat):Prop:=∀ i j,a<=i->i<j->j<b->xs.getD i 0<=xs.getD j 0
def ik(l:List Nat):List Value:=l.map fun x=>Value.int .u64 (x:Nat)
abbrev kI(kd:Bool):IntKind:=match kd with|true=>.u64|false=>.i64
abbrev sf(kd:Bool)(a b:Nat):Nat:=match kd with|true=>a|false=>b
def gD(kd:Bool)(l:List Nat):List Value:=l.map fun x=>Value.int (kI kd) ((x:Nat):Int)
def eP(kd:Bool)(n:Int):Value:=.int (kI kd) n
def kA(kd:Bool)(pre:List Value)(xs:List Nat)(post:List Value):Array Value:=(pre++gD kd xs++post).toArray
def bI{kd:Bool}{pre:List Value}{xs:List Nat}{post:List Value}{i:Nat}(h:i<eq xs):(kA kd pre xs post)[eq pre+i]?=some (.int (kI kd) ((xs.getD i 0:Nat):Int)):=by
 unfold kA;rw[List.getElem?_toArray,aaD,abn qo,abR,abt (by simpa[gD] using h)];simp[gD,h,aaG]
def dZ{kd:Bool}{pre:List Value}{xs:List Nat}{post:List Value}{i v:Nat}(h:i<eq xs):(kA kd pre xs post).setIfInBounds (eq pre+i) (.int (kI kd) ((v:Nat):Int))=kA kd pre (xs.set i v) post:=by
 unfold kA;rw[List.setIfInBounds_toArray,aaD,aca _ _ qo,abR,List.set_append_left _ _ (by simpa[gD] using h)];simp[gD]
def nR{kd:Bool}{g e:Nat}{pre:List Value}{xs:List Nat}{post:List Value}{cap:Nat}(hc:eq xs<=cap):aw (pt g (kA kd pre xs post) e) (some ⟨g,eq pre,none⟩) (eq xs) cap 1 (gD kd xs):=by
 refine ⟨by simp[gD],hc,fun j u hu=>⟨_,I,?_⟩⟩
 have hj:j<eq xs:=by
  have:=(aax.1 hu).1;simpa[gD] using this
 rw[bf];refine cC.pt ?_;rw[bI hj];simp[gD,hj] at hu;rw[<-hu];simp[aaG,hj]
end
section
def i8(a i j:Nat)(xs:List Nat):Prop:=∀ p q,a<=p->p<q->q<=i->q≠j->xs.getD p 0<=xs.getD q 0
def i8.start{a i:Nat}{xs:List Nat}(h:de a i xs):i8 a i i xs:=fun p q h1 h2 h3 h4=>h p q h1 h2 qo
def i8.done{a i:Nat}{xs:List Nat}(h:i8 a i a xs):de a (i+1) xs:=fun p q h1 h2 h3=>h p q h1 h2 qo qo
def i8.stop{a i j:Nat}{xs:List Nat}(h:i8 a i j xs)(hj:a<j)(hle:xs.getD (j-1) 0<=xs.getD j 0):de a (i+1) xs:=fun p q h1 h2 h3=>by
 by_cases e:q=j
 ·subst e
  by_cases e2:p=q-1
  ·subst e2;exact hle
  exact aas (h p (q-1) h1 qo qo qo) hle
 exact h p q h1 h2 qo e
def jg{i j:Nat}{xs:List Nat}(hi:i<eq xs)(hj:j<eq xs)(k:Nat):(swp i j xs).getD k 0=if k=j then xs.getD i 0 else if k=i then xs.getD j 0 else xs.getD k 0:=by
 rw[aaG,AX hi hj]
 split
 ·rfl
 split
 ·rfl
 rw[aaG]
def i8.swap{a i j:Nat}{xs:List Nat}(h:i8 a i j xs)(hj:a<j)(hi:j<=i)(hl:i<eq xs)(hlt:xs.getD j 0<xs.getD (j-1) 0):i8 a i (j-1) (swp j (j-1) xs):=fun p q h1 h2 h3 h4=>by
 rw[jg qo qo,jg qo qo];rw[aaa h4]
 by_cases e1:q=j
 ·rw[aab e1]
  by_cases e2:p=j-1
  ·rw[aab e2];omega
  rw[aaa e2,aaa qo];exact h p (j-1) h1 qo qo qo
 rw[aaa e1]
 by_cases e2:p=j-1
 ·rw[aab e2];exact h j q qo qo h3 e1
 rw[aaa e2]
 by_cases e3:p=j
 ·rw[aab e3];exact h (j-1) q qo qo h3 e1
 rw[aaa e3];exact h p q h1 h2 h3 e1
def de.zero(a:Nat)(xs:List Nat):de a (a+1) xs:=fun i j h1 h2 h3=>by omega
attribute [local irreducible] Code.wp wpList Calls
def Mn(kd:Bool)(x:Nat):aj w0 (sf kd 273 268) [.int (kI kd) ((x:Nat):Int)] K hs (fun v K' hs'=>K'=K/\hs'=hs/\v=.bool false):=by
 cases kd
 let kd:Bool:=false
 rewrite [show sf false=sf kd from rfl]
 try rewrite [show kI false=kI kd from rfl]
 refine enter Tryz.func268 qk I I I ?_
 rotate_left
 let kd:Bool:=true
 rewrite [show sf true=sf kd from rfl]
 try rewrite [show kI true=kI kd from rfl]
 refine enter Tryz.func273 qk I I I ?_
 rotate_left
 all_goals
  exact acI (fin 1 I<|acF (bh 2 I (fun h=>absurd I h) (fun h=>fin 1 I<|acK<|ah I I ⟨I,I,I⟩)))
def iL(kd:Bool)(x y:Nat):aj w0 (sf kd 260 222) [.int (kI kd) ((x:Nat):Int),.int (kI kd) ((y:Nat):Int)] K hs (fun v K' hs'=>K'=K/\hs'=hs/\v=.bool (decide (x<y))):=by
 cases kd
 let kd:Bool:=false
 rewrite [show sf false=sf kd from rfl]
 try rewrite [show kI false=kI kd from rfl]
 refine enter Tryz.func222 qk I I I ?_
 rotate_left
 let kd:Bool:=true
 rewrite [show sf true=sf kd from rfl]
 try rewrite [show kI true=kI kd from rfl]
 refine enter Tryz.func260 qk I I I ?_
 rotate_left
 all_goals
  refine acI (fin 1 I (acF (cl 1 I (Mn kd x) ?_)));rintro v6 K6 hs6 ⟨rfl,rfl,rfl⟩
  by_cases h:x<y
  ·refine bh 8 I (fun h15=>fin 2 I (acK ?_)) (fun h15=>absurd qo h15);exact ah I I ⟨I,I,by rw[decide_eq_true h]⟩
  refine bh 8 I (fun h15=>absurd h15 qo) (fun h15=>fin 2 I (acK ?_));exact ah I I ⟨I,I,by rw[decide_eq_false h]⟩
def Mt(kd:Bool)(g cap:Nat)(pre post:List Value)(xs:List Nat)(a b:Nat)(hab:a<=b)(hb:b<=eq xs)(hc:eq xs<=cap)(hl:eq xs<=1099511627776):
  aj w0 (sf kd 254 216) [.slice (some ⟨g,eq pre,none⟩) (eq xs) cap,.int .i64 (a:Nat),.int .i64 (b:Nat)] K (pt g (kA kd pre xs post) (sf kd 29 3)::hs)
   (fun v K' hs'=>K'=K/\∃ ys,hs'=pt g (kA kd pre ys post) (sf kd 29 3)::hs/\bF a b xs ys/\de a b ys):=by
 cases kd
 let kd:Bool:=false
 rewrite [show sf false=sf kd from rfl]
 try rewrite [show kA false=kA kd from rfl]
 refine enter Tryz.func216 qk I I I ?_
 rotate_left
 let kd:Bool:=true
 rewrite [show sf true=sf kd from rfl]
 try rewrite [show kA true=kA kd from rfl]
 refine enter Tryz.func254 qk I I I ?_
 rotate_left
 all_goals
  refine acI (ar 1 I (aC (x:=((a+1:Nat):Int)) qo)<|fin 1 I (th<|bk ?_))
  refine loop (σ:=Nat×List Nat) (fun s=>[(0,.slice (some ⟨g,eq pre,none⟩) (eq xs) cap),(1,.int .i64 (a:Nat)),(2,.int .i64 (b:Nat)),(6,.int .i64 s.1)]) (fun _=>K) (fun s=>pt g (kA kd pre s.2 post) (sf kd 29 3)::hs)
   (fun s=>a+1<=s.1/\(s.1<=b\/s.1=a+1)/\bF a b xs s.2/\de a s.1 s.2) (fun s=>b-s.1) (a+1,xs) ⟨aac _,.inr rfl,bF.refl _ _ _,de.zero _ _⟩ ⟨rfl,rfl,rfl,rfl,trivial⟩ rfl rfl ?_
  rintro ⟨i,ys⟩ ⟨hi1,hi2,hP,hS⟩;dsimp only at *;refine sq (acI (ai 2 I fun b12 h12=>fin 0 I (th (ax h12 I (fun e2=>?_) (fun e2=>?_)))))
  ·have hib:i<b:=qo
   refine sk<|th (sq<|bk (acI (fin 2 I<|th (bk ?_))))
   refine loop (σ:=Nat×List Nat) (fun s=>[(0,.slice (some ⟨g,eq pre,none⟩) (eq xs) cap),(1,.int .i64 (a:Nat)),(2,.int .i64 (b:Nat)),(6,.int .i64 (i:Nat)),(7,.int .i64 s.1)]) (fun _=>K) (fun s=>pt g (kA kd pre s.2 post) (sf kd 29 3)::hs)
    (fun s=>a<=s.1/\s.1<=i/\bF a b xs s.2/\i8 a i s.1 s.2) (fun s=>s.1) (i,ys) ⟨qo,aac _,hP,i8.start hS⟩ ⟨rfl,rfl,rfl,rfl,rfl,trivial⟩ rfl rfl ?_
   rintro ⟨j,zs⟩ ⟨hj1,hj2,hQ,hV⟩;dsimp only at *;have hzl:eq zs=eq xs:=hQ.len;refine sq (sq (bG [pt g (kA kd pre zs post) (sf kd 29 3)] 15 [0,2,4,6,8,10,12,14,16,18,20,22,24,27,28] Nm qk qk (dN qk 2 (a<j) I Nm (fun h3=>?_) (fun h3=>?_))))
   ·refine bt qk 3 j I I qo ?_;simp only[bf,aaf];refine bS qk 0 0 I I (bI qo) (bA qk 2 I (v':=.int .i64 (j-1:Nat)) (by rw[show ((j:Nat):Int)-1=((j-1:Nat):Int) from qo];exact aC qo) (bt qk 0 (j-1) I I qo ?_));simp only[bf,aaf];refine bS qk 0 0 I I (bI qo) (aJ qk 0 I (cl 0 I (iL kd (zs.getD j 0) (zs.getD (j-1) 0)) ?_));rintro v29 K29 hs29 ⟨rfl,rfl,rfl⟩;refine ba Nm I ?_
    by_cases hlt:zs.getD j 0<zs.getD (j-1) 0
    ·rw[decide_eq_true hlt];refine aM qk 1 I (th (cU I ?_));have hgj:(kA kd pre zs post)[eq pre+j]?=some (.int (kI kd) ((zs.getD j 0:Nat):Int)):=bI qo;have hgj1:(kA kd pre zs post)[eq pre+(j-1)]?=some (.int (kI kd) ((zs.getD (j-1) 0:Nat):Int)):=bI qo;have hgj2:(kA kd pre (zs.set j (zs.getD (j-1) 0)) post)[eq pre+(j-1)]?=some (.int (kI kd) (((zs.set j (zs.getD (j-1) 0)).getD (j-1) 0:Nat):Int)):=bI (by rw[aaw];omega);refine sk (th (sq (bk (bG [pt g (kA kd pre zs post) (sf kd 29 3)] 15 [0,2,4,6,8,10,12,14,16,18,20,22,24,26,28,31,32,35] Nm qk qk (bA qk 4 I (v':=.int .i64 (j-1:Nat)) (by rw[show ((j:Nat):Int)-1=((j-1:Nat):Int) from qo];exact aC qo) (bA qk 2 I (v':=.int .i64 (j-1:Nat)) (by rw[show ((j:Nat):Int)-1=((j-1:Nat):Int) from qo];exact aC qo) (bt qk 0 (j-1) I I qo ?_)))))))
     simp only[bf,aaf];refine bP qk 0 0 I qk I hgj1 (bt qk 2 j I I qo ?_);simp only[bf,aaf];refine bP qk 0 0 I qk I hgj (bt qk 0 j I I qo ?_);simp only[bf,aaf];refine aJ qk 0 I (stp 0 0 I I hgj I (ci (.inl qk) (bt qk 0 (j-1) I I qo ?_)));simp only[bf,aaf];refine aJ qk 0 I ?_;refine WL.hs (pt g (kA kd pre (zs.set j (zs.getD (j-1) 0)) post) (sf kd 29 3)::hs) (congrArg (fun z=>pt g z (sf kd 29 3)::hs) (dZ qo)) (stp 0 0 I I hgj2 I (ci (.inl qk) (aM qk 0 I (acG (ar 1 I (v':=.int .i64 (j-1:Nat)) (by rw[show ((j:Nat):Int)-1=((j-1:Nat):Int) from qo];exact aC qo) (fin 1 I ?_))))));exact bw (x:=(j,zs)) (j-1,swp j (j-1) zs) ⟨I,I,I,I,I,trivial⟩ I (congrArg (fun z=>pt g z (sf kd 29 3)::hs) (dZ (by rw[aaw];omega))) ⟨qo,qo,hQ.trans (bF.swp ⟨qo,qo⟩ ⟨qo,qo⟩ qo),hV.swap h3 hj2 qo hlt⟩ aH
    rw[decide_eq_false hlt];have hdone:de a (i+1) zs:=hV.stop h3 qo;exact aM qk 1 I (th (bY I (ex (xt (xt (xb (acG (ar 1 I (aC (x:=((i+1:Nat):Int)) qo) (fin 1 I (bw (x:=(i,ys)) (i+1,zs) sb I I ⟨qo,.inl qo,hQ,hdone⟩ aH))))))))))
   obtain rfl:j=a:=qo
   have hdone:de j (i+1) zs:=hV.done;exact aJ qk 10 I (WL.pures 1 I (ba Nm I (aM qk 1 I (th (bY I (ex (xt (xt (xb (acG (ar 1 I (aC (x:=((i+1:Nat):Int)) qo) (fin 1 I (bw (x:=(i,ys)) (i+1,zs) sb I I ⟨qo,.inl qo,hQ,hdone⟩ aH)))))))))))))
  refine ex (xt (xt (xb (dA I ⟨I,ys,I,hP,?_⟩))));intro p q h1 h2 h3;exact hS p q h1 h2 qo
end
section
attribute [local irreducible] Code.wp wpList Calls
def vO(kd:Bool)(g cap s:Nat)(pre post:List Value)(xs:List Nat)(a b:Nat)(n:Nat)(ha:a<eq xs)(hb:b<eq xs)(hc:eq xs<=cap)(hl:eq xs<=1099511627776)(hn:n<=1000):
  aj w0 (sf kd 275 274) [.slice (some ⟨g,eq pre,none⟩) (eq xs) cap,.int .i64 (a:Nat),.int .i64 (b:Nat),Nr s] K (pt s #[.int .i64 (n:Nat)] 3::pt g (kA kd pre xs post) (sf kd 29 3)::hs)
   (fun v K' hs'=>K'=K/\∃ x y m:Nat,hs'=pt s #[.int .i64 (m:Nat)] 3::pt g (kA kd pre xs post) (sf kd 29 3)::hs/\v=.tuple #[.int .i64 (x:Nat),.int .i64 (y:Nat)]/\(x=a/\y=b\/x=b/\y=a)/\n<=m/\m<=n+1):=by
 cases kd
 let kd:Bool:=false
 rewrite [show sf false=sf kd from rfl]
 try rewrite [show kA false=kA kd from rfl]
 refine enter Tryz.func274 qk I I I ?_
 rotate_left
 let kd:Bool:=true
 rewrite [show sf true=sf kd from rfl]
 try rewrite [show kA true=kA kd from rfl]
 refine enter Tryz.func275 qk I I I ?_
 rotate_left
 all_goals
  refine acI (fin 2 I (th (sq (sq (bG [pt g (kA kd pre xs post) (sf kd 29 3)] 9 [0,2,4,6,8,10,12,14,17] Nm qk qk (bt qk 2 b I I qo ?_))))));simp only[bf,aaf];refine bS qk 0 0 I I (bI hb) (bt qk 2 a I I qo ?_);simp only[bf,aaf];refine bS qk 0 0 I I (bI ha) (aJ qk 0 I (cl 0 I (iL kd (xs.getD b 0) (xs.getD a 0)) ?_));rintro v18 K18 hs18 ⟨rfl,rfl,rfl⟩;refine ba Nm I ?_
  by_cases hlt:xs.getD b 0<xs.getD a 0
  ·rw[decide_eq_true hlt];exact aM qk 0 I (th (cU I (acI (a9 2 0 I I I (ar 0 I (aC (x:=((n+1:Nat):Int)) qo) (stp 1 0 I I I I (fin 0 I (acF (fin 4 I (acK (rT (bM I I I ⟨I,b,a,n+1,I,I,.inr ⟨I,I⟩,qo,aac _⟩))))))))))))
  rw[decide_eq_false hlt];exact aM qk 0 I (th (bY I (sk (acF (fin 4 I (acK (bM I I I ⟨I,a,b,n,I,I,.inl ⟨I,I⟩,aac _,aau _⟩)))))))
def Do(kd:Bool)(g cap s:Nat)(pre post:List Value)(xs:List Nat)(a b c lo hi:Nat)(n:Nat)(ha:lo<=a/\a<hi)(hb:lo<=b/\b<hi)(hcc:lo<=c/\c<hi)(hh:hi<=eq xs)(hc:eq xs<=cap)(hl:eq xs<=1099511627776)(hn:n<=900):
  aj w0 (sf kd 272 267) [.slice (some ⟨g,eq pre,none⟩) (eq xs) cap,.int .i64 (a:Nat),.int .i64 (b:Nat),.int .i64 (c:Nat),Nr s] K (pt s #[.int .i64 (n:Nat)] 3::pt g (kA kd pre xs post) (sf kd 29 3)::hs)
   (fun v K' hs'=>K'=K/\∃ x m:Nat,hs'=pt s #[.int .i64 (m:Nat)] 3::pt g (kA kd pre xs post) (sf kd 29 3)::hs/\v=.int .i64 (x:Nat)/\(lo<=x/\x<hi)/\n<=m/\m<=n+3):=by
 cases kd
 let kd:Bool:=false
 rewrite [show sf false=sf kd from rfl]
 try rewrite [show kA false=kA kd from rfl]
 refine enter Tryz.func267 qk I I I ?_
 rotate_left
 let kd:Bool:=true
 rewrite [show sf true=sf kd from rfl]
 try rewrite [show kA true=kA kd from rfl]
 refine enter Tryz.func272 qk I I I ?_
 rotate_left
 all_goals
  refine acI (fin 1 I (acF (cl 4 I (vO kd g cap s pre post xs a b n qo qo hc hl qo) ?_)));rintro v16 K16 hs16 ⟨rfl,x1,y1,m1,rfl,rfl,h1,h2,h3⟩;refine fin 5 I (acF (cl 4 I (vO kd g cap s pre post xs y1 c m1 qo qo hc hl qo) ?_));rintro v24 K24 hs24 ⟨rfl,x2,y2,m2,rfl,rfl,h4,h5,h6⟩;refine fin 5 I (acF (cl 4 I (vO kd g cap s pre post xs x1 x2 m2 qo qo hc hl qo) ?_));rintro v32 K32 hs32 ⟨rfl,x3,y3,m3,rfl,rfl,h7,h8,h9⟩;exact fin 5 I (acF (fin 2 I (acK (ah I I ⟨I,y3,m3,I,I,qo,qo,qo⟩))))
def vQ(kd:Bool)(g cap s:Nat)(pre post:List Value)(xs:List Nat)(a lo hi:Nat)(n:Nat)(ha:lo+1<=a/\a+1<hi)(hh:hi<=eq xs)(hc:eq xs<=cap)(hl:eq xs<=1099511627776)(hn:n<=900):
  aj w0 (sf kd 271 266) [.slice (some ⟨g,eq pre,none⟩) (eq xs) cap,.int .i64 (a:Nat),Nr s] K (pt s #[.int .i64 (n:Nat)] 3::pt g (kA kd pre xs post) (sf kd 29 3)::hs)
   (fun v K' hs'=>K'=K/\∃ x m:Nat,hs'=pt s #[.int .i64 (m:Nat)] 3::pt g (kA kd pre xs post) (sf kd 29 3)::hs/\v=.int .i64 (x:Nat)/\(lo<=x/\x<hi)/\n<=m/\m<=n+3):=by
 cases kd
 let kd:Bool:=false
 rewrite [show sf false=sf kd from rfl]
 try rewrite [show kA false=kA kd from rfl]
 refine enter Tryz.func266 qk I I I ?_
 rotate_left
 let kd:Bool:=true
 rewrite [show sf true=sf kd from rfl]
 try rewrite [show kA true=kA kd from rfl]
 refine enter Tryz.func271 qk I I I ?_
 rotate_left
 all_goals
  refine acI (fin 1 I (acF (ar 2 I (v':=.int .i64 (a-1:Nat)) (by rw[show ((a:Nat):Int)-1=((a-1:Nat):Int) from qo];exact aC qo) (ar 2 I (aC (x:=((a+1:Nat):Int)) qo) (cl 1 I (Do kd g cap s pre post xs (a-1) a (a+1) lo hi n qo qo qo hh hc hl hn) ?_)))));rintro v14 K14 hs14 ⟨rfl,x,m,rfl,rfl,h1,h2,h3⟩;exact fin 1 I (acK (ah I I ⟨I,x,m,I,I,h1,h2,h3⟩))
end
section
attribute [local irreducible] Code.wp wpList Calls
def kR(n m:Nat)(h:n<9223372036854775808):Value.int .i64 (IntKind.i64.wrap (((n:Nat):Int).tdiv ((m:Nat):Int)))=.int .i64 (n / m:Nat):=by
 have h2:((n:Nat):Int).tdiv ((m:Nat):Int)=((n / m:Nat):Int):=by rw[Int.ofNat_tdiv]
 rw[h2];have h3:n / m<=n:=Nat.div_le_self n m;generalize n / m=z at h3 ⊢;exact aC qo
def Mi(kd:Bool)(g cap:Nat)(pre post:List Value)(xs:List Nat)(a b:Nat)(hab:a+8<=b)(hb:b<=eq xs)(hc:eq xs<=cap)(hl:eq xs<=1099511627776):
  aj w0 (sf kd 257 219) [.slice (some ⟨g,eq pre,none⟩) (eq xs) cap,.int .i64 (a:Nat),.int .i64 (b:Nat)] K (pt g (kA kd pre xs post) (sf kd 29 3)::hs)
   (fun v K' hs'=>K'=K/\hs'=pt g (kA kd pre xs post) (sf kd 29 3)::hs/\∃ x h:Nat,v=.tuple #[.int .i64 (x:Nat),.int .i64 (h:Nat)]/\(a<=x/\x<b)/\h<=2):=by
 cases kd
 let kd:Bool:=false
 rewrite [show sf false=sf kd from rfl]
 try rewrite [show kA false=kA kd from rfl]
 refine enter Tryz.func219 qk I I I ?_
 rotate_left
 let kd:Bool:=true
 rewrite [show sf true=sf kd from rfl]
 try rewrite [show kA true=kA kd from rfl]
 refine enter Tryz.func257 qk I I I ?_
 rotate_left
 all_goals
  refine acI (fin 2 I (acF (ar 2 I (v':=.int .i64 (b-a:Nat)) (by rw[show ((b:Nat):Int)-((a:Nat):Int)=((b-a:Nat):Int) from qo];exact aC qo) (fin 1 I (acF (al 0 (.int .i64 0) I qk fun b9=>fin 0 I (acF ?_)))))));obtain ⟨q,hq⟩:=be ((b-a) / 4);have hq1:4*q<=b-a/\2<=q:=qo
  refine ar 2 I (v':=.int .i64 (q:Nat)) (by rw[hq];exact kR (b-a) 4 qo) (ar 0 I (aC (x:=((q*1:Nat):Int)) qo) (ar 0 I (aC (x:=((a+q*1:Nat):Int)) qo) (fin 1 I (acF (ar 2 I (v':=.int .i64 (q:Nat)) (by rw[hq];exact kR (b-a) 4 qo) (ar 0 I (aC (x:=((q*2:Nat):Int)) qo) (ar 0 I (aC (x:=((a+q*2:Nat):Int)) qo) (fin 1 I (acF (ar 2 I (v':=.int .i64 (q:Nat)) (by rw[hq];exact kR (b-a) 4 qo) (ar 0 I (aC (x:=((q*3:Nat):Int)) qo) (ar 0 I (aC (x:=((a+q*3:Nat):Int)) qo) (fin 1 I (acE (bh 1 I (fun h32=>fin 0 I (th (cU I ?_))) (fun h32=>absurd qo h32))))))))))))))))
  refine jn (σ:=Nat×Nat×Nat×Nat) (fun s=>[(0,.slice (some ⟨g,eq pre,none⟩) (eq xs) cap),(9,Nr b9),(10,.int .i64 s.1),(11,.int .i64 s.2.1),(12,.int .i64 s.2.2.1)])
   (fun s=>pt b9 #[.int .i64 s.2.2.2] 3::pt g (kA kd pre xs post) (sf kd 29 3)::hs) (fun s=>(a<=s.1/\s.1<b)/\(a<=s.2.1/\s.2.1<b)/\(a<=s.2.2.1/\s.2.2.1<b)/\s.2.2.2<=9) ?_ ?_
  ·refine acI (ai 1 I fun b34 h34=>fin 0 I<|th (ax h34 I (fun e4=>?_) (fun e4=>?_)))
   ·refine acI (cl 2 I (vQ kd g cap b9 pre post xs (a+q*1) a b 0 qo hb hc hl qo) ?_);rintro v37 K37 hs37 ⟨rfl,x1,m1,rfl,rfl,h1,h2,h3⟩;refine fin 1 I (acF (cl 2 I (vQ kd g cap b9 pre post xs (a+q*2) a b m1 qo hb hc hl qo) ?_));rintro v40 K40 hs40 ⟨rfl,x2,m2,rfl,rfl,h4,h5,h6⟩;refine fin 1 I (acH (cl 2 I (vQ kd g cap b9 pre post xs (a+q*3) a b m2 qo hb hc hl qo) ?_));rintro v43 K43 hs43 ⟨rfl,x3,m3,rfl,rfl,h7,h8,h9⟩;exact fin 1 I (jx (x1,x2,x3,m3) ⟨h1,h4,h7,aH⟩ sb rfl rfl)
   exact sk (jx (a+q*1,a+q*2,a+q*3,0) ⟨aH,aH,aH,aH⟩ sb rfl rfl)
  rintro ⟨i,j,k,n⟩ ⟨hi,hj,hk,hn⟩;dsimp only at *;refine rg (cl 4 I (Do kd g cap b9 pre post xs i j k a b n hi hj hk hb hc hl qo) ?_);rintro v48 K48 hs48 ⟨rfl,x,m,rfl,rfl,h1,h2,h3⟩;refine fin 1 I (acF (a9 0 0 I I I (fin 0 I (th (bk (acI (ai 0 I fun b52 h52=>fin 1 I (th (ax h52 I (fun e6=>?_) (fun e6=>?_))))))))))
  ·exact acI (fin 3 I<|acK<|rB (WQ.drop<|bM I I I ⟨I,I,x,1,I,h1,Nn⟩))
  refine acI (ai 0 I fun b55 h55=>fin 1 I<|th (ax h55 I (fun e8=>?_) (fun e8=>?_)))
  ·exact acI (fin 3 I<|acK<|rB (WQ.drop<|bM I I I ⟨I,I,x,2,I,h1,Nn⟩))
  exact acI (fin 3 I<|acK<|rB (WQ.drop<|bM I I I ⟨I,I,x,0,I,h1,Nn⟩))
end
section
attribute [local irreducible] Code.wp wpList Calls
def Lx(kd:Bool)(g cap:Nat)(pre post:List Value)(xs:List Nat)(a b:Nat)(hab:a<b)(hb:b<=eq xs)(hc:eq xs<=cap)(hl:eq xs<=1099511627776):
  aj w0 (sf kd 258 220) [.slice (some ⟨g,eq pre,none⟩) (eq xs) cap,.int .i64 (a:Nat),.int .i64 (b:Nat)] K (pt g (kA kd pre xs post) (sf kd 29 3)::hs)
   (fun v K' hs'=>K'=K/\∃ ys,hs'=pt g (kA kd pre ys post) (sf kd 29 3)::hs/\bF a b xs ys):=by
 cases kd
 let kd:Bool:=false
 rewrite [show sf false=sf kd from rfl]
 try rewrite [show kA false=kA kd from rfl]
 refine enter Tryz.func220 qk I I I ?_
 rotate_left
 let kd:Bool:=true
 rewrite [show sf true=sf kd from rfl]
 try rewrite [show kA true=kA kd from rfl]
 refine enter Tryz.func258 qk I I I ?_
 rotate_left
 all_goals
  refine acI (fin 2 I (acF (ar 1 I (v':=.int .i64 (b-1:Nat)) (by rw[show ((b:Nat):Int)-1=((b-1:Nat):Int) from qo];exact aC qo) (fin 1 I (th (bk ?_))))))
  refine loop (σ:=Nat×Nat×List Nat) (fun s=>[(0,.slice (some ⟨g,eq pre,none⟩) (eq xs) cap),(6,.int .i64 s.1),(7,.int .i64 s.2.1)]) (fun _=>K) (fun s=>pt g (kA kd pre s.2.2 post) (sf kd 29 3)::hs)
   (fun s=>a<=s.1/\s.1<=b/\s.2.1<b/\bF a b xs s.2.2) (fun s=>b-s.1) (a,b-1,xs) ⟨aac _,aH,aH,bF.refl _ _ _⟩ ⟨rfl,rfl,rfl,trivial⟩ rfl rfl ?_
  rintro ⟨i,j,ys⟩ ⟨hi1,hi2,hj,hP⟩;dsimp only at *;have hyl:eq ys=eq xs:=hP.len;refine sq (acI (ai 2 I fun b13 h13=>fin 0 I (th (ax h13 I (fun e2=>?_) (fun e2=>?_)))))
  ·have hij:i<j:=qo
   have hgi:(kA kd pre ys post)[eq pre+i]?=some (.int (kI kd) ((ys.getD i 0:Nat):Int)):=bI qo;have hgj:(kA kd pre ys post)[eq pre+j]?=some (.int (kI kd) ((ys.getD j 0:Nat):Int)):=bI qo;have hgj2:(kA kd pre (ys.set i (ys.getD j 0)) post)[eq pre+j]?=some (.int (kI kd) (((ys.set i (ys.getD j 0)).getD j 0:Nat):Int)):=bI (by rw[aaw];omega);refine sk (th (bk (sq (bG [pt g (kA kd pre ys post) (sf kd 29 3)] 13 [0,2,4,6,8,10,12,14,16,18,20,22,24,27,28,31] Nm qk qk (bt qk 6 j I I qo ?_)))));simp only[bf,aaf];refine bP qk 0 0 I qk I hgj (bt qk 2 i I I qo ?_);simp only[bf,aaf];refine bP qk 0 0 I qk I hgi (bt qk 0 i I I qo ?_);simp only[bf,aaf];refine aJ qk 0 I (stp 0 0 I I hgi I (ci (.inl qk) (bt qk 0 j I I qo ?_)))
   simp only[bf,aaf];refine aJ qk 0 I ?_;refine WL.hs (pt g (kA kd pre (ys.set i (ys.getD j 0)) post) (sf kd 29 3)::hs) (congrArg (fun z=>pt g z (sf kd 29 3)::hs) (dZ qo)) (stp 0 0 I I hgj2 I (ci (.inl qk) (aM qk 0 I (acF (ar 1 I (aC (x:=((i+1:Nat):Int)) qo) (fin 1 I (acH (ar 1 I (v':=.int .i64 (j-1:Nat)) (by rw[show ((j:Nat):Int)-1=((j-1:Nat):Int) from qo];exact aC qo) (fin 1 I (bl ?_))))))))));exact bw (x:=(i,j,ys)) (i+1,j-1,swp i j ys) ⟨I,I,I,trivial⟩ I (congrArg (fun z=>pt g z (sf kd 29 3)::hs) (dZ (by rw[aaw];omega))) ⟨aH,aH,aH,hP.trans (bF.swp ⟨qo,qo⟩ ⟨qo,qo⟩ qo)⟩ aH
  exact ex<|xt (xt<|xb (dA I ⟨I,ys,I,hP⟩))
end
section
def gS(f lo hi:Nat)(ex:Nat->Prop)(xs:List Nat):Prop:=∀ i c,lo<=i->¬ex i->(c=2*i+1\/c=2*i+2)->c<hi->xs.getD (f+c) 0<=xs.getD (f+i) 0
def jO(f lo hi r:Nat)(xs:List Nat):Prop:=
 gS f lo hi (fun i=>i=r) xs/\∀ p c,lo<=p->(r=2*p+1\/r=2*p+2)->(c=2*r+1\/c=2*r+2)->c<hi->xs.getD (f+c) 0<=xs.getD (f+p) 0
def jO.start{f lo hi:Nat}{xs:List Nat}(h:gS f (lo+1) hi (fun _=>False) xs):jO f lo hi lo xs:=
 ⟨fun i c h1 h2 h3 h4=>h i c qo Nm h3 h4,fun p c h1 h2=>by omega⟩
def jO.leaf{f lo hi r:Nat}{xs:List Nat}(h:jO f lo hi r xs)(hr:hi<=2*r+1):gS f lo hi (fun _=>False) xs:=fun i c h1 _ h3 h4=>by
 by_cases e:i=r
 ·omega
 exact h.1 i c h1 e h3 h4
def jO.stop{f lo hi r k:Nat}{xs:List Nat}(h:jO f lo hi r xs)(hk:∀ c,(c=2*r+1\/c=2*r+2)->c<hi->xs.getD (f+c) 0<=xs.getD (f+k) 0)(hle:xs.getD (f+k) 0<=xs.getD (f+r) 0):gS f lo hi (fun _=>False) xs:=fun i c h1 _ h3 h4=>by
 by_cases e:i=r
 ·subst e;exact aas (hk c h3 h4) hle
 exact h.1 i c h1 e h3 h4
def jO.sink{f lo hi r k:Nat}{xs:List Nat}(h:jO f lo hi r xs)(hlo:lo<=r)(hk0:k=2*r+1\/k=2*r+2)(hkh:k<hi)(hl:f+hi<=eq xs)(hk:∀ c,(c=2*r+1\/c=2*r+2)->c<hi->xs.getD (f+c) 0<=xs.getD (f+k) 0)(hlt:xs.getD (f+r) 0<xs.getD (f+k) 0):jO f lo hi k (swp (f+r) (f+k) xs):=by
 have hg:∀ z,(swp (f+r) (f+k) xs).getD (f+z) 0=if z=k then xs.getD (f+r) 0 else if z=r then xs.getD (f+k) 0 else xs.getD (f+z) 0:=by
  intro z;rw[jg qo qo]
  simp
 constructor
 ·intro i c h1 h2 h3 h4;rw[hg,hg];rw[aaa h2]
  by_cases e2:i=r
  ·grind
  rw[aaa e2]
  by_cases e1:c=k
  ·omega
  rw[aaa e1]
  by_cases e3:c=r
  ·rw[aab e3];exact h.2 i k h1 qo hk0 hkh
  rw[aaa e3];exact h.1 i c h1 e2 h3 h4
 intro p c h1 h2 h3 h4;have hp:p=r:=qo
 subst hp;rw[hg,hg,aaa qo,aaa qo,aaa qo,aab rfl];exact h.1 k c qo qo h3 h4
end
section
attribute [local irreducible] Code.wp wpList Calls
def CM(kd:Bool)(g cap:Nat)(pre post:List Value)(xs:List Nat)(lo hi f:Nat)(hb:f+hi<=eq xs)(hc:eq xs<=cap)(hl:eq xs<=1099511627776)(hlo:lo<=hi)(hp:gS f (lo+1) hi (fun _=>False) xs):
  aj w0 (sf kd 270 263) [.slice (some ⟨g,eq pre,none⟩) (eq xs) cap,.int .i64 (lo:Nat),.int .i64 (hi:Nat),.int .i64 (f:Nat)] K (pt g (kA kd pre xs post) (sf kd 29 3)::hs)
   (fun v K' hs'=>K'=K/\∃ ys,hs'=pt g (kA kd pre ys post) (sf kd 29 3)::hs/\bF (f+lo) (f+hi) xs ys/\gS f lo hi (fun _=>False) ys):=by
 cases kd
 let kd:Bool:=false
 rewrite [show sf false=sf kd from rfl]
 try rewrite [show kA false=kA kd from rfl]
 refine enter Tryz.func263 qk I I I ?_
 rotate_left
 let kd:Bool:=true
 rewrite [show sf true=sf kd from rfl]
 try rewrite [show kA true=kA kd from rfl]
 refine enter Tryz.func270 qk I I I ?_
 rotate_left
 all_goals
  refine acI (fin 2 I<|th (bk ?_))
  refine loop (σ:=Nat×List Nat) (fun s=>[(0,.slice (some ⟨g,eq pre,none⟩) (eq xs) cap),(2,.int .i64 (hi:Nat)),(3,.int .i64 (f:Nat)),(8,.int .i64 s.1)]) (fun _=>K) (fun s=>pt g (kA kd pre s.2 post) (sf kd 29 3)::hs)
   (fun s=>lo<=s.1/\s.1<=hi/\bF (f+lo) (f+hi) xs s.2/\jO f lo hi s.1 s.2) (fun s=>hi-s.1) (lo,xs) ⟨aac _,hlo,bF.refl _ _ _,jO.start hp⟩ ⟨rfl,rfl,rfl,rfl,trivial⟩ rfl rfl ?_
  rintro ⟨r,ys⟩ ⟨hr1,hr2,hP,hS⟩;dsimp only at *;have hyl:eq ys=eq xs:=hP.len;refine bk (acI (ar 1 I (aC (x:=((2*r:Nat):Int)) qo) (ar 0 I (aC (x:=((2*r+1:Nat):Int)) qo) (fin 1 I (acE (ai 2 I fun b16 h16=>fin 0 I (th (ax h16 I (fun e2=>?_) (fun e2=>?_)))))))))
  ·exact ex<|xt (xn I<|xt (xb<|dA I ⟨I,ys,I,hP,hS.leaf qo⟩))
  have hch:2*r+1<hi:=qo
  refine sk<|th ?_
  refine jn (σ:=Nat) (fun k=>[(0,.slice (some ⟨g,eq pre,none⟩) (eq xs) cap),(2,.int .i64 (hi:Nat)),(3,.int .i64 (f:Nat)),(8,.int .i64 (r:Nat)),(9,.int .i64 (k:Nat))]) (fun _=>pt g (kA kd pre ys post) (sf kd 29 3)::hs)
   (fun k=>(k=2*r+1\/k=2*r+2)/\k<hi/\∀ c,(c=2*r+1\/c=2*r+2)->c<hi->ys.getD (f+c) 0<=ys.getD (f+k) 0) ?_ ?_
  ·refine sq (bG [pt g (kA kd pre ys post) (sf kd 29 3)] 20 [0,2,4,6,8,10,12,14,16,18,20,22,24,26,28,30,32,34,37,38] Nm qk qk (bA qk 1 I (aC (x:=((2*r+1+1:Nat):Int)) qo) (dN qk 1 (2*r+1+1<hi) I (by simp;omega) (fun h3=>?_) (fun h3=>?_))))
   ·refine bA qk 4 I (aC (x:=((f+(2*r+1):Nat):Int)) qo) (bt qk 0 (f+(2*r+1)) I I qo ?_);simp only[bf,aaf];refine bS qk 0 0 I I (bI qo) (bA qk 3 I (aC (x:=((f+(2*r+1):Nat):Int)) qo) (bA qk 0 I (aC (x:=((f+(2*r+1)+1:Nat):Int)) qo) (bt qk 0 (f+(2*r+1)+1) I I qo ?_)));simp only[bf,aaf];refine bS qk 0 0 I I (bI qo) (aJ qk 0 I (cl 0 I (iL kd (ys.getD (f+(2*r+1)) 0) (ys.getD (f+(2*r+1)+1) 0)) ?_));rintro v35 K35 hs35 ⟨rfl,rfl,rfl⟩;refine ba Nm I ?_
    by_cases hlt:ys.getD (f+(2*r+1)) 0<ys.getD (f+(2*r+1)+1) 0
    ·rw[decide_eq_true hlt];refine aM qk 1 I (th (cU I (rg (ar 1 I (aC (x:=((2*r+1+1:Nat):Int)) qo) (fin 1 I (jx (2*r+1+1) ⟨.inr I,h3,fun c h4 h5=>?_⟩ sb I I))))));rcases h4 with rfl|rfl
     ·exact abz hlt
     exact aac _
    rw[decide_eq_false hlt];refine aM qk 1 I (th (bY I (sk (jx (2*r+1) ⟨.inl I,hch,fun c h4 h5=>?_⟩ sb I I))));rcases h4 with rfl|rfl
    ·exact aac _
    exact abg hlt
   refine aJ qk 14 I (WL.pures 1 I (ba Nm I (aM qk 1 I (th (bY I (sk (jx (2*r+1) ⟨.inl I,hch,fun c h4 h5=>?_⟩ sb I I)))))));have:c=2*r+1:=qo
   rw[this];exact aac _
  rintro k ⟨hk1,hk2,hk3⟩;have hrl:f+r<eq ys:=qo
  have hkl:f+k<eq ys:=qo
  have hgr:(kA kd pre ys post)[eq pre+(f+r)]?=some (.int (kI kd) ((ys.getD (f+r) 0:Nat):Int)):=bI hrl;have hgk:(kA kd pre ys post)[eq pre+(f+k)]?=some (.int (kI kd) ((ys.getD (f+k) 0:Nat):Int)):=bI hkl;have hgk2:(kA kd pre (ys.set (f+r) (ys.getD (f+k) 0)) post)[eq pre+(f+k)]?=some (.int (kI kd) (((ys.set (f+r) (ys.getD (f+k) 0)).getD (f+k) 0:Nat):Int)):=bI (by rw[aaw];exact hkl);refine sq (sq (bG [pt g (kA kd pre ys post) (sf kd 29 3)] 14 [0,2,4,6,8,10,12,14,16,18,20,22,25,26] Nm qk qk (bA qk 3 I (aC (x:=((f+r:Nat):Int)) qo) (bt qk 0 (f+r) I I qo ?_))));simp only[bf,aaf];refine bS qk 0 0 I I hgr (bA qk 3 I (aC (x:=((f+k:Nat):Int)) qo) (bt qk 0 (f+k) I I qo ?_));simp only[bf,aaf];refine bS qk 0 0 I I hgk (aJ qk 0 I (cl 0 I (iL kd (ys.getD (f+r) 0) (ys.getD (f+k) 0)) ?_))
  rintro v51 K51 hs51 ⟨rfl,rfl,rfl⟩;refine ba Nm I ?_
  by_cases hlt:ys.getD (f+r) 0<ys.getD (f+k) 0
  ·rw[decide_eq_true hlt];refine aM qk 1 I (th (bY I (sk (th (sq (bG [pt g (kA kd pre ys post) (sf kd 29 3)] 21 [0,2,4,6,8,10,12,14,16,18,20,22,24,26,28,30,32,34,36,38,40,43,44,47] Nm qk qk (bA qk 3 I (aC (x:=((f+r:Nat):Int)) qo) (bA qk 3 I (aC (x:=((f+k:Nat):Int)) qo) (bA qk 3 I (aC (x:=((f+k:Nat):Int)) qo) (bt qk 0 (f+k) I I qo ?_))))))))));simp only[bf,aaf];refine bP qk 0 0 I qk I hgk (bA qk 3 I (aC (x:=((f+r:Nat):Int)) qo) (bt qk 0 (f+r) I I qo ?_));simp only[bf,aaf];refine bP qk 0 0 I qk I hgr (bt qk 0 (f+r) I I qo ?_);simp only[bf,aaf];refine aJ qk 0 I (stp 0 0 I I hgr I (ci (.inl qk) (bt qk 0 (f+k) I I qo ?_)))
   simp only[bf,aaf];refine aJ qk 0 I ?_;refine WL.hs (pt g (kA kd pre (ys.set (f+r) (ys.getD (f+k) 0)) post) (sf kd 29 3)::hs) (congrArg (fun z=>pt g z (sf kd 29 3)::hs) (dZ hrl)) (stp 0 0 I I hgk2 I (ci (.inl qk) (aM qk 0 I (acH (fin 2 I (bl ?_))))));exact bw (x:=(r,ys)) (k,swp (f+r) (f+k) ys) ⟨I,I,I,I,trivial⟩ I (congrArg (fun z=>pt g z (sf kd 29 3)::hs) (dZ (by rw[aaw];exact hkl))) ⟨aH,aH,hP.trans (bF.swp ⟨qo,qo⟩ ⟨qo,qo⟩ qo),hS.sink hr1 hk1 hk2 qo hk3 hlt⟩ aH
  rw[decide_eq_false hlt];exact aM qk 1 I (th (cU I (rt (rT (rB (rT (rB (kQ I ⟨I,ys,I,hP,hS.stop hk3 qo⟩))))))))
end
section
theorem gS.max{f n:Nat}{xs:List Nat}(h:gS f 0 n (fun _=>False) xs):∀ c,c<n->xs.getD (f+c) 0<=xs.getD (f+0) 0
 | 0,_=>aac _
 | c+1,hc=>by
  have hp:c / 2<c+1:=qo
  have h1:=h (c / 2) (c+1) (aad _) Nm qo hc;have h2:=gS.max h (c / 2) qo;exact aas h1 h2
def gS.none{f lo hi:Nat}{xs:List Nat}(h:hi<=2*lo+1):gS f lo hi (fun _=>False) xs:=fun i c h1 _ h3 h4=>by omega
theorem Kn{a b:Nat}(xs:List Nat)(hab:a<=b):xs=xs.take a++((xs.drop a).take (b-a)++xs.drop b):=by
 have h1:xs.drop b=(xs.drop a).drop (b-a):=by rw[aaR];congr 1;omega
 grind [List.take_append_drop]
def bF.seg{a b:Nat}{xs ys:List Nat}(h:bF a b xs ys)(hab:a<=b):((ys.drop a).take (b-a)).Perm ((xs.drop a).take (b-a)):=by
 have e1:ys.take a=xs.take a:=by
  apply ab0
  intro i
  by_cases hi:i<a
  ·rw[aba hi,aba hi,h.out i (.inl hi)]
  grind
 have e2:ys.drop b=xs.drop b:=by
  apply ab0
  intro i;rw[abb,abb,h.out (b+i) (.inr qo)]
 have hp:=h.perm
 grind [Kn,List.perm_append_right_iff,List.perm_append_left_iff]
def bF.mem{a b:Nat}{xs ys:List Nat}(h:bF a b xs ys)(hb:b<=eq xs){p:Nat}(h1:a<=p)(h2:p<b):∃ q,a<=q/\q<b/\ys.getD p 0=xs.getD q 0:=by
 have hs:=h.seg qo;have hyl:=h.len
 have hm:ys.getD p 0∈(ys.drop a).take (b-a):=by
  rw[abJ];refine ⟨p-a,?_⟩
  grind
 obtain ⟨i,hi⟩:=abJ.1 (hs.mem_iff.1 hm);have hil:=(aax.1 hi).1;simp only[aam,aak] at hil;rw[aba qo,abb] at hi;exact ⟨a+i,qo,qo,by simp_all⟩
def jW(f n hi:Nat)(xs:List Nat):Prop:=gS f 0 n (fun _=>False) xs/\∀ p q,n<=q->q<hi->p<q->xs.getD (f+p) 0<=xs.getD (f+q) 0
def jW.swap{f i hi:Nat}{xs:List Nat}(h:jW f (i+1) hi xs)(hh:i<hi)(hl:f+hi<=eq xs):gS f (0+1) i (fun _=>False) (swp f (f+i) xs):=fun j c h1 h2 h3 h4=>by
 rw[jg qo qo,jg qo qo,aaa qo,aaa qo,aaa qo,aaa qo];exact h.1 j c (aad _) Nm h3 qo
def jW.step{f i hi:Nat}{xs zs:List Nat}(h:jW f (i+1) hi xs)(hh:i<hi)(hl:f+hi<=eq xs)(hP:bF (f+0) (f+i) (swp f (f+i) xs) zs)(hz:gS f 0 i (fun _=>False) zs):jW f i hi zs:=by
 refine ⟨hz,fun p q h1 h2 h3=>?_⟩;have hsl:=ly f (f+i) xs
 have hz1:∀ z,i<=z->z<hi->zs.getD (f+z) 0=(swp f (f+i) xs).getD (f+z) 0:=fun z g1 g2=>by
  rw[aaG,hP.out (f+z) (.inr qo),aaG]
 have hs:∀ z,z<hi->(swp f (f+i) xs).getD (f+z) 0=if z=i then xs.getD f 0 else if z=0 then xs.getD (f+i) 0 else xs.getD (f+z) 0:=fun z g=>by
  rw[jg qo qo]
  simp
 have hlow:∀ z,z<i->∃ y,y<=i/\zs.getD (f+z) 0=xs.getD (f+y) 0:=fun z g=>by
  obtain ⟨w,w1,w2,w3⟩:=hP.mem qo (p:=f+z) qo qo;rw[w3,show w=f+(w-f) from qo,hs (w-f) qo]
  grind
 have hmax:∀ y,y<=i->xs.getD (f+y) 0<=xs.getD f 0:=fun y g=>h.1.max y qo;have hbig:∀ y q,y<=i->i<q->q<hi->xs.getD (f+y) 0<=xs.getD (f+q) 0:=fun y q g1 g2 g3=>h.2 y q qo g3 qo;rw[hz1 q h1 h2,hs q h2]
 by_cases e:q=i
 ·grind
 rw[aaa e,aaa qo]
 by_cases e1:p<i
 ·obtain ⟨y,g1,g2⟩:=hlow p e1;rw[g2];exact hbig y q g1 qo h2
 rw[hz1 p qo qo,hs p qo]
 by_cases e2:p=i
 ·rw[aab e2];exact hbig 0 q (aad _) qo h2
 rw[aaa e2,aaa qo];exact h.2 p q qo h2 h3
def jW.start{f hi:Nat}{xs:List Nat}(h:gS f 0 hi (fun _=>False) xs):jW f hi hi xs:=⟨h,fun p q h1 h2=>by omega⟩
def jW.done{a b:Nat}{xs:List Nat}(h:jW a 0 (b-a) xs):de a b xs:=fun i j h1 h2 h3=>by
 have:=h.2 (i-a) (j-a) (aad _) qo qo
 grind
end
section
attribute [local irreducible] Code.wp wpList Calls
def LH(kd:Bool)(g cap:Nat)(pre post:List Value)(xs:List Nat)(a b:Nat)(hab:a<b)(hb:b<=eq xs)(hc:eq xs<=cap)(hl:eq xs<=1099511627776):
  aj w0 (sf kd 255 217) [.slice (some ⟨g,eq pre,none⟩) (eq xs) cap,.int .i64 (a:Nat),.int .i64 (b:Nat)] K (pt g (kA kd pre xs post) (sf kd 29 3)::hs)
   (fun v K' hs'=>K'=K/\∃ ys,hs'=pt g (kA kd pre ys post) (sf kd 29 3)::hs/\bF a b xs ys/\de a b ys):=by
 cases kd
 let kd:Bool:=false
 rewrite [show sf false=sf kd from rfl]
 try rewrite [show kA false=kA kd from rfl]
 rotate_left
 let kd:Bool:=true
 rewrite [show sf true=sf kd from rfl]
 try rewrite [show kA true=kA kd from rfl]
 rotate_left
 all_goals
  obtain ⟨hi,hhi⟩:=be (b-a)
 refine enter Tryz.func217 qk I I I ?_
 rotate_left
 refine enter Tryz.func255 qk I I I ?_
 rotate_left
 all_goals
  refine acI (fin 2 I (acF (fin 1 I (acF (ar 2 I (v':=.int .i64 (hi:Nat)) (by rw[show ((b:Nat):Int)-((a:Nat):Int)=((hi:Nat):Int) from qo];exact aC qo) (fin 1 I (acE (ar 1 I (v':=.int .i64 (hi-1:Nat)) (by rw[show ((hi:Nat):Int)-1=((hi-1:Nat):Int) from qo];exact aC qo) (ar 0 I (v':=.int .i64 ((((hi-1) / 2+1:Nat):Int)-1)) (by rw[show ((((hi-1) / 2+1:Nat):Int)-1)=(((hi-1) / 2:Nat):Int) from qo];exact kR (hi-1) 2 qo) (fin 1 I (th (bk ?_))))))))))))
  refine loop (σ:=Nat×List Nat) (fun s=>[(0,.slice (some ⟨g,eq pre,none⟩) (eq xs) cap),(6,.int .i64 (a:Nat)),(7,.int .i64 0),(8,.int .i64 (hi:Nat)),(9,.int .i64 (((s.1:Nat):Int)-1))]) (fun _=>K) (fun s=>pt g (kA kd pre s.2 post) (sf kd 29 3)::hs)
   (fun s=>s.1<=hi/\bF a b xs s.2/\gS a s.1 hi (fun _=>False) s.2) (fun s=>s.1) ((hi-1) / 2+1,xs) ⟨aH,bF.refl _ _ _,gS.none qo⟩ ⟨rfl,rfl,rfl,rfl,rfl,trivial⟩ rfl rfl ?_
  rintro ⟨n,ys⟩ ⟨hn,hP,hH⟩;dsimp only at *;have hyl:eq ys=eq xs:=hP.len;refine sq (acI (ai 1 I fun b19 h19=>fin 0 I (th (ax h19 I (fun e2=>?_) (fun e2=>?_)))))
  ·obtain ⟨k,rfl⟩:∃ k,n=k+1:=⟨n-1,qo⟩;rw[show ((k+1:Nat):Int)-1=((k:Nat):Int) from qo];refine sk (th (sq (bk (rg ?_))));have hs1:=CM kd (w0:=w0) (K:=K) (hs:=hs) g cap pre post ys k hi a qo qo qo qo hH;rw[hyl] at hs1;refine cl 4 I hs1 ?_;rintro v26 K26 hs26 ⟨rfl,zs,rfl,hQ,hH2⟩;exact fin 0 I (acG (ar 1 I (aC qo) (fin 1 I (bw (x:=(k+1,ys)) (k,zs) sb I I ⟨aH,hP.trans (hQ.wide qo qo),hH2⟩ aH))))
  obtain rfl:n=0:=qo
  refine ex<|xt (xt<|xb (acF<|ar 1 I (aC qo) (fin 1 I<|th (bk ?_))))
  refine loop (σ:=Nat×List Nat) (fun s=>[(0,.slice (some ⟨g,eq pre,none⟩) (eq xs) cap),(6,.int .i64 (a:Nat)),(7,.int .i64 0),(10,.int .i64 (((s.1:Nat):Int)-1))]) (fun _=>K) (fun s=>pt g (kA kd pre s.2 post) (sf kd 29 3)::hs)
   (fun s=>s.1<=hi/\bF a b xs s.2/\jW a s.1 hi s.2) (fun s=>s.1) (hi,ys) ⟨aac _,hP,jW.start hH⟩ ⟨rfl,rfl,rfl,rfl,trivial⟩ rfl rfl ?_
  rintro ⟨n,zs⟩ ⟨hn2,hQ,hI⟩;dsimp only at *;have hzl:eq zs=eq xs:=hQ.len;refine sq (acI (ai 1 I fun b30 h30=>fin 0 I (th (ax h30 I (fun e4=>?_) (fun e4=>?_)))))
  ·obtain ⟨k,rfl⟩:∃ k,n=k+1:=⟨n-1,qo⟩;rw[show ((k+1:Nat):Int)-1=((k:Nat):Int) from qo];have hg0:(kA kd pre zs post)[eq pre+a]?=some (.int (kI kd) ((zs.getD a 0:Nat):Int)):=bI qo;have hgk:(kA kd pre zs post)[eq pre+(a+k)]?=some (.int (kI kd) ((zs.getD (a+k) 0:Nat):Int)):=bI qo;have hgk2:(kA kd pre (zs.set a (zs.getD (a+k) 0)) post)[eq pre+(a+k)]?=some (.int (kI kd) (((zs.set a (zs.getD (a+k) 0)).getD (a+k) 0:Nat):Int)):=bI (by rw[aaw];omega);refine sk (th (sq (bk (sq (bG [pt g (kA kd pre zs post) (sf kd 29 3)] 17 [0,2,4,6,8,10,12,14,16,18,20,22,24,26,28,30,32,35,36,39] Nm qk qk (bA qk 5 I (aC (x:=((a+k:Nat):Int)) qo) (bA qk 3 I (aC (x:=((a+k:Nat):Int)) qo) (bt qk 0 (a+k) I I qo ?_))))))));simp only[bf,aaf]
   refine bP qk 0 0 I qk I hgk (bt qk 2 a I I qo ?_);simp only[bf,aaf];refine bP qk 0 0 I qk I hg0 (bt qk 0 a I I qo ?_);simp only[bf,aaf];refine aJ qk 0 I (stp 0 0 I I hg0 I (ci (.inl qk) (bt qk 0 (a+k) I I qo ?_)));simp only[bf,aaf];refine aJ qk 0 I ?_;refine WL.hs (pt g (kA kd pre (zs.set a (zs.getD (a+k) 0)) post) (sf kd 29 3)::hs) (congrArg (fun z=>pt g z (sf kd 29 3)::hs) (dZ qo)) (stp 0 0 I I hgk2 I ?_);refine WL.hs (pt g (kA kd pre (swp a (a+k) zs) post) (sf kd 29 3)::hs) (congrArg (fun z=>pt g z (sf kd 29 3)::hs) (dZ (by rw[aaw];omega))) (ci (.inl qk) (aM qk 0 rfl (acH ?_)));have hs1:=CM kd (w0:=w0) (K:=K) (hs:=hs) g cap pre post (swp a (a+k) zs) 0 k a (by rw[ly];omega) (by rw[ly];omega) (by rw[ly];omega) (aad _) (hI.swap qo qo)
   rw[ly,hzl] at hs1;refine cl 4 I hs1 ?_;rintro v55 K55 hs55 ⟨rfl,us,rfl,hU,hH2⟩;exact fin 0 I (acG (ar 1 I (aC qo) (fin 1 I (bw (x:=(k+1,zs)) (k,us) sb I I ⟨aH,(hQ.trans (bF.swp ⟨qo,qo⟩ ⟨qo,qo⟩ qo)).trans (hU.wide qo qo),hI.step qo qo hU hH2⟩ aH))))
  obtain rfl:n=0:=qo
  refine ex (xt (xt (xb ?_)));subst hhi;exact dA I ⟨I,zs,I,hQ,hI.done⟩
end
section
structure eF (P Q:Nat->Nat->Prop) (a b i j:Nat) (xs:List Nat):Prop where
 i1:a+1<=i
 ij:i<=j+1
 jb:j+1<=b
 lo:∀ p,a+1<=p->p<i->P (xs.getD p 0) (xs.getD a 0)
 hi:∀ p,j<p->p<b->Q (xs.getD p 0) (xs.getD a 0)
def eF.start(P Q:Nat->Nat->Prop){a b:Nat}{xs:List Nat}(h:a<b):eF P Q a b (a+1) (b-1) xs:=
 ⟨aac _,qo,qo,fun p h1 h2=>by omega,fun p h1 h2=>by omega⟩
theorem eF.up{P:Nat->Nat->Prop}{a b i j:Nat}{xs:List Nat}(h:eF P Q a b i j xs)(hij:i<=j)(hp:P (xs.getD i 0) (xs.getD a 0)):eF P Q a b (i+1) j xs:=
 ⟨by have:=h.i1;omega,qo,h.jb,fun p h1 h2=>by
  by_cases e:p=i
  ·rw[e];exact hp
  exact h.lo p h1 qo,h.hi⟩
def eF.down{P:Nat->Nat->Prop}{a b i j:Nat}{xs:List Nat}(h:eF P Q a b i j xs)(hij:i<=j)(hq:Q (xs.getD j 0) (xs.getD a 0)):eF P Q a b i (j-1) xs:=
 ⟨h.i1,qo,by have:=h.jb;omega,h.lo,fun p h1 h2=>by
  by_cases e:p=j
  ·rw[e];exact hq
  exact h.hi p qo h2⟩
def eF.swap{P:Nat->Nat->Prop}{a b i j:Nat}{xs:List Nat}(h:eF P Q a b i j xs)(hij:i<j)(hl:b<=eq xs)(hp:P (xs.getD j 0) (xs.getD a 0))(hq:Q (xs.getD i 0) (xs.getD a 0)):eF P Q a b (i+1) (j-1) (swp i j xs):=by
 have h1:=h.i1;have h2:=h.jb;have hg:∀ k,(swp i j xs).getD k 0=if k=j then xs.getD i 0 else if k=i then xs.getD j 0 else xs.getD k 0:=jg qo qo;have ha:(swp i j xs).getD a 0=xs.getD a 0:=by grind
 refine ⟨qo,qo,qo,fun p h3 h4=>?_,fun p h3 h4=>?_⟩
 ·rw[ha,hg,aaa qo]
  by_cases e:p=i
  ·rw[aab e];exact hp
  rw[aaa e];exact h.lo p h3 qo
 rw[ha,hg]
 by_cases e:p=j
 ·rw[aab e];exact hq
 rw[aaa e,aaa qo];exact h.hi p qo h4
theorem eF.last{P:Nat->Nat->Prop}{a b j:Nat}{xs:List Nat}(h:eF P Q a b (j+1) j xs)(hl:b<=eq xs):
  (∀ p,a<=p->p<j->P ((swp j a xs).getD p 0) ((swp j a xs).getD j 0))/\∀ p,j<p->p<b->Q ((swp j a xs).getD p 0) ((swp j a xs).getD j 0):=by
 have h1:=h.i1;have h2:=h.jb;have hg:∀ k,(swp j a xs).getD k 0=if k=a then xs.getD j 0 else if k=j then xs.getD a 0 else xs.getD k 0:=jg qo qo
 have hj:(swp j a xs).getD j 0=xs.getD a 0:=by
  simp_all
 refine ⟨fun p h3 h4=>?_,fun p h3 h4=>?_⟩
 ·rw[hj,hg]
  by_cases e:p=a
  ·rw[aab e];exact h.lo j qo qo
  rw[aaa e,aaa qo];exact h.lo p qo qo
 rw[hj,hg,aaa qo,aaa qo];exact h.hi p h3 h4
def de.join{a b m:Nat}{xs:List Nat}(h1:de a m xs)(h2:de (m+1) b xs)(hlo:∀ p,a<=p->p<m->xs.getD p 0<=xs.getD m 0)(hhi:∀ p,m<p->p<b->xs.getD m 0<=xs.getD p 0):de a b xs:=fun i j g1 g2 g3=>by
 by_cases e1:j<m
 ·exact h1 i j g1 g2 e1
 by_cases e2:j=m
 ·subst e2;exact hlo i g1 g2
 by_cases e3:i=m
 ·subst e3;exact hhi j qo g3
 by_cases e4:i<m
 ·grind
 exact h2 i j qo g2 g3
end
end Go.En
