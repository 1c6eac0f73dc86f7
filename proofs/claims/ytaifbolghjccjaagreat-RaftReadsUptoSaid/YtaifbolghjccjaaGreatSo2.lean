/-
  Part 2.
-/
import Derived.Test.YtaifbolghjccjaaGreatRows
import Derived.KernelRfl
import Derived.Test.YtaifbolghjccjaaGreatSo1
set_option linter.defProp false
set_option linter.unusedSectionVars false
set_option linter.unusedSimpArgs false
set_option linter.unusedVariables false
set_option maxRecDepth 4000
namespace Go.En
open Go.Proofs Go.Proofs.YtaifbolghjccjaaGreat
open List renaming length -> eq
variable {w0:World}{K:PH}{hs:Ac}{P:Program}{Q:Nat->Nat->Prop}
section
def td{b e}(h:(br (b,e)).2.2=0):e=0/\∃c:UInt8,b=c::(br (b,e)).2.1/\(br (b,e)).1=c.toNat:=by
 unfold br at h⊢
 grind
def mW{m b e}(h:(aG m (b,e)).2.2=0):e=0/\b=aK (aG m (b,e)).1++(aG m (b,e)).2.1/\(aG m (b,e)).1<=m:=by
 by_cases J:e=0
 ·subst J;exact⟨I,pH h⟩
 simp_all[aG]
def sV{m b e}(h:(bW m (b,e)).2.2=0):e=0/\b=cJ (bW m (b,e)).1++(bW m (b,e)).2.1/\eq (bW m (b,e)).1<=m.toNat:=by
 unfold bW at h⊢;dsimp only at h⊢
 by_cases J:(aG m.toNat (b,e)).2.2=0
 ·obtain⟨O,hb,hm⟩:=mW J;rw[aab J]at h⊢
  by_cases N:eq (aG m.toNat (b,e)).2.1<(aG m.toNat (b,e)).1
  ·rw[aab N]at h;simp at h
  rw[aaa N]
  grind[List.take_append_drop,cJ]
 rw[aaa J]at h;exact absurd h J
def IF(c r):br (c::r,0)=(c.toNat,(r,0)):=rfl
theorem ro{b e}:kB (b,e)=0↔e=0/\b=[]:=by
 show(if e=0/\0<eq b then(23:Int)else e)=0↔_
 grind
structure d8 where
 kind:Int
 S7:Nat
 seq:Nat
 word:Aa
 wt:Int
 deriving DecidableEq
def d8.ok(c:d8):Prop:=(c.kind=1/\c.S7=0/\c.seq=0/\c.word=[]/\c.wt=0)\/((c.kind=2\/c.kind=3)/\eq c.word<=96/\0<=c.wt/\c.wt<=1073741824/\(c.kind=3->c.wt=0))
instance (c:d8):Decidable c.ok:=by unfold d8.ok;infer_instance
def d8.bytes(c:d8):Aa:=
 if c.kind=1 then [1]else if c.kind=2 then 2::(aK c.S7++(aK c.seq++(cJ c.word++aK c.wt.toNat)))else 3::(aK c.S7++(aK c.seq++cJ c.word))
def kW(c:d8):Option (Aa):=if c.ok then some c.bytes else none
def ac:Nat:=18446744073709551615
def ko(b:Aa):d8×Rd:=
 let x:=br (b,0)
 if x.1=1 then(⟨1,0,0,[],0⟩,x.2)
 else if x.1=2\/x.1=3 then
  let s:=aG ac x.2
  let q:=aG ac s.2
  let w:=bW 96 q.2
  if x.1=2 then(let t:=aG 1073741824 w.2;(⟨2,s.1,q.1,w.1,t.1⟩,t.2))else(⟨3,s.1,q.1,w.1,0⟩,w.2)
 else(⟨x.1,0,0,[],0⟩,(x.2.1,if x.2.2=0 then 170 else x.2.2))
def jE(b:Aa):Option d8:=if kB (ko b).2=0 then some (ko b).1 else none
def MV{c b}(h:jE b=some c):kW c=some b/\c.S7<=ac/\c.seq<=ac:=by
 unfold jE at h
 split at h
 ·rename_i J;simp only[aae]at h;unfold ko at h J;dsimp only at h J
  split at h
  ·rename_i Z;rw[aab Z]at J;subst h;obtain⟨X,e2⟩:=ro.1 J;obtain⟨_,c,hb,V⟩:=td X;rw[e2]at hb;rw[Z]at V;have:c=1:=aci.1 (by rw[<-V];rfl);subst this;subst hb;exact⟨I,aad _,aad _⟩
  rename_i Z;rw[aaa Z]at J
  split at h
  ·rename_i h2;rw[aab h2]at J
   split at h
   ·rename_i Y;rw[aab Y]at J;subst h;obtain⟨X,e2⟩:=ro.1 J;obtain⟨f1,ab,ak⟩:=mW X;obtain⟨f2,ad,N⟩:=sV f1;obtain⟨f3,ae,O⟩:=mW f2;obtain⟨f4,ag,U⟩:=mW f3;obtain⟨_,c,hb,V⟩:=td f4;have:c=2:=aci.1 (by rw[<-V,Y];rfl);subst this;refine⟨?_,U,O⟩;have hw:eq (bW 96 (aG ac (aG ac (br (b,0)).2).2).2).1<=96:=N;have ht:(aG 1073741824 (bW 96 (aG ac (aG ac (br (b,0)).2).2).2).2).1<=1073741824:=ak;unfold kW;rw[aab (.inr ⟨.inl rfl,hw,Q8,aC,fun h=>by cases h⟩)];simp only[aae];rw[e2,aaw]at ab;have e:∀(s q:Nat) (w:Aa) (t:Nat),(d8.mk 2 s q w t).bytes=2::(aK s++(aK q++(cJ w++aK t))):=fun s q w t=>by rfl
    grind
   rename_i Y;rw[aaa Y]at J;subst h;obtain⟨X,e2⟩:=ro.1 J;obtain⟨f2,ad,N⟩:=sV X;obtain⟨f3,ae,O⟩:=mW f2;obtain⟨f4,ag,U⟩:=mW f3;obtain⟨_,c,hb,V⟩:=td f4;have aa:=h2.resolve_left Y;have:c=3:=aci.1 (by rw[<-V];exact aa);subst this;refine⟨?_,U,O⟩;have hw:eq (bW 96 (aG ac (aG ac (br (b,0)).2).2).2).1<=96:=N;unfold kW;rw[aab (.inr ⟨.inr rfl,hw,aaD _,Q8,fun _=>rfl⟩)]
   grind[d8.bytes]
  rename_i h2;rw[aaa h2]at J
  grind[ro]
 cases h
theorem ia(m s):(aG m s).1<=m:=by
 grind[aG]
def ec{α:Type}:Option α->Int
 |some _=>0
 |none=>170
def ob(o:Option (Aa)):Aa:=o.getD []
def d8.zero:d8:=⟨0,0,0,[],0⟩
def d8.v(c:d8):Ah:=#[.int .i64 c.kind,.int .u64 (c.S7:Nat),.int .u64 (c.seq:Nat),.string ⟨c.word.toArray⟩,.int .i64 c.wt]
def ng{α}{o:Option α}:ec o=0↔o.isSome=true:=by cases o<;>simp[ec]
def d8.Rg(c:d8)(N:c.S7<=ac)(O:c.seq<=ac)(U:eq c.word<=96)(V:c.wt<=1073741824):eq c.bytes<=200:=by
 have J:ac=18446744073709551615:=rfl
 grind[dI,d8.bytes,cJ]
def confOK(last:Int):Ae->Prop
 |[]=>True
 |v::r=>last<v/\v<7/\confOK v r
instance:∀(last:Int) (l:Ae),Decidable (confOK last l)
 |_,[]=>.isTrue trivial
 |last,v::r=>by
  have:=instDecidableConfOK v r;unfold confOK
  infer_instance
def fy:Ae->Nat
 |[]=>0
 |v::r=>2^v.toNat+fy r
def bG(l:Ae):Option (Aa):=if l≠[]/\confOK (-1) l then some [UInt8.ofNat (fy l)]else none
def iH(n:Nat)(k:Nat):Ae:=((List.range k).filter (fun v=>decide (n/2^v%2=1))).map Int.ofNat
def fB:Aa->Option (Ae)
 |[c]=>if c.toNat=0\/128<=c.toNat then none else some (iH c.toNat 7)
 |_=>none
def AQ(n k):iH n (k+1)=iH n k++if n/2^k%2=1 then [(k:Int)]else []:=by
 unfold iH;rw[List.range_succ,abG,aa1]
 grind
theorem vT(n):∀k,eq (iH n k)<=k
 |0=>by simp[iH]
 |k+1=>by
  rw[AQ,aaj];have:=vT n k
  split<;>simp<;>omega
theorem qR:∀(l:Ae) (last:Int),confOK last l -> -1<=last->last<=6->(eq l:Int)<=6-last
 |[],_,_,_,_=>by simp;omega
 |v::r,last,h,N,O=>by
  obtain⟨U,V,J⟩:=h;have:=qR r v J qo qo;simp only[aas];omega
theorem qQ:∀(l:Ae) (last:Int),confOK last l -> -1<=last->∀v∈l,0<=v/\v<7
 |[],_,_,_=>by simp
 |v::r,last,h,N=>by
  obtain⟨O,U,J⟩:=h;intro u hu;simp only[aaB]at hu;rcases hu with rfl|hu
  ·omega
  exact qQ r v J qo u hu
def mC:Nat->List (Ae)
 |0=>[[]]
 |m+1=>mC m++(mC m).map (fun l=>(6-(m:Int))::l)
theorem tC:∀(m:Nat) (l:Ae) (last:Int),confOK last l->6-(m:Int)<=last->l∈mC m
 |0,[],_,_,_=>by simp[mC]
 |0,v::r,last,h,hm=>by obtain⟨O,J,_⟩:=h;omega
 |m+1,[],last,h,hm=>by
  have:[]∈mC m:=tC m [] 6 trivial qo;simp[mC,this]
 |m+1,v::r,last,h,hm=>by
  obtain⟨O,J,N⟩:=h
  by_cases hv:v=6-(m:Int)
  ·have:=tC m r v N qo
   simp_all[mC]
  have:=tC m (v::r) (v-1) ⟨qo,J,N⟩ qo
  simp_all[mC]
def JI:∀l∈mC 7,fy l<128/\iH (fy l) 7=l/\(l≠[]->0<fy l):=by decide +kernel
def Cj{l}(h:confOK (-1) l):fy l<128/\iH (fy l) 7=l/\(l≠[]->0<fy l):=JI l (tC 7 l (-1) h Q9)
def A1{l b}(h:bG l=some b):fB b=some l:=by
 unfold bG at h
 split at h
 ·rename_i hl;simp only[aae]at h;subst h;obtain⟨O,J,N⟩:=Cj hl.2;have U:=N hl.1;have e:(UInt8.ofNat (fy l)).toNat=fy l:=abX (show fy l<256 by omega);show(if(UInt8.ofNat (fy l)).toNat=0\/128<=(UInt8.ofNat (fy l)).toNat then none else some (iH (UInt8.ofNat (fy l)).toNat 7))=some l;rw[e,aaa qo,J]
 cases h
def Ot(x v)(hv:v<7)(J:x<2^v):Value.int .u8 (IntKind.u8.wrap (BitVec.ofInt 8 ((x:Nat):Int) ||| BitVec.ofInt 8 ((2^v:Nat):Int)).toNat)=.int .u8 (x+2^v:Nat):=by
 have hp:2^v<=2^6:=abO qo qo
 have e:(BitVec.ofInt 8 ((x:Nat):Int) ||| BitVec.ofInt 8 ((2^v:Nat):Int)).toNat=x+2^v:=by
  rw[BitVec.toNat_or,abu,abu,abv,abv,aaU qo,aaU qo,Nat.or_comm];have:=acD J 1
  grind
 rw[e,kJ,aaU qo]
def PQ(v)(hv:v<7):Value.int .u8 (IntKind.u8.wrap (1*2^(min ((v:Nat):Int).toNat IntKind.u8.bits)))=.int .u8 (2^v:Nat):=by
 obtain rfl|rfl|rfl|rfl|rfl|rfl|rfl:v=0\/v=1\/v=2\/v=3\/v=4\/v=5\/v=6:=qo
 all_goals rfl
def PP(x v)(hv:v<7):Value.int .u8 (((x:Nat):Int).fdiv (2^(min ((v:Nat):Int).toNat IntKind.u8.bits)))=.int .u8 (x/2^v:Nat):=by
 have:min ((v:Nat):Int).toNat IntKind.u8.bits=v:=by
  have:IntKind.u8.bits=8:=rfl;omega
 grind
def PJ(x)(J:x<256):Value.int .u8 (IntKind.u8.wrap (BitVec.ofInt 8 ((x:Nat):Int) &&& BitVec.ofInt 8 1).toNat)=.int .u8 (x%2:Nat):=by
 grind[kJ]
theorem sR:∀(l r:Ae) (last:Int),confOK last (l++r)↔confOK last l/\confOK (l.getLastD last) r
 |[],r,last=>by simp[confOK]
 |v::l,r,last=>by
  show(last<v/\v<7/\confOK v (l++r))↔(last<v/\v<7/\confOK v l)/\confOK ((v::l).getLastD last) r;rw[sR l r v]
  grind
theorem A2:∀l r:Ae,fy (l++r)=fy l+fy r
 |[],r=>by simp[fy]
 |v::l,r=>by simp[fy,A2 l r];omega
theorem EM:∀(l:Ae) (last:Int),confOK last l -> -1<=last->fy l+2^(last+1).toNat<=2^(l.getLastD last+1).toNat
 |[],last,_,_=>by simp[fy]
 |v::l,last,h,N=>by
  obtain⟨O,U,J⟩:=h;have:=EM l v J qo;have e:(v::l).getLastD last=l.getLastD v:=by cases l<;>simp[List.getLastD]
  rw[e];have V:2^(last+1).toNat<=2^v.toNat:=abO Q9 qo
  have X:2^(v+1).toNat=2*2^v.toNat:=by
   rw[show(v+1).toNat=v.toNat+1 from qo,ach];omega
  simp only[fy];omega
def iv(l:Ae):Ad:=l.map fun n=>Value.int .i64 n
def ma{l}{j:Nat}(h):(iv l)[j]?=some (.int .i64 l[j]):=by simp[iv,h]
def Kl(l r):iv (l++r)=iv l++iv r:=by simp[iv]
def yQ(l):∀u∈iv l,u.oneCell'=true:=by
 intro u J;obtain⟨b,_,rfl⟩:=aau.1 J
 rfl
def Hr(l:Ae)(i h d):(l.take (i+1)).getLastD d=l[i]:=by
 grind
structure ah where
 idx:Nat
 term:Nat
 kind:Int
 data:Aa
 deriving DecidableEq
def mq(kind:Int)(data:Aa):Prop:=(kind=0/\data=[])\/(kind=1/\(jE data).isSome=true)\/(kind=2/\(fB data).isSome=true)
instance (k:Int) (d:Aa):Decidable (mq k d):=by unfold mq;infer_instance
def ah.ok(e:ah):Prop:=e.idx≠0/\e.term≠0/\mq e.kind e.data
instance (e:ah):Decidable e.ok:=by unfold ah.ok;infer_instance
def ah.bytes(e:ah):Aa:=aK e.idx++(aK e.term++(UInt8.ofNat e.kind.toNat::cJ e.data))
def iJ(e:ah):Option (Aa):=if e.ok then some e.bytes else none
def lC(b:Aa):ah×Rd:=
 let i:=aG ac (b,0)
 let t:=aG ac i.2
 let k:=br t.2
 let d:=bW 512 k.2
 (⟨i.1,t.1,(k.1:Nat),d.1⟩,d.2)
def gD(b:Aa):Option ah:=if kB (lC b).2=0/\(lC b).1.ok then some (lC b).1 else none
theorem IZ{b c}(h:jE b=some c):eq b<=200:=by
 obtain⟨J,U,V⟩:=MV h;unfold kW at J
 split at J
 ·rename_i N;simp only[aae]at J;rw[<-J];rcases N with⟨h,_,_,O,_⟩|⟨_,O,h0,hm,_⟩
  ·rw[d8.bytes,aab h];simp
  exact d8.Rg c U V O hm
 cases J
theorem mY{k d}(h:mq k d):eq d<=200:=by
 rcases h with⟨_,rfl⟩|⟨_,h⟩|⟨_,h⟩
 ·simp
 ·grind[Option.isSome_iff_exists,IZ]
 obtain⟨c,J⟩:=acj.1 h;unfold fB at J
 split at J
 ·simp
 cases J
def tq{k d}(h:mq k d):k=0\/k=1\/k=2:=by
 rcases h with⟨h,_⟩|⟨h,_⟩|⟨h,_⟩
 all_goals omega
def ah.Rg(e:ah)(h:e.ok)(U:e.idx<=ac)(V:e.term<=ac):eq e.bytes<=250:=by
 have J:ac=18446744073709551615:=rfl;have N:=dI (n:=e.idx) qo;have e2:=dI (n:=e.term) qo;have O:=mY h.2.2
 grind[dI,ah.bytes,cJ]
def Hu(e rest)(h:e.ok)(N:e.idx<=ac)(O:e.term<=ac):lC (e.bytes++rest)=(e,(rest,0)):=by
 have V:ac=18446744073709551615:=rfl;have X:=mY h.2.2;obtain⟨k,J⟩:∃k:Nat,e.kind=(k:Nat):=aa5 (by have:=tq h.2.2;omega);have U:k<256:=by have:=tq h.2.2;omega
 have hb:e.bytes++rest=aK e.idx++(aK e.term++(UInt8.ofNat k::(cJ e.data++rest))):=by simp[ah.bytes,J]
 unfold lC;rw[hb];simp only[jQ (m:=ac) _ (show e.idx<2^64 by omega) N,jQ (m:=ac) _ (show e.term<2^64 by omega) O,IF,sU (most:=512) _ (show eq e.data<2^64 by omega) qo];have:(UInt8.ofNat k).toNat=k:=abX qo;rw[this,<-J]
def IW{e b}(N:e.idx<=ac)(O:e.term<=ac)(h:iJ e=some b):gD b=some e:=by
 unfold iJ at h
 split at h
 ·rename_i J;simp only[aae]at h;have:=Hu e [] J N O;rw[aaw,h]at this;unfold gD;rw[this,aab ⟨rfl,J⟩]
 cases h
def IX(b):(lC b).1.idx<=ac/\(lC b).1.term<=ac:=⟨ia _ _,ia _ _⟩
def IG{e b}(h:gD b=some e):iJ e=some b/\e.idx<=ac/\e.term<=ac:=by
 unfold gD at h
 split at h
 ·rename_i hc;obtain⟨N,O⟩:=hc;simp only[aae]at h;have J:=IX b;rw[h]at O J;refine⟨?_,J⟩;obtain⟨U,e2⟩:=ro.1 N;unfold lC at h;have U:(bW 512 (br (aG ac (aG ac (b,0)).2).2).2).2.2=0:=U;have e2:(bW 512 (br (aG ac (aG ac (b,0)).2).2).2).2.1=[]:=e2;dsimp only at h;obtain⟨f1,V,_⟩:=sV U;obtain⟨f2,c,Y,ab⟩:=td f1;obtain⟨X,Z,_⟩:=mW f2;obtain⟨f4,aa,_⟩:=mW X;unfold iJ;rw[aab O];simp only[aae];rw[e2,aaw]at V
  grind[Int.toNat_natCast,UInt8.ofNat_toNat,ah.bytes]
 cases h
def ah.zero:ah:=⟨0,0,0,[]⟩
def ah.v(e:ah)(ao:Ab)(cap:Nat):Ah:=#[.int .u64 (e.idx:Nat),.int .u64 (e.term:Nat),.int .i64 e.kind,.slice ao (eq e.data) cap]
structure bg where
 kind:Int
 Jl:Int
 to:Int
 term:Nat
 idx:Nat
 lt:Nat
 Je:Nat
 Jn:Nat
 Jj:Bool
 Jg:List ah
 off:Int
 whole:Int
 Jq:Ae
 data:Aa
 deriving DecidableEq
inductive dc where
 |idx|lt|Je|Jn|off|whole|Jj|Jg|Jq|data
 deriving DecidableEq
def eR(k:Int):List dc:=
 if k=1 then [.idx,.lt]else if k=2 then [.Jj]else if k=3 then [.idx,.lt,.Je,.Jn,.Jg]else if k=4 then [.Jj,.idx,.Jn]
 else if k=5 then [.idx,.lt,.off,.whole,.Jq,.data]else if k=6 then [.idx,.off]else []
def kY(x:Int):Nat:=(x%18446744073709551616).toNat
def entsOK(J:Nat):Nat->List ah->Prop
 |_,[]=>True
 |i,e::r=>e.ok/\e.idx=(J+i+1)%18446744073709551616/\J<=e.idx/\entsOK J (i+1) r
instance (Td:Nat):∀(i:Nat) (l:List ah),Decidable (entsOK Td i l)
 |_,[]=>.isTrue trivial
 |i,e::r=>by
  have:=instDecidableEntsOK Td (i+1) r;unfold entsOK
  infer_instance
def gZ:List ah->Aa
 |[]=>[]
 |e::r=>cJ e.bytes++gZ r
def dc.S5(m:bg):dc->Prop
 |.idx|.lt|.Je|.Jn|.Jj=>True
 |.off=>0<=m.off/\m.off<=2097152
 |.whole=>0<=m.whole/\m.whole<=2097152
 |.Jg=>entsOK m.idx 0 m.Jg/\eq m.Jg<=8
 |.Jq=>(bG m.Jq).isSome=true
 |.data=>eq m.data<=256/\m.off<=IntKind.i64.wrap (m.whole-eq m.data)
instance (m:bg) (f:dc):Decidable (f.S5 m):=by cases f<;>unfold dc.S5<;>infer_instance
def dc.SA(m:bg):dc->Aa
 |.idx=>aK m.idx
 |.lt=>aK m.lt
 |.Je=>aK m.Je
 |.Jn=>aK m.Jn
 |.Jj=>[if m.Jj then 1 else 0]
 |.off=>aK (kY m.off)
 |.whole=>aK (kY m.whole)
 |.Jg=>aK (eq m.Jg)++gZ m.Jg
 |.Jq=>ob (bG m.Jq)
 |.data=>cJ m.data
def dc.SR(m:bg):dc->bg
 |.idx=>{m with idx:=0}
 |.lt=>{m with lt:=0}
 |.Je=>{m with Je:=0}
 |.Jn=>{m with Jn:=0}
 |.Jj=>{m with Jj:=false}
 |.off=>{m with off:=0}
 |.whole=>{m with whole:=0}
 |.Jg=>{m with Jg:=[]}
 |.Jq=>{m with Jq:=[]}
 |.data=>{m with data:=[]}
def od(c:Int)(s:Rd):Rd:=(s.1,if s.2=0 then c else s.2)
def nf:Nat->Rd->List ah->Rd×List ah
 |0,s,l=>(s,l)
 |n+1,s,l=>nf n (od (ec (gD (bW 512 s).1)) (bW 512 s).2) (l++[(gD (bW 512 s).1).getD ah.zero])
def dc.get(s:Rd)(m:bg):dc->Rd×bg
 |.idx=>((aG ac s).2,{m with idx:=(aG ac s).1})
 |.lt=>((aG ac s).2,{m with lt:=(aG ac s).1})
 |.Je=>((aG ac s).2,{m with Je:=(aG ac s).1})
 |.Jn=>((aG ac s).2,{m with Jn:=(aG ac s).1})
 |.off=>((aG 2097152 s).2,{m with off:=((aG 2097152 s).1:Nat)})
 |.whole=>((aG 2097152 s).2,{m with whole:=((aG 2097152 s).1:Nat)})
 |.Jj=>(if 1<(br s).1 then od 170 (br s).2 else(br s).2,{m with Jj:=decide ((br s).1=1)})
 |.Jg=>((nf (aG 8 s).1 (aG 8 s).2 m.Jg).1,{m with Jg:=(nf (aG 8 s).1 (aG 8 s).2 m.Jg).2})
 |.Jq=>(od (ec (fB [UInt8.ofNat (br s).1])) (br s).2,{m with Jq:=(fB [UInt8.ofNat (br s).1]).getD []})
 |.data=>((bW 256 s).2,{m with data:=(bW 256 s).1})
def lI:List dc->bg->bg
 |[],m=>m
 |f::r,m=>lI r (f.SR m)
def ib(m:bg):List dc->Aa
 |[]=>[]
 |f::r=>f.SA m++ib m r
def qd(m:bg):Prop:=m.idx=0/\m.lt=0/\m.Je=0/\m.Jn=0/\m.Jj=false/\m.off=0/\m.whole=0/\m.Jg=[]/\m.Jq=[]/\m.data=[]
instance (m:bg):Decidable (qd m):=by unfold qd;infer_instance
def pP(n:Int):Prop:=0<=n/\n<7
instance (n:Int):Decidable (pP n):=by unfold pP;infer_instance
def gw(m:bg):Aa:=UInt8.ofNat m.kind.toNat::UInt8.ofNat m.Jl.toNat::UInt8.ofNat m.to.toNat::aK m.term
def bg.pre(m:bg):Prop:=eR m.kind≠[]/\pP m.Jl/\pP m.to/\m.Jl≠m.to/\m.term≠0
instance (m:bg):Decidable m.pre:=by unfold bg.pre;infer_instance
def bg.ok(m:bg):Prop:=m.pre/\(∀f∈eR m.kind,f.S5 m)/\qd (lI (eR m.kind) m)
instance (m:bg):Decidable m.ok:=by unfold bg.ok;infer_instance
def bg.body(m:bg):Aa:=gw m++ib m (eR m.kind)
def enc(m:bg):Option (Aa):=if m.ok then some (pT m.body)else none
def bg.zero:bg:=⟨0,0,0,0,0,0,0,0,false,[],0,0,[],[]⟩
structure bg.bd (m:bg):Prop where
 term:m.term<=ac
 idx:m.idx<=ac
 lt:m.lt<=ac
 Je:m.Je<=ac
 Jn:m.Jn<=ac
 off : -9223372036854775808<=m.off/\m.off<=9223372036854775807
 whole : -9223372036854775808<=m.whole/\m.whole<=9223372036854775807
 Jg:∀e∈m.Jg,e.idx<=ac/\e.term<=ac/\eq e.data<=4194304
 Tk:eq m.Jg<=4194304
 Jq:∀v∈m.Jq,-9223372036854775808<=v/\v<=9223372036854775807
 Un:eq m.Jq<=4194304
 TQ:eq m.data<=4194304
def H2(n):∀k,k<=7->∀v∈iH n k,0<=v/\v<7:=by
 intro k J v hv;unfold iH at hv
 grind
def HT(x):eq ((fB x).getD [])<=7/\∀v∈(fB x).getD [],0<=v/\v<7:=by
 unfold fB
 split
 ·split
  ·simp
  exact⟨vT _ _,H2 _ 7 (aac _)⟩
 simp
end
section
def T:be:={
 kinds:=[(1,.fn),(2,.int .i64),(3,.int .i64),(4,.bool),(5,.int .u8),(6,.int .u8),(9,.str),(10,.str),(11,.str),(12,.int .u64),(15,.ptr),(16,.ptr),(17,.ptr),(21,.int .i32),(22,.slice),(23,.ptr),(24,.ptr),(25,.ptr),(27,.fn),(28,.fn),(29,.int .u64),(30,.slice),(31,.slice),(32,.slice),(37,.int .i64),(38,.fn),(39,.slice),(40,.fn),(41,.fn),(42,.fn),(43,.fn),(44,.fn),(49,.fn),(53,.fn),(54,.fn),(55,.fn),(57,.fn),(58,.fn),(59,.fn),(60,.fn),(63,.slice),(64,.ptr),(65,.fn),(66,.fn),(67,.slice),(68,.slice),(69,.slice),(70,.map),(71,.slice),(76,.fn),(81,.fn),(86,.fn),(87,.fn),(88,.fn),(89,.fn),(91,.fn),(95,.fn),(96,.fn),(97,.fn),(98,.fn),(108,.fn),(109,.fn),(110,.fn),(113,.fn),(115,.fn),(116,.ptr),(117,.ptr),(120,.fn),(121,.fn),(122,.fn),(123,.fn),(124,.map),(127,.slice),(128,.fn),(129,.map),(130,.fn),(131,.fn),(132,.fn),(133,.fn),(134,.slice),(138,.fn),(139,.fn),(141,.fn),(142,.fn),(143,.fn),(145,.fn),(146,.fn),(147,.fn),(148,.fn),(149,.fn),(150,.fn),(151,.fn),(153,.fn),(154,.fn),(155,.fn),(156,.fn),(157,.fn),(158,.fn),(160,.fn),(161,.fn),(162,.fn),(164,.fn),(166,.fn),(167,.fn),(168,.fn),(169,.fn),(170,.fn),(171,.fn),(172,.fn),(173,.fn),(174,.fn),(175,.fn),(176,.fn),(180,.fn),(181,.ptr),(182,.fn),(183,.fn),(184,.fn),(185,.fn),(187,.fn),(188,.ptr),(189,.slice),(190,.slice),(194,.fn),(195,.fn),(198,.fn),(199,.fn),(200,.fn),(201,.fn),(203,.fn),(204,.fn),(205,.fn),(206,.fn),(207,.slice),(208,.fn),(209,.fn),(210,.fn),(211,.fn),(212,.fn),(215,.ptr),(216,.fn),(217,.fn),(218,.fn),(220,.fn),(221,.fn),(222,.fn),(224,.fn),(225,.ptr),(226,.fn),(227,.fn),(228,.ptr),(229,.fn),(230,.fn),(231,.fn),(232,.fn),(233,.fn),(234,.fn),(235,.fn),(236,.fn),(237,.fn),(238,.fn),(239,.fn),(240,.fn),(241,.fn),(242,.fn),(243,.fn),(244,.int .u64),(246,.fn),(247,.fn),(251,.fn),(253,.fn),(254,.fn),(257,.fn),(259,.ptr),(260,.fn),(261,.fn),(262,.fn),(263,.fn),(264,.fn),(265,.fn),(266,.int .u32),(267,.fn),(268,.fn),(269,.fn),(270,.fn),(271,.fn),(272,.fn),(273,.fn),(274,.fn),(275,.fn),(276,.fn),(277,.fn),(278,.fn),(279,.fn),(280,.int .i64),(282,.fn),(283,.fn),(284,.fn),(285,.fn),(286,.fn),(287,.fn),(288,.fn),(289,.fn),(290,.ptr),(291,.ptr),(294,.fn),(295,.fn),(299,.fn),(301,.fn),(303,.fn),(304,.fn),(305,.fn),(306,.fn),(307,.fn),(308,.fn),(309,.fn),(310,.int .u64),(311,.fn),(312,.fn),(313,.fn),(314,.fn),(315,.fn),(316,.ptr),(318,.fn),(319,.fn),(320,.fn),(326,.int .u8),(327,.int .u8),(328,.fn),(329,.ptr),(330,.int .i32),(331,.int .i32)],
 SN:=[(448,0),(449,1),(450,2),(451,3),(512,0),(513,1),(514,2),(515,3),(832,0),(833,1),(896,0),(897,1),(1152,0),(1216,0),(2112,0),(2113,1),(2114,2),(2115,3),(2116,4),(2117,5),(2118,6),(2119,7),(2120,8),(2121,9),(2122,10),(2123,11),(2124,12),(2125,13),(2176,0),(2177,1),(2178,2),(2179,3),(2180,4),(2181,5),(2182,6),(2183,7),(2184,8),(2185,9),(2186,10),(2187,11),(2188,12),(2189,13),(2240,0),(2241,1),(2242,2),(2243,3),(2304,0),(2305,1),(2306,2),(2307,3),(2880,0),(2944,0),(3008,0),(3009,1),(3010,2),(3011,3),(3072,0),(3073,1),(3074,2),(3075,3),(3200,0),(3201,1),(3202,2),(3203,3),(3264,0),(3265,1),(3266,2),(3267,3),(3904,0),(3905,1),(3968,0),(3969,1),(4608,0),(4609,1),(4610,2),(4611,3),(4612,4),(4613,5),(4614,6),(4615,7),(4616,8),(4617,9),(4672,0),(4673,1),(4674,2),(4675,3),(4676,4),(4677,5),(4678,6),(4679,7),(4680,8),(4681,9),(4736,0),(4737,1),(4800,0),(4801,1),(4928,0),(4929,1),(4930,2),(4992,0),(4993,1),(4994,2),(5056,0),(5057,1),(5058,2),(5059,3),(5060,4),(5120,0),(5121,1),(5122,2),(5123,3),(5124,4),(5248,0),(5249,1),(5250,2),(5251,3),(5252,4),(5253,5),(5312,0),(5313,1),(5314,2),(5315,3),(5316,4),(5317,5),(5376,0),(5377,1),(5378,2),(5440,0),(5441,1),(5442,2),(5888,0),(5889,1),(5890,2),(5891,3),(5892,4),(5952,0),(5953,1),(5954,2),(5955,3),(5956,4),(6336,0),(6337,1),(6338,2),(6339,3),(6340,4),(6400,0),(6401,1),(6402,2),(6403,3),(6404,4),(6528,0),(6529,1),(6592,0),(6593,1),(6720,0),(6721,1),(6722,2),(6723,3),(6724,4),(6725,5),(6726,6),(6727,7),(6728,8),(6729,9),(6730,10),(6731,45),(6732,50),(6733,51),(6784,0),(6785,1),(6786,2),(6787,3),(6788,4),(6789,5),(6790,6),(6791,7),(6792,8),(6793,9),(6794,10),(6795,45),(6796,50),(6797,51),(7104,0),(7105,1),(7168,0),(7169,1),(7552,0),(7553,1),(7554,2),(7555,3),(7556,4),(7557,6),(7558,10),(7559,11),(7560,12),(7561,13),(7616,0),(7617,1),(7618,2),(7619,3),(7620,4),(7621,6),(7622,10),(7623,11),(7624,12),(7625,13),(8000,0),(8001,1),(8002,2),(8003,3),(8004,4),(8064,0),(8065,1),(8066,2),(8067,3),(8068,4),(8640,0),(8641,1),(8704,0),(8705,1),(11328,0),(11329,1),(11330,2),(11331,3),(11392,0),(11393,1),(11394,2),(11395,3),(12224,0),(12225,1),(12226,2),(12227,3),(12228,4),(12229,5),(12230,6),(12288,0),(12289,1),(12290,2),(12291,3),(12292,4),(12293,5),(12294,6),(12544,0),(12545,1),(12608,0),(12609,1),(13632,0),(13633,1),(13634,2),(13696,0),(13697,1),(13698,2),(15872,0),(15873,1),(15936,0),(15937,1),(16320,0),(16321,4),(16384,0),(16385,4),(18688,0),(18689,2),(18690,3),(18752,0),(18753,2),(18754,3),(18944,0),(18945,1),(18946,2),(19008,0),(19009,1),(19010,2),(20544,0),(20545,1),(20546,2),(20547,3),(20608,0),(20609,1),(20610,2),(20611,3),(21248,0),(21249,1),(21250,2),(21251,3),(21252,4),(21253,5),(21254,6),(21255,7),(21256,8),(21257,9),(21258,10),(21312,0),(21313,1),(21314,2),(21315,3),(21316,4),(21317,5),(21318,6),(21319,7),(21320,8),(21321,9),(21322,10)],
 So:=[(22,⟨36,17,184,.agg #[.int .i64 0,.int .i64 0,.int .u64 0,.int .i64 0,.int .i64 0,.int .i64 0,.int .u64 0,.int .u64 0,.int .u64 0,.int .u64 0,.int .u64 0,.bool false,.slice none 0 0,.int .i64 0,.int .i64 0,.slice none 0 0,.slice none 0 0]⟩),
  (30,⟨51,4,48,.agg Il⟩),
  (31,⟨3,1,8,.int .i64 0⟩),
  (32,⟨5,1,1,.int .u8 0⟩),
  (39,⟨34,14,160,.agg Ip⟩),
  (63,⟨80,5,56,.agg Iv⟩),
  (67,⟨85,3,24,.agg Ir⟩),
  (68,⟨75,2,16,.agg Im⟩),
  (69,⟨78,3,24,.agg Iw⟩),
  (71,⟨83,6,48,.agg Ix⟩),
  (127,⟨29,1,8,.int .u64 0⟩),
  (134,⟨9,1,16,.string ⟨#[]⟩⟩),
  (189,⟨32,1,24,.slice none 0 0⟩),
  (190,⟨197,2,16,.agg #[.int .u64 0,.int .u64 0]⟩),
  (207,⟨214,3,24,.agg #[.nilFunc,.nilFunc,.nilFunc]⟩)]}
instance hT:a8 Tryz.prog T where
 kinds:=by kernel_rfl
 SN:=by kernel_rfl
 So:=by kernel_rfl
end
section
attribute [local irreducible] Code.wp wpList Calls
def kU{h:PH}{R}(ao c1 bs n)(o:aJ h ao (eq bs) c1 5 1 (bv bs))(hn:n<2^64)(hb:eq bs<2^40):
  ai w0 132 [.slice ao (eq bs) c1,.int .u64 (n:Nat)] K (h::R)
   (fun v K' hs'=>∃Z,hs'=Z::R/\K'=K/\∃N X,v=.slice N (eq (bs++aK n)) X/\aJ Z N (eq (bs++aK n)) X 5 1 (bv (bs++aK n))):=by
 refine cP Tryz.func132 ?_
 refine loop (σ:=Aa×Nat×Ab×Nat×PH) (fun x=>[(0,.slice x.2.2.1 (eq x.1) x.2.2.2.1),(1,.int .u64 (x.2.1:Nat)),(4,.slice none 0 0)]) (fun _=>K) (fun x=>x.2.2.2.2::R)
  (fun x=>aJ x.2.2.2.2 x.2.2.1 (eq x.1) x.2.2.2.1 5 1 (bv x.1)/\x.1++aK x.2.1=bs++aK n/\x.2.1<2^64) (fun x=>x.2.1) (bs,n,ao,c1,h) ⟨o,rfl,hn⟩ sb rfl rfl ?_
 rintro⟨J,m,N,X,Z⟩ ⟨o',O,hm⟩;dsimp only at o' O hm⊢
 have ab:eq J<=eq bs+10:=by
  have h1:=congrArg List.length O;have h2:=dI hn;simp at h1;omega
 refine sq<|acY<|bc 1 I (fun h1=>?_) (fun h1=>?_)
 ·refine au ?_;refine ar 2 I (kJ m) (ar 0 I (v':=.int .u8 (m%128+128:Nat)) (Mq m) (lit 0 #[.int .u8 (m%128+128:Nat)] I Q9 qk fun b=>app 0 1 I I o' (.inr ⟨0,I⟩) (pK b (m%128+128) qo) I Q9 (gE _) Au (by simp[maxLen];omega) fun U c2 h2 V=>au ?_));refine ar 1 I (v':=.int .u64 (m/128:Nat)) (Mr m) (fin 1 I (bl (Bh ?_)));rw[<-kT]at V;have Y:eq (J++[UInt8.ofNat (m%128+128)])=eq J+1:=by simp
  rw[<-Y]at V;have e2:=nQ (n:=m) qo
  exact bn (x:=(J,m,N,X,Z)) (J++[UInt8.ofNat (m%128+128)],m/128,U,c2,h2) ⟨by rw[<-Y];rfl,rfl,rfl,trivial⟩ rfl rfl
   ⟨V,by simp only[aaH,List.singleton_append];rw[<-e2];exact O,aC⟩ aC
 refine fin 0 I (th (bP I (ex (xt (xt (xb (acV ?_)))) )));have aa:m<128:=qo
 refine ar 2 I (kJ m) (lit 0 #[.int .u8 (m%256:Nat)] I Q9 qk fun b=>app 0 1 I I o' (.inr ⟨0,I⟩) (pK b (m%256) qo) I Q9 (gE _) Au (by simp[maxLen];omega) fun U c2 h2 V=>fin 1 rfl (th (Bg (rt ?_))));rw[<-kT]at V;have Y:m%256=m:=qo
 have e2:J++[UInt8.ofNat (m%256)]=bs++aK n:=by rw[Y,<-O,pN aa]
 have e3:eq J+1=eq (bs++aK n):=by rw[<-e2];simp
 rw[e2,e3]at V;exact af I (by rw[<-e3];rfl) ⟨h2,rfl,rfl,U,c2,rfl,V⟩
def Gn{hb:PH}(ao cap b)(hm:In K hs hb)(x:aj hb ao (eq b) cap 1 (bv b))(hl:eq b<2^40):
  ai w0 192 [.slice ao (eq b) cap] K hs (Ap K hs (.int .u32 ((mN b).toNat:Nat))):=by
 refine cP Tryz.func192 ?_
 refine loop (σ:=Nat) (fun j=>[(6,.slice ao (eq b) cap),(7,.int .i64 (eq b:Nat)),(8,.int .i64 (j:Nat)),(3,.int .u32 ((p6 4294967295#32 (b.take j)).toNat:Nat))]) (fun _=>K) (fun _=>hs) (fun j=>j<=eq b) (fun j=>eq b-j)
  0 (aad _) ⟨rfl,rfl,rfl,rfl,trivial⟩ rfl rfl ?_
 intro j hj;refine acY (bc 0 I (fun U=>?_) (fun U=>?_))
 ·have N:j<eq b:=qo
  refine au ?_;refine ej 0 j I I I x (rL N) fun O J=>ld 0 I hm J (au ?_);refine ar 2 I (Jz _) (ar 0 I (EV _ _) (au ?_))
  refine loop (σ:=Nat) (fun i=>[(16,.int .i64 (i:Nat)),(3,.int .u32 ((pR i (p6 4294967295#32 (b.take j) ^^^ BitVec.ofNat 32 b[j].toNat)).toNat:Nat)),(6,.slice ao (eq b) cap),(7,.int .i64 (eq b:Nat)),(8,.int .i64 j)]) (fun _=>K) (fun _=>hs) (fun i=>i<=8) (fun i=>8-i)
   0 (aad _) ⟨rfl,rfl,rfl,rfl,rfl,trivial⟩ rfl rfl ?_
  intro i hi;refine acY (bc 0 I (fun V=>?_) (fun V=>?_))
  ·refine au ?_;refine ar 1 I (Mw _) (ar 1 I (My _) (ar 0 I (N6 _) (ar 0 I (Mx _) (ar 0 I (EV _ _) (au ?_)))));refine ar 0 I (ba qo) (fin 1 I ?_);exact bn (x:=i) (i+1) ⟨I,by rw[AJ];rfl,rfl,rfl,rfl,trivial⟩ rfl rfl qo qo
  obtain rfl:i=8:=qo
  refine au ?_;refine ar 0 I (ba qo) (fin 1 I ?_);exact bn (x:=j) (j+1) ⟨I,I,I,by rw[nF b j N,HV];rfl,trivial⟩ rfl rfl qo qo
 obtain rfl:j=eq b:=qo
 refine au ?_;refine ar 1 I (N5 _) (au ?_);exact af I I ⟨I,I,by rw[aaG];rfl⟩
end
section
attribute [local irreducible] Code.wp wpList Calls
def lJ{hb:PH}(ao cap b)(hm:In K hs hb)(x:aj hb ao (eq b) cap 1 (bv b))(hl:eq b<2^40):
  ai w0 46 [.slice ao (eq b) cap] K hs
   (fun v K' hs'=>K'=K/\∃X J V,hs'=X::hs/\v=.slice J (eq b) V/\aJ X J (eq b) V 5 1 (bv b)):=by
 refine cP Tryz.func46 ?_;refine cb 1 I (fun Y=>?_) (fun Y=>?_)
 ·have O:ao=none:=by simpa using Y
  subst O
  have U:b=[]:=by
   cases b with
   |nil=>rfl
   |cons c r=>obtain⟨a,ha,_⟩:=x.2.2 0 _ (by rfl);cases ha
  subst U;exact fin 0 I (th (dk I (acY (fin 1 I (ac0 (rT (Ev (af I I ⟨I,em,none,0,I,I,aJ.nil _ _⟩))))))))
 refine au ?_;refine lit 0 #[] I Q9 qk fun b5=>app 1 0 I I (aJ.Re (c:=#[]) (n:=0) Q8 At) (Bl hm) x I Q9 (gE _) Au (by simp[maxLen];omega) fun N c7 g7 Z=>au ?_;have e:0+eq b=eq b:=aaO _;rw[e]at Z;exact af I (by rw[e];rfl) ⟨rfl,g7,N,c7,rfl,rfl,Z⟩
def M1{hb:PH}(ao cap b)(hm:In K hs hb)(x:aj hb ao (eq b) cap 1 (bv b))(hl:eq b<2^40):
  ai w0 170 [.slice ao (eq b) cap] K hs
   (Ap K hs (.tuple #[.int .u64 ((fC 0 0 b).1:Nat),.int .i64 ((fC 0 0 b).2.1:Nat),.int .i64 (fC 0 0 b).2.2])):=by
 refine cP Tryz.func170 ?_
 refine loop (σ:=Nat×Nat) (fun s=>[(5,.int .u64 (s.2:Nat)),(8,.slice ao (eq b) cap),(9,.int .i64 (eq b:Nat)),(10,.int .i64 (s.1:Nat))]) (fun _=>K) (fun _=>hs)
  (fun s=>s.1<=eq b/\s.1<=9/\s.2<128^s.1/\fC s.1 s.2 (b.drop s.1)=fC 0 0 b) (fun s=>eq b-s.1) (0,0) ⟨aad _,qo,Q8,rfl⟩ ⟨rfl,rfl,rfl,rfl,trivial⟩ rfl rfl ?_
 rintro⟨i,X⟩ ⟨hi,O,N,J⟩;dsimp only at hi O N J⊢;refine acY (bc 0 I (fun h1=>?_) (fun h1=>?_))
 ·have Z:i<eq b:=qo
  have hd:b.drop i=b[i]::b.drop (i+1):=aaI Z;rw[hd]at J;have hc:=b[i].toNat_lt;generalize aa:b[i]=c at *;have U:c.toNat%128<128:=abR _ Q9;rw[sT]at J;refine au ?_;refine ej 1 i I I I x (by rw[rL Z,aa]) fun ab Y=>ld 0 I hm Y (au ?_);refine bc 1 I (fun h2=>?_) (fun h2=>?_)
  ·refine bc 2 I (fun h3=>?_) (fun h3=>?_)
   ·rw[aab ⟨qo,qo⟩]at J;refine au ?_;exact fF I I I I ⟨I,I,by rw[<-J];rfl⟩
   rw[aaa qo,aaa qo]at J;have V:=wm O N U qo;refine au ?_;refine ar 2 I (CD _) (ar 0 I (bL qo) (ar 1 I (ba qo) (qv 0 I qo (.inl ⟨I,DG _ _ O qo⟩) (ar 0 I (FP _ _ _ N V.1) (au ?_)))));refine bc 1 I (fun h4=>absurd h4 qo) (fun h4=>au ?_);refine bc 1 I (fun h5=>?_) (fun h5=>?_)
   ·refine bc 2 I (fun h6=>?_) (fun h6=>absurd h6 qo);rw[aab ⟨qo,qo⟩]at J;refine au ?_;exact fF I I I I ⟨I,I,by rw[<-J];rfl⟩
   rw[aaa qo]at J;refine au ?_;refine ar 2 I (ba qo) (au ?_);exact fF I I I I ⟨I,I,by rw[<-J];rfl⟩
  rw[aaa qo]at J;have V:=wm O N U qo;refine au ?_;refine ar 2 I (CD _) (ar 0 I (bL qo) (ar 1 I (ba qo) (qv 0 I qo (.inl ⟨I,DG _ _ O qo⟩) (ar 0 I (FP _ _ _ N V.1) (au ?_)))));refine bc 1 I (fun h7=>?_) (fun h7=>?_)
  ·rw[aab qo]at J;refine au ?_;exact ar 0 I (ba qo) (fin 1 I (bn (x:=(i,X)) (i+1,X+c.toNat%128*128^i) sb I I ⟨aC,qo,V.2 qo,J⟩ aC))
  rw[aaa qo]at J;refine au ?_;refine bc 1 I (fun h8=>?_) (fun h8=>?_)
  ·refine bc 2 I (fun h9=>?_) (fun h9=>?_)
   ·rw[aab ⟨qo,qo⟩]at J;refine au ?_;exact fF I I I I ⟨I,I,by rw[<-J];rfl⟩
   rw[aaa qo]at J;refine au ?_;refine ar 2 I (ba qo) (au ?_);exact fF I I I I ⟨I,I,by rw[<-J];rfl⟩
  rw[aaa qo]at J;refine au ?_;refine ar 2 I (ba qo) (au ?_);exact fF I I I I ⟨I,I,by rw[<-J];rfl⟩
 obtain rfl:i=eq b:=qo
 refine au ?_;exact fF I I I I ⟨I,I,by rw[<-J,aa6];rfl⟩
end
section
attribute [local irreducible] Code.wp wpList Calls
def eU(rb:Nat)(hb:PH)(s:Rd)(h:PH):Prop:=∃ao cap,h=pt rb #[.slice ao (eq s.1) cap,.int .i64 s.2] 249/\aj hb ao (eq s.1) cap 1 (bv s.1)
section
variable {w0:World}{K hb h:PH}{R:Ac}{rb:Nat}
def u5(s)(r:eU rb hb s h):ai w0 106 [Rp rb] K (h::R) (fun v N hs'=>N=K/\hs'=h::R/\v=.int .i64 (kB s)):=by
 obtain⟨ao,cap,rfl,x⟩:=r;obtain⟨b,e⟩:=s;refine cP Tryz.func106 ?_;refine bc 0 I (fun J=>?_) (fun J=>?_)
 ·refine au ?_;refine bc 1 I (fun O=>?_) (fun O=>?_)
  ·refine au ?_;exact af I I ⟨I,I,by simp_all[kB]⟩
  refine au ?_;exact af I I ⟨I,I,by simp_all[kB]⟩
 refine au ?_;exact af I I ⟨I,I,by rw[kB,aaa (fun h=>J h.1)];rfl⟩
def uH(s e)(r:eU rb hb s h):ai w0 152 [Rp rb,.int .i64 e] K (h::R)
  (fun v O hs'=>∃N,hs'=N::R/\O=K/\v=.tuple #[]/\eU rb hb (s.1,if s.2=0 then e else s.2) N):=by
 obtain⟨ao,cap,rfl,x⟩:=r;obtain⟨b,e0⟩:=s;refine cP Tryz.func152 ?_;refine bc 0 I (fun J=>?_) (fun J=>?_)
 ·refine au ?_;exact bZ I ⟨_,I,I,I,ao,cap,by rw[aab J];rfl,x⟩
 refine au ?_;exact bZ I ⟨_,I,I,I,ao,cap,by rw[aaa J],x⟩
def rZ(hm:In K R hb)(s)(r:eU rb hb s h):ai w0 108 [Rp rb] K (h::R)
  (fun v K' hs'=>∃Z,hs'=Z::R/\K'=K/\v=.int .u8 ((br s).1:Nat)/\eU rb hb (br s).2 Z):=by
 obtain⟨ao,cap,rfl,x⟩:=r;obtain⟨b,e⟩:=s;refine cP Tryz.func108 ?_;refine bc 0 I (fun J=>?_) (fun J=>?_)
 ·dsimp only at J;refine au ?_;refine bc 1 I (fun V=>?_) (fun V=>?_)
  ·dsimp only at V;have X:b=[]:=aaY qo;subst X;refine au ?_;exact af I I ⟨_,I,I,by simp[br,J],ao,cap,by simp[br,J],by simpa[br,J]using x⟩
  cases b with
  |nil=>exact absurd rfl V
  |cons c r=>
   have hv:(br (c::r,e))=(c.toNat,(r,0)):=by simp[br,J]
   refine au ?_;refine bc 0 I (fun h3=>absurd J h3) (fun h3=>au ?_);refine ej 0 0 I I I x (by rfl) fun aa O=>ld 0 I (Bl hm) O (au ?_);refine sl 0 1 (eq r) I x I Au Au (ys:=bv r) (by simp[aaA,bv]) fun N U Y=>au ?_;rw[hv];exact af I I ⟨_,I,I,I,N,U,by rw[J];rfl,Y⟩
 dsimp only at J;have hv:(br (b,e))=(0,(b,e)):=by simp[br,J]
 refine au ?_;refine bc 0 I (fun h4=>au ?_) (fun h4=>absurd J h4);rw[hv];exact af I I ⟨_,I,I,I,ao,cap,I,x⟩
def ie(hm:In K R hb)(most s)(hl:eq s.1<2^40)(r:eU rb hb s h):ai w0 105 [Rp rb,.int .u64 (most:Nat)] K (h::R)
  (fun v K' hs'=>∃h',hs'=h'::R/\K'=K/\v=.int .u64 ((aG most s).1:Nat)/\eU rb hb (aG most s).2 h'):=by
 obtain⟨ao,cap,rfl,x⟩:=r;obtain⟨b,e⟩:=s;refine cP Tryz.func105 ?_;refine bc 0 I (fun X=>?_) (fun X=>?_)
 ·dsimp only at X;have hv:aG most (b,e)=(0,(b,e)):=by simp[aG,X]
  refine au ?_;rw[hv];exact af I I ⟨_,I,I,I,ao,cap,I,x⟩
 dsimp only at X hl x;have he:e=0:=qo
 subst he;refine au ?_;refine cl 0 I (M1 ao cap b (Bl hm) x hl) ?_;rintro ae ad ab ⟨rfl,rfl,rfl⟩;have aa:=wM b 0 0 qo qo;have J:aG most (b,0)=if(fC 0 0 b).2.2=0 then(if most<(fC 0 0 b).1 then(0,(b,22))else((fC 0 0 b).1,(b.drop (fC 0 0 b).2.1,0)))else(0,(b,(fC 0 0 b).2.2)):=by simp[aG]
 generalize fC 0 0 b=N at *;obtain⟨nn,U,ee⟩:=N;dsimp only at J aa⊢;refine au ?_;refine bc 1 I (fun Y=>?_) (fun Y=>?_)
 ·subst Y;rw[aab rfl]at J;refine bc 3 I (fun h3=>?_) (fun h3=>?_)
  ·rw[aab qo]at J;refine au ?_;refine bc 1 I (fun h4=>au ?_) (fun h4=>absurd Q9 h4);rw[J];exact af I I ⟨_,I,I,I,ao,cap,I,x⟩
  rw[aaa qo]at J;refine au ?_;refine bc 1 I (fun h5=>absurd I h5) (fun h5=>au ?_);refine sl 1 U (eq b-U) I x I Au qo (ys:=bv (b.drop U)) (by simp[aaA,bv]) fun O Z V=>au ?_;rw[J];have e1:eq b-U=eq (b.drop U):=by simp
  rw[e1]at V;exact af I I ⟨_,I,I,I,O,Z,by rw[e1];rfl,V⟩
 rw[aaa Y]at J;refine au ?_;refine bc 1 I (fun h6=>au ?_) (fun h6=>absurd Y h6);rw[J];exact af I I ⟨_,I,I,I,ao,cap,I,x⟩
def p7(hm:In K R hb)(most)(am:most<=9223372036854775807)(s)(hl:eq s.1<2^40)(r:eU rb hb s h):ai w0 151 [Rp rb,.int .i64 most] K (h::R)
  (fun v K' hs'=>∃h' ab,hs'=ab++h'::R/\K'=K/\∃hx O c',ab=[hx]/\v=.slice O (eq (bW most s).1) c'/\aJ hx O (eq (bW most s).1) c' 5 1 (bv (bW most s).1)/\eU rb hb (bW most s).2 h'):=by
 obtain⟨ao,cap,rfl,x⟩:=r;obtain⟨b,e⟩:=s;dsimp only at hl x⊢;refine cP Tryz.func151 ?_;refine ar 3 I (v':=.int .u64 (most.toNat:Nat)) (by grind[bL]) (cl 0 I (ie hm most.toNat (b,e) hl ⟨ao,cap,I,x⟩) ?_);rintro aD ay aq ⟨h',rfl,rfl,rfl,O,Z,rfl,x'⟩;have J:bW most (b,e)=(let x:=aG most.toNat (b,e);if x.2.2=0 then(if eq x.2.1<x.1 then([],(b,20))else(x.2.1.take x.1,(x.2.1.drop x.1,0)))else([],x.2)):=rfl;obtain⟨hn,ak⟩:=pI most.toNat b e;generalize aG most.toNat (b,e)=U at *;obtain⟨N,V,e'⟩:=U;dsimp only at J x' ak hn⊢;refine au ?_;refine bc 0 I (fun h1=>?_) (fun h1=>?_)
 ·subst h1;rw[aab rfl]at J;refine au ?_;refine ar 1 I (bL qo) (bc 0 I (fun h2=>?_) (fun h2=>?_))
  ·rw[aab qo]at J;refine au ?_;refine bc 0 I (fun h3=>fin 0 I (th (dk I (acY (fin 1 I (ac0 (rT (Ev ?_)))))))) (fun h3=>absurd Q9 h3);rw[J];exact af I I ⟨_,[em],I,I,em,none,0,I,I,aJ.nil _ _,ao,cap,I,x⟩
  rw[aaa qo]at J;refine au ?_;refine bc 0 I (fun h4=>absurd I h4) (fun h4=>au ?_);have aA:N<=eq V:=qo
  have e1:eq (V.take N)=N:=by simp;omega
  have e2:eq (V.drop N)=eq V-N:=by simp
  refine sl 1 0 N I x' I Q8 qo (ys:=bv (V.take N)) (by simp[bv]) fun X ae an=>?_;have aa:=fun K hs hm=>lJ (w0:=w0) (K:=K) (hb:=hb) (hs:=hs) X ae (V.take N) hm (Fs an e1.symm rfl) Au;rw[e1]at aa;refine cl 0 I (aa _ _ (Bl hm)) ?_;rintro aE az av ⟨rfl,hx,ad,cx,rfl,rfl,ox⟩;refine au ?_;refine sl 1 N (eq (V.drop N)) I x' I (by rw[e2];simp;omega) qo (ys:=bv (V.drop N)) (by simp[aaA,bv]) fun Y ag ap=>au ?_;rw[J];exact af I I ⟨_,[hx],I,I,hx,ad,cx,I,by rw[e1],by rw[e1];exact ox,Y,ag,I,ap⟩
 rw[aaa h1]at J;refine au ?_;refine bc 0 I (fun h5=>fin 0 I (th (dk I (acY (fin 1 I (ac0 (rT (Ev ?_)))))))) (fun h5=>absurd h1 h5);rw[J];exact af I I ⟨_,[em],I,I,em,none,0,I,I,aJ.nil _ _,O,Z,I,x'⟩
end
def rR{hb:PH}(ao cap b)(hm:In K hs hb)(x:aj hb ao (eq b) cap 1 (bv b))(hl:eq b<2^40):
  ai w0 103 [.slice ao (eq b) cap] K hs
   (fun v V hs'=>V=K/\∃rb U N,hs'=U::N::hs/\v=Rp rb/\eU rb N (b,0) U):=by
 refine cP Tryz.func103 ?_;refine cl 1 I (lJ ao cap b hm x hl) ?_;rintro v4 K4 Y ⟨rfl,Z,J,O,rfl,rfl,ox⟩;refine bd 0 (.agg #[.slice J (eq b) O,.int .i64 0]) I Aq (bx 0 I fun X=>au ?_);exact af I I ⟨I,X,_,Z,I,I,J,O,I,ox.Ni⟩
end
section
attribute [local irreducible] Code.wp wpList Calls
def pE{h hb:PH}{R}(ao X J ao2 c2 x)(o:aJ h ao (eq J) X 5 1 (bv J))(hm:In K R hb)(xs:aj hb ao2 (eq x) c2 1 (bv x))
  (aa:eq J<549755813888) (ab:eq x<549755813888):
  ai w0 193 [.slice ao (eq J) X,.slice ao2 (eq x) c2] K (h::R)
   (fun v K' hs'=>∃h',hs'=h'::R/\K'=K/\∃N V,v=.slice N (eq (J++cJ x)) V/\aJ h' N (eq (J++cJ x)) V 5 1 (bv (J++cJ x))):=by
 have hu:=dI (n:=eq x) qo;refine cP Tryz.func193 ?_;refine ar 3 I (bL qo) (cl 0 I (kU ao X J (eq x) o qo qo) ?_);rintro v9 K9 ad ⟨h',rfl,rfl,N,V,rfl,o'⟩;have e1:eq (J++aK (eq x))+eq x=eq (J++cJ x):=by simp[pz];omega
 refine app 1 0 I I o' (Bl hm) xs I Q9 (gE _) Au (by simp[maxLen];omega) fun O Y Z U=>au ?_;have e2:bv (J++aK (eq x))++bv x=bv (J++cJ x):=by rw[<-kT,aaH];rfl
 rw[e2,e1]at U;exact af I (by rw[e1];rfl) ⟨Z,rfl,rfl,O,Y,rfl,U⟩
def Pc{hb:PH}(ao cap b)(hm:In K hs hb)(x:aj hb ao (eq b) cap 1 (bv b))(hl:eq b<2^40):
  ai w0 134 [.slice ao (eq b) cap] K hs
   (fun v K' hs'=>K'=K/\∃h',hs'=h'::hs/\(2097152<eq b/\v=.tuple #[.slice none 0 0,.int .i64 22] \/
    eq b<=2097152/\∃J X,v=.tuple #[.slice J (eq (pT b)) X,.int .i64 0]/\aJ h' J (eq (pT b)) X 5 1 (bv (pT b)))):=by
 refine cP Tryz.func134 ?_;refine bc 2 I (fun h1=>?_) (fun h1=>?_)
 ·exact fin 0 I<|th (dk I<|acY<|fin 2 I (ac0 (rT<|Ev (bS I I I ⟨I,em,I,.inl ⟨qo,I⟩⟩))))
 refine au ?_;refine cl 1 I (Gn ao cap b hm x hl) ?_;rintro v9 K9 ag ⟨rfl,rfl,rfl⟩;refine fin 1 I (acV (WL.em (cl 1 I (pE none 0 [] ao cap b (aJ.nil _ _) hm x Q8 qo) ?_)));rintro ak ad aa ⟨h',rfl,rfl,J,X,rfl,o'⟩;have ab:=(mN b).isLt;have ae:=pz b;have hu:=dI (n:=eq b) qo;have U:pT b=cJ b++cU (mN b).toNat:=rfl;rw[abl]at o'⊢;generalize (mN b).toNat=s at *;refine ar 1 I (kJ s) (ar 1 I (xQ s 8 Q9) (ar 0 I (kJ _) (ar 1 I (xQ s 16 Q9) (ar 0 I (kJ _) (ar 1 I (xQ s 24 Q9) (ar 0 I (kJ _) (lit 0 #[.int .u8 (s%256:Nat),.int .u8 (s/2^8%256:Nat),.int .u8 (s/2^16%256:Nat),.int .u8 (s/2^24%256:Nat)] I Q9 qk fun O=>?_)))))));have e1:eq (cJ b)+4=eq (pT b):=by rw[U];simp[cU]
 have x4:aj (pt O #[.int .u8 (s%256:Nat),.int .u8 (s/2^8%256:Nat),.int .u8 (s/2^16%256:Nat),.int .u8 (s/2^24%256:Nat)] 5) (some ⟨O,0,none⟩) 4 4 1 (bv (cU s)):=by
  rw[<-Kj];exact(aJ.Re (n:=4) (size:=1) Q8 At).Ni
 refine app 0 1 I I o' (.inr ⟨0,I⟩) x4 I Q9 (gE _) aC As fun N Y Z V=>?_;rw[<-kT,<-U,e1]at V;refine fin 2 I (th (Bg (rt ?_)));exact bS I I I ⟨I,Z,I,.inr ⟨qo,N,Y,by rw[e1],V⟩⟩
end
section
attribute [local irreducible] Code.wp wpList Calls
def pV{h ao n n' cap e size xs ys}(x:aJ h ao n cap e size xs)(J:n=n')(N:xs=ys):aJ h ao n' cap e size ys:=by subst J;subst N;exact x
def nP(b m)(h:m<256):aJ (pt b #[.int .u8 (m:Nat)] 5) (some ⟨b,0,none⟩) 1 1 5 1 (bv [UInt8.ofNat m]):=
 pV (aJ.Re (n:=1) (size:=1) Q8 At) rfl (by simp[bv,rY h])
def mj(k n m):Value.int k (((n:Nat):Int).tmod ((m:Nat):Int))=.int k ((n%m:Nat):Int):=by rfl
def yF(n m)(h:n<2^64):Value.int .u64 (IntKind.u64.wrap (((n:Nat):Int).tdiv ((m:Nat):Int)))=.int .u64 (n/m:Nat):=by
 rw[<-Int.ofNat_tdiv];have:=Nat.div_le_self n m
 grind[bL]
def yR{b n ty c fr xs}(J:c.toList=xs)(N:c.size=n):aj (pt b c ty fr) (some ⟨b,0,none⟩) n n 1 xs:=by
 subst J;refine⟨by simpa using N,aac _,fun j u O=>⟨_,I,?_⟩⟩
 simp_all[bf,co.pt]
def DF:∀(n:Nat) {hs:Ac},n<2^64 ->
  ai w0 150 [.int .u64 n] K hs
   (fun v K' hs'=>∃Z,hs'=Z::hs/\K'=K/\∃J V,v=.slice J (eq (aK n)) V/\aJ Z J (eq (aK n)) V 5 1 (bv (aK n))):=by
 intro n
 induction n using Nat.strongRecOn with
 |ind n ih=>
 intro hs hn;refine enter Tryz.func150 qk I I I (acY (fin 1 I (acU (bc 1 I (fun h1=>?_) (fun h1=>?_)))))
 ·refine fin 0 I (th (dk I (acY (ar 1 I (lr qo) (lit 0 #[.int .u8 (n:Nat)] I Q9 qk fun b8=>fin 1 I (ac0 (rT ?_)))))));rw[pN qo];exact af I I ⟨_,I,I,_,_,I,nP b8 n qo⟩
 refine fin 0 I (th (bP I (sk (acV (ar 1 I (mj .u64 n 128) (ar 0 I (lr qo) (ar 0 I (v':=.int .u8 (n%128+128:Nat)) (by rw[lr qo];rfl) (lit 0 #[.int .u8 (n%128+128:Nat)] rfl Q9 qk fun U=>fin 1 rfl (acV (ar 2 rfl (yF n 128 hn) (cl 0 rfl (ih (n/128) qo qo) ?_)))))))))));rintro ad ab aa ⟨Z,rfl,rfl,J,V,rfl,o'⟩;have hu:=dI (n:=n/128) qo;refine app 0 1 I I (nP U (n%128+128) qo) (.inr ⟨0,I⟩) o'.Ni I Q9 (gE _) aC As fun O X Y N=>fin 1 rfl (th (Bg (rt ?_)));rw[<-kT]at N;have e1:1+eq (aK (n/128))=eq (aK n):=by rw[nQ (n:=n) qo];simp;omega
 have e2:[UInt8.ofNat (n%128+128)]++aK (n/128)=aK n:=by rw[nQ (n:=n) qo];rfl
 rw[e1,e2]at N;exact af I I ⟨Y,I,I,O,X,by rw[e1],N⟩
def Oo{hb:PH}(ao cap x)(hm:In K hs hb)(xs:aj hb ao (eq x) cap 1 (bv x))(hl:eq x<2^40):
  ai w0 81 [.slice ao (eq x) cap] K hs
   (fun v K' hs'=>∃Y,hs'=Y::hs/\K'=K/\∃J U,v=.slice J (eq (cJ x)) U/\aJ Y J (eq (cJ x)) U 5 1 (bv (cJ x))):=by
 refine enter Tryz.func81 qk I I I (acY (fin 1 I (acV (ar 2 I (bL qo) (cl 0 I (DF (eq x) qo) ?_)))));rintro v7 K7 aa ⟨Y,rfl,rfl,J,U,rfl,o'⟩;have hu:=dI (n:=eq x) qo;refine fin 1 I (acV (app 2 0 I I o' (Bl hm) xs I Q9 (gE _) aC As fun O V X N=>fin 1 rfl (ac0 ?_)));rw[<-kT]at N;have Z:=pz x;rw[<-Z]at N;exact af I I ⟨X,I,I,O,V,by rw[Z],N⟩
end
section
attribute [local irreducible] Code.wp wpList Calls
def KU(q:Aa)(i h):eF (q.drop i)=q[i].toNat+256*eF (q.drop (i+1)):=by
 rw[aaI h,eF]
end
section
attribute [local irreducible] Code.wp wpList Calls
def qt(o:Option (Aa))(hs:Ac)(v:Value)(hs':Ac):Prop:=
 ∃h ao c,hs'=h::hs/\v=.tuple #[.slice ao (eq (ob o)) c,.int .i64 (ec o)]/\aJ h ao (eq (ob o)) c 5 1 (bv (ob o))
def mG{o}(h:o=none):qt o hs (.tuple #[.slice none 0 0,.int .i64 170]) (em::hs):=by subst h;exact⟨em,none,0,I,I,aJ.nil _ _⟩
def qj{o}{l h ao c}(e:o=some l)(x:aJ h ao (eq l) c 5 1 (bv l)):qt o hs (.tuple #[.slice ao (eq l) c,.int .i64 0]) (h::hs):=by subst e;exact⟨h,ao,c,I,I,x⟩
def wJ{c}(h:¬c.ok):kW c=none:=aaa h
def tL(s):(br s).1<256:=by
 obtain⟨b,e⟩:=s;unfold br;dsimp only
 split
 ·cases b with
  |nil=>decide
  |cons c r=>exact c.toNat_lt
 omega
def BZ(s):eq (br s).2.1<=eq s.1:=by
 obtain⟨b,e⟩:=s;unfold br
 grind
theorem kS(m s):eq (aG m s).2.1<=eq s.1:=(pI m s.1 s.2).2
def we(m s):eq (bW m s).1<=eq s.1/\eq (bW m s).2.1<=eq s.1:=JX m s.1 s.2
def Ks{b}(h:(br (b,0)).1=2):ko b=(⟨2,(aG ac (br (b,0)).2).1,(aG ac (aG ac (br (b,0)).2).2).1,(bW 96 (aG ac (aG ac (br (b,0)).2).2).2).1,(aG 1073741824 (bW 96 (aG ac (aG ac (br (b,0)).2).2).2).2).1⟩,(aG 1073741824 (bW 96 (aG ac (aG ac (br (b,0)).2).2).2).2).2):=by
 simp_all[ko]
def Kr{b}(h:(br (b,0)).1=3):ko b=(⟨3,(aG ac (br (b,0)).2).1,(aG ac (aG ac (br (b,0)).2).2).1,(bW 96 (aG ac (aG ac (br (b,0)).2).2).2).1,0⟩,(bW 96 (aG ac (aG ac (br (b,0)).2).2).2).2):=by
 simp_all[ko]
def Kt{b}(h:(br (b,0)).1=1):ko b=(⟨1,0,0,[],0⟩,(br (b,0)).2):=by
 unfold ko;dsimp only;rw[aab h]
def Kq{b}(J:¬(br (b,0)).1=1)(N:¬(br (b,0)).1=2)(O:¬(br (b,0)).1=3):ko b=(⟨(br (b,0)).1,0,0,[],0⟩,((br (b,0)).2.1,if(br (b,0)).2.2=0 then 170 else(br (b,0)).2.2)):=by
 simp_all[ko]
def EB{hb:PH}(ao cap b)(hm:In K hs hb)(x:aj hb ao (eq b) cap 1 (bv b))(hl:eq b<2^40):
  ai w0 82 [.slice ao (eq b) cap] K hs (Ap K hs (.tuple #[.agg ((jE b).getD d8.zero).v,.int .i64 (ec (jE b))])):=by
 refine ent Tryz.func82 ?_;refine acY (al 0 (.agg #[.int .i64 0,.int .u64 0,.int .u64 0,.string ⟨#[]⟩,.int .i64 0]) I qk fun Z=>au ?_);refine cl 1 I (rR ao cap b (Bl hm) x hl) ?_;rintro v7 K7 bm ⟨rfl,rb,h,J,rfl,rfl,rd⟩;refine au ?_;refine cl 1 I (rZ (.inr ⟨0,I⟩) (b,0) rd) ?_;rintro v9 K9 bo ⟨h1,rfl,rfl,rfl,N⟩;have V:=tL (b,0);have aD:=BZ (b,0);have a6:=kS ac (br (b,0)).2;have bb:=kS ac (aG ac (br (b,0)).2).2;have bi:=(we 96 (aG ac (aG ac (br (b,0)).2).2).2).2;dsimp only at aD V;refine ar 0 I (ba (x:=(((br (b,0)).1:Nat):Int)) qo) ?_
 skip
 refine bd 0 (.agg (d8.mk ((br (b,0)).1:Nat) 0 0 [] 0).v) I Aq ?_
 skip
 refine al 0 (.agg #[.int .i64 0,.int .u64 0,.int .u64 0,.string ⟨#[]⟩,.int .i64 0]) I qk fun b5=>?_;refine bA 0 0 I I qk I I ?_;refine fin 0 I (th (jn (σ:=d8×Rd×PH) (fun s=>[(2,Rp Z),(4,Rp rb),(5,Rp b5)]) (fun s=>pt b5 s.1.v 93::s.2.2::J::pt Z d8.zero.v 93::hs) (fun s=>(s.1,s.2.1)=ko b/\eU rb J s.2.1 s.2.2) ?_ ?_))
 ·refine au ?_;refine aw 0 I fun a2 ay=>fin 1 I (th (ax ay I (fun e2=>?_) (fun e2=>?_)))
  ·refine sk (bl ?_);exact jx (⟨1,0,0,[],0⟩,(br (b,0)).2,h1) ⟨(Kt (by grind)).symm,N⟩ ⟨I,I,I,trivial⟩ I (congrArg (fun k:Int=>pt b5 (d8.mk k 0 0 [] 0).v 93::h1::J::pt Z d8.zero.v 93::hs) e2)
  refine sq<|acY (aw 0 I fun a3 ad=>fin 1 I<|th (ax ad I (fun e4=>?_) (fun e4=>?_)))
  ·refine sk (th (uZ ad e4 I (acY (cl 1 I (Er 1 I (ie (.inr ⟨1,I⟩) ac _ qo N)) ?_))));rintro aL am ae ⟨h2,rfl,rfl,rfl,O⟩;refine au ?_;refine cl 1 I (Er 1 I (ie (.inr ⟨1,I⟩) ac _ qo O)) ?_;rintro aN an ag ⟨h3,rfl,rfl,rfl,X⟩;refine au ?_;refine cl 1 I (Ed 1 I (p7 (.inr ⟨1,I⟩) 96 qo _ qo X)) ?_;rintro aO ap ak ⟨h4,aE,rfl,rfl,hx,aq,cx,rfl,rfl,ox,Y⟩;refine vq 0 _ I (.inr ⟨0,I⟩) ox.Ni qk (Ji 1 1 I I I I (fin 0 I (th (Bg (acY (au ?_))))));refine aw 0 I fun av U=>fin 0 I (th (ax U I (fun e6=>?_) (fun e6=>?_)))
   ·refine rg (cl 1 I (Er 1 I (ie (.inr ⟨1,I⟩) 1073741824 _ qo Y)) ?_);rintro bq a0 aS ⟨h5,rfl,rfl,rfl,aF⟩;have aV:=ia 1073741824 (bW 96 (aG ac (aG ac (br (b,0)).2).2).2).2;refine ar 0 I (ba qo) (Ji 1 0 I I I I (fin 0 I (bl ?_)));exact jx (⟨2,(aG ac (br (b,0)).2).1,(aG ac (aG ac (br (b,0)).2).2).1,(bW 96 (aG ac (aG ac (br (b,0)).2).2).2).1,(aG 1073741824 (bW 96 (aG ac (aG ac (br (b,0)).2).2).2).2).1⟩,(aG 1073741824 (bW 96 (aG ac (aG ac (br (b,0)).2).2).2).2).2,h5) ⟨(Ks (by grind)).symm,aF⟩ ⟨I,I,I,trivial⟩ I (congrArg (fun k:Int=>pt b5 (d8.mk k (aG ac (br (b,0)).2).1 (aG ac (aG ac (br (b,0)).2).2).1 (bW 96 (aG ac (aG ac (br (b,0)).2).2).2).1 (aG 1073741824 (bW 96 (aG ac (aG ac (br (b,0)).2).2).2).2).1).v 93::h5::J::pt Z d8.zero.v 93::hs) e4)
   refine absurd e4 e6
  refine rg (aw 0 I fun a4 az=>fin 1 I<|th (ax az I (fun e8=>?_) (fun e8=>?_)))
  ·refine acY (cl 1 I (Er 1 I (ie (.inr ⟨1,I⟩) ac _ qo N)) ?_);rintro aL am ae ⟨h2,rfl,rfl,rfl,O⟩;refine au ?_;refine cl 1 I (Er 1 I (ie (.inr ⟨1,I⟩) ac _ qo O)) ?_;rintro aN an ag ⟨h3,rfl,rfl,rfl,X⟩;refine au ?_;refine cl 1 I (Ed 1 I (p7 (.inr ⟨1,I⟩) 96 qo _ qo X)) ?_;rintro aO ap ak ⟨h4,aE,rfl,rfl,hx,aq,cx,rfl,rfl,ox,Y⟩;refine vq 0 _ I (.inr ⟨0,I⟩) ox.Ni qk (Ji 1 1 I I I I (fin 0 I (th (Bg (acY (au ?_))))));refine aw 0 I fun av U=>fin 0 I (th (ax U I (fun aa=>?_) (fun aa=>?_)))
   ·refine absurd aa qo
   refine sk (bl ?_);exact jx (⟨3,(aG ac (br (b,0)).2).1,(aG ac (aG ac (br (b,0)).2).2).1,(bW 96 (aG ac (aG ac (br (b,0)).2).2).2).1,0⟩,(bW 96 (aG ac (aG ac (br (b,0)).2).2).2).2,h4) ⟨(Kr (by grind)).symm,Y⟩ ⟨I,I,I,trivial⟩ I (congrArg (fun k:Int=>pt b5 (d8.mk k (aG ac (br (b,0)).2).1 (aG ac (aG ac (br (b,0)).2).2).1 (bW 96 (aG ac (aG ac (br (b,0)).2).2).2).1 0).v 93::h4::J::pt Z d8.zero.v 93::hs) e8)
  refine rg (cl 1 I (Er 1 I (uH (br (b,0)).2 170 N)) ?_);rintro bp aY aR ⟨h2,rfl,rfl,rfl,O⟩;exact fin 0 I (bl (jx (⟨((br (b,0)).1:Nat),0,0,[],0⟩,((br (b,0)).2.1,if(br (b,0)).2.2=0 then 170 else(br (b,0)).2.2),h2) ⟨(Kq (fun h=>e2 (show((br (b,0)).1:Int)=1 by omega)) (fun h=>e4 (show((br (b,0)).1:Int)=2 by omega)) (fun h=>e8 (show((br (b,0)).1:Int)=3 by omega))).symm,O⟩ sb I I))
 clear rd N;rintro⟨c,s,h⟩ ⟨hc,rd⟩;dsimp only at hc rd⊢;refine sq (acY (cl 1 I (Ck 1 I (u5 s rd)) ?_));rintro bs a1 aT ⟨rfl,rfl,rfl⟩;refine aw 0 I fun a5 aA=>?_;have hg:jE b=if kB s=0 then some c else none:=by rw[jE,<-hc]
 refine fin 0 I<|th (ax aA I (fun ab=>?_) (fun ab=>?_))
 ·refine acY (bd 0 (.agg d8.zero.v) I Aq ?_);refine bA 0 3 I I qk I I ?_;refine fin 1 I (ac0 (rT ?_));exact gk 3 4 I I I I qk ⟨I,I,by rw[hg,aaa ab];rfl⟩
 refine sk (acV (fI 0 0 I I qk ?_));refine bA 0 3 I I qk I I ?_;refine fin 1 I (ac0 ?_);exact gk 3 4 I I I I qk ⟨I,I,by rw[hg,aab qo];rfl⟩
def uv(l:Af):Ad:=l.map fun n=>Value.int .u64 (n:Nat)
def N2{l}{j:Nat}(h):(uv l)[j]?=some (.int .u64 (l[j]:Nat)):=by simp[uv,h]
def us:Af->Aa
 |[]=>[]
 |n::r=>aK n++us r
theorem BG:∀(l r:Af),us (l++r)=us l++us r
 |[],r=>rfl
 |n::l,r=>by simp[BG,us]
theorem yC:∀(l:Af),(∀n∈l,n<2^64)->eq (us l)<=10*eq l
 |[],_=>aac _
 |n::l,h=>by
  have N:=yC l (fun x J=>h x (by simp[J]));have O:=dI (h n Q8);simp only[us,aaj,aas];omega
def CC{h hl:PH}{R}(ao O bs al cl' ns)(o:aJ h ao (eq bs) O 5 1 (bv bs))(hm:In K R hl)(x:aj hl al (eq ns) cl' 1 (uv ns))
  (N:∀n∈ns,n<2^64) (hb:eq bs<2^40) (av:eq ns<2^40):
  ai w0 80 [.slice ao (eq bs) O,.slice al (eq ns) cl'] K (h::R)
   (fun v K' hs'=>∃h',hs'=h'::R/\K'=K/\∃U c',v=.slice U (eq (bs++us ns)) c'/\aJ h' U (eq (bs++us ns)) c' 5 1 (bv (bs++us ns))):=by
 refine enter Tryz.func80 qk I I I (acY (fin 1 I (acU (fin 1 I (th (bk (loop (σ:=Nat×Ab×Nat×PH) (fun s=>[(0,.slice s.2.1 (eq (bs++us (ns.take s.1))) s.2.2.1),(1,.slice al (eq ns) cl'),(5,.int .i64 (s.1:Nat))]) (fun _=>K) (fun s=>s.2.2.2::R) (fun s=>s.1<=eq ns/\aJ s.2.2.2 s.2.1 (eq (bs++us (ns.take s.1))) s.2.2.1 5 1 (bv (bs++us (ns.take s.1)))) (fun s=>eq ns-s.1) (0,ao,O,h) (by simpa[us]using o) (by simp only[us,abS,aaw];exact sb) I I ?_)))))));rintro⟨i,ao,O,h⟩ ⟨hi,o⟩;dsimp only at hi o⊢;refine sq (acY (aw 3 I fun an ab=>fin 0 I (th (ax ab I (fun e2=>?_) (fun e2=>?_)))));have az:=yC (ns.take i) (fun n hn=>N n (aaS hn));have ay:eq (ns.take i)<=eq ns:=by simp;omega
 ·have J:i<eq ns:=qo
  refine sk (th (sq (bk (acY (ej 2 i I I I x (N2 J) fun am X=>ld 0 I (Bl hm) X (cl 0 I (DF ns[i] (N _ (abx J))) ?_))))));rintro aA ak ag ⟨aq,rfl,rfl,ae,ap,rfl,ad⟩;have hu:=dI (N _ (abx J));refine fin 1 I (acX (qp 2 1 (bs++us (ns.take i)) (aK ns[i]) I I I o (.inr ⟨0,I⟩) ad.Ni (by simp only[aaj];omega) fun V Z aa Y=>?_));have e:bs++us (ns.take i)++aK ns[i]=bs++us (ns.take (i+1)):=by rw[aaH,nF ns i J,BG];simp[us]
  rw[e]at Y⊢;exact fin 1 I (bl (th (Bg (rg (ar 1 I (ba qo) (fin 1 I (bn (x:=(i,ao,O,h)) (i+1,V,Z,aa) sb I I ⟨qo,Y⟩ aC)))))))
 refine ex (xt (xt (xb (acV ?_))));obtain rfl:i=eq ns:=qo
 rw[aaA (aac _)]at o⊢;exact fin 2 I (ac0 (af I I ⟨h,I,I,ao,O,I,o⟩))
def J1{w0:World}{K:PH}{hs:Ac}(c)(aT:c.S7<2^64)(hs2:c.seq<2^64):
  ai w0 33 [.agg c.v] K hs (fun v K' hs'=>K'=K/\qt (kW c) hs v hs'):=by
 refine enter Tryz.func33 qk I I I<|acY (bx 0 I fun b1=>fin 2 I<|acU<|aX 1 0 I I I (aw 0 I fun b8 h8=>fin 0 I<|th (ax h8 I (fun e2=>?_) (fun e2=>?_))))
 ·refine sq<|acY<|aX 1 0 I I I (aw 0 I fun bs ad=>?_)
  refine' dB 1 4 16 [11,12] ad I I I I I I I (fun _=>?x4) (fun bV ag=>?_)
  case x4=>
   exact aX 1 0 I I I (aw 0 I fun bB ae=>fin 1 I<|bJ ae I I I)
  refine' dB 1 4 21 [16,17] ag I I I I I I I (fun _=>?x6) (fun b2 am=>?_)
  case x6=>
   exact aX 1 0 I I I (Qx 0 I fun b0 ak=>fin 1 I<|bJ ak I I I)
  refine' dB 1 4 26 [21,22] am I I I I I I I (fun _=>?x8) (fun b4 ap=>?_)
  case x8=>
   exact aX 1 0 I I I (aw 0 I fun b3 an=>fin 1 I<|bJ an I I I)
  refine fin 0 I<|th (ax ap I (fun J=>?_) (fun J=>?_))
  ·refine acY (fin 2 I (ac0 (rT (rT (Bh (Ev ?_))))));exact bS I I I ⟨I,mG (wJ fun ok=>ok.elim (fun⟨h0,V,h2,h3,h4⟩=>J.elim (fun e=>e.elim (fun e=>e.elim (fun e=>e (by rw[V];rfl)) (fun e=>e (by rw[h2];rfl))) (fun e=>e h3)) (fun e=>e h4)) (fun⟨V,_⟩=>by omega))⟩
  refine sk<|acV (lit 0 #[.int .u8 (1:Nat)] I Q9 qk fun aa=>fin 2 I<|ac0<|rT ?_)
  have hc:c=⟨1,0,0,[],0⟩:=by
   simp only[not_or,ne_eq,aag]at J;obtain⟨⟨⟨V,h2⟩,h3⟩,h4⟩:=J;obtain⟨k,s,q,l,t⟩:=c;dsimp only[d8.v]at *
   simp_all
  subst hc;exact Bk (aap _ _ _) (Bh (bS I I I ⟨I,qj Q9 (nP aa 1 Q9)⟩))
 refine sk<|acU<|aX 1 0 I I I (aw 0 I fun b5 aq=>?_)
 refine' eQ 1 4 35 [30,31] aq I I I I I I I (fun _=>?x12) (fun b7 ay=>?_)
 case x12=>
  exact aX 1 0 I I I (aw 0 I fun b6 av=>fin 1 I<|bJ av I I I)
 refine' dB 1 5 41 [35,36] ay I I I I I I I (fun _=>?x14) (fun ca aA=>?_)
 case x14=>
  exact aX 1 0 I I I (aw 1 I fun b9 az=>fin 1 I<|bJ az I I I)
 refine' dB 1 4 46 [41,42] aA I I I I I I I (fun _=>?x16) (fun cd aE=>?_)
 case x16=>
  exact aX 1 0 I I I (aw 0 I fun cc aD=>fin 1 I<|bJ aD I I I)
 refine' dB 1 4 51 [46,47] aE I I I I I I I (fun _=>?x18) (fun cg aL=>?_)
 case x18=>
  exact aX 1 0 I I I (aw 0 I fun ce aF=>fin 1 I<|bJ aF I I I)
 refine fin 0 I<|th (ax aL I (fun N=>?_) (fun N=>?_))
 ·exact acY (fin 2 I (ac0 (rT (Bh (Ev (bS I I I ⟨I,mG (wJ fun ok=>ok.elim (fun h=>e2 h.1) (fun⟨V,h2,h3,h4,h5⟩=>by simp only[ByteArray.size,aca]at N;exact absurd N qo))⟩))))))
 refine sk<|acU<|aX 1 0 I I I (aw 0 I fun ch aN=>?_)
 refine' eQ 1 4 59 [54,55] aN I I I I I I I (fun _=>?x22) (fun cm aR=>?_)
 case x22=>
  exact aX 1 0 I I I (aw 0 I fun ck aO=>fin 1 I<|bJ aO I I I)
 refine fin 0 I<|th (ax aR I (fun O=>?_) (fun O=>?_))
 ·exact acY (fin 2 I<|ac0<|rT (Bh<|Ev (bS I I I ⟨I,mG (wJ fun ok=>ok.elim (fun h=>e2 h.1) (fun⟨V,h2,h3,h4,h5⟩=>O.2<|h5 O.1))⟩)))
 have Y:eq c.word<=96:=by simp only[ByteArray.size,aca]at N;omega
 refine sk (acV ?_);have X:c.ok:=.inr ⟨qo,Y,qo,qo,fun h=>by have:=O;omega⟩;obtain⟨t,ht⟩:∃t:Nat,c.wt=(t:Nat):=aa5 qo;obtain⟨k,hk⟩:∃k:Nat,c.kind=(k:Nat):=aa5 qo;have cF:=dI (n:=c.S7) aT;have cL:=dI (n:=c.seq) hs2;have cN:=dI (n:=eq c.word) qo;refine aX 1 0 I I I (ar 0 I (v':=.int .u8 (k:Nat)) (by rw[hk,lr qo]) (lit 0 #[.int .u8 (k:Nat)] I Q9 qk fun ab=>aX 1 1 I I I (aX 1 1 I I I (lit 0 #[.int .u64 (c.S7:Nat),.int .u64 (c.seq:Nat)] I Q9 qk fun cn=>cl 0 I (Er 1 I (CC _ _ [UInt8.ofNat k] _ _ [c.S7,c.seq] (nP ab k qo) (.inr ⟨0,I⟩) (yR I I) Au Q8 Q8)) ?_))));rintro cQ bo a6 ⟨cy,rfl,rfl,a2,cs,rfl,aV⟩;have cO:=yC [c.S7,c.seq] Au
 have bm:[c.S7,c.seq].length=2:=rfl;refine fin 1 I (th (Bg (acY (aX 1 1 I I I (Hf 0 I qk fun cp ct cz aY=>cl 0 I (Oo _ _ c.word (.inr ⟨0,I⟩) aY qo) ?_)))));rintro cR bp bb ⟨cA,rfl,rfl,a3,cu,rfl,a0⟩;have cE:=pz c.word;refine fin 1 I (th (Bj (aap _ _ _) (Bg (acY (qp 2 1 ([UInt8.ofNat k]++us [c.S7,c.seq]) (cJ c.word) I I I aV (.inr ⟨0,I⟩) a0.Ni (by simp only[aaj,abd];omega) fun a4 cv cB Z=>fin 1 rfl (th (Bg (sq (acY (aX 1 1 rfl rfl rfl (aw 0 rfl fun cq aS=>fin 0 rfl (th (ax aS rfl (fun U=>?_) (fun U=>?_))))))))))))))
 ·refine rg (aX 2 1 I I I (ar 0 I (v':=.int .u64 t) (by rw[ht,bL qo]) (lit 0 #[.int .u64 t] I Q9 qk fun cr=>cl 0 I (Er 1 I (CC _ _ _ _ _ [t] Z (.inr ⟨0,I⟩) (yR I I) Au (by simp only[aaj,abd];omega) Q8)) ?_)));rintro cS bq bi ⟨cD,rfl,rfl,a5,cx,rfl,a1⟩;exact fin 1 I (acV (fin 3 I (ac0 (Bh (Bk (aap _ _ _) (Bh (bS I I I ⟨I,qj (by(obtain rfl:k=2:=by omega);rw[kW,aab X,d8.bytes,aaa qo,aab U,ht];simp[us]) a1⟩)))))))
 exact sk (acV (fin 3 I (ac0 (Bk (aap _ _ _) (Bh (bS I I I ⟨I,qj (by(obtain rfl:k=3:=by omega);rw[kW,aab X,d8.bytes,aaa qo,aaa U];simp[us]) Z⟩))))))
end
section
attribute [local irreducible] Code.wp wpList Calls
def Bu{l}(h:¬(l≠[]/\confOK (-1) l)):bG l=none:=aaa h
def Ho(l i):confOK (-1) l↔confOK (-1) (l.take i)/\confOK ((l.take i).getLastD (-1)) (l.drop i):=by
 rw[<-sR,aaE]
def M7(l)(h:confOK (-1) l): -1<=l.getLastD (-1)/\l.getLastD (-1)<=6:=by
 have hm:=qQ l (-1) h Q9;cases hl:l.getLast? with
 |none=>simp[abH,hl]
 |some v=>
  have:=hm v (List.mem_of_getLast? hl)
  grind
def KK(l:Ae)(i)(h:confOK (-1) (l.take i))(hi)(J:(l.take i).getLastD (-1)<l[i]):fy (l.take i)<2^l[i].toNat:=by
 have N:=EM (l.take i) (-1) h Q9;have O:2^((l.take i).getLastD (-1)+1).toNat<=2^l[i].toNat:=abO Q9 qo
 grind
def Hs(l:Ae)(i hi):fy (l.take (i+1))=fy (l.take i)+2^l[i].toNat:=by
 grind[nF,A2,fy]
def Ay(l:Ae)(i hi)(h:confOK (-1) (l.take i))(J:(l.take i).getLastD (-1)<l[i])(N:l[i]<7):confOK (-1) (l.take (i+1)):=by
 rw[nF l i hi,sR];exact⟨h,J,N,trivial⟩
def AK(l i hi)(h:confOK (-1) l):(l.take i).getLastD (-1)<l[i]/\l[i]<7:=by
 rw[Ho l i]at h;obtain⟨_,J⟩:=h;rw[aaI hi]at J;exact⟨J.1,J.2.1⟩
def tM{w0:World}{K hv:PH}{hs:Ac}(ao cap l)(hm:In K hs hv)(x:aj hv ao (eq l) cap 1 (iv l))(hl:eq l<2^40):
  ai w0 87 [.agg #[.slice ao (eq l) cap]] K hs (fun v K' hs'=>K'=K/\qt (bG l) hs v hs'):=by
 refine ent Tryz.func87 ?_;refine acY (bx 0 I fun b1=>au ?_);refine loop (σ:=Nat) (fun i=>[(1,Rp b1),(4,.int .u8 (fy (l.take i):Nat)),(5,.int .i64 ((l.take i).getLastD (-1))),(9,.slice ao (eq l) cap),(10,.int .i64 (eq l:Nat)),(11,.int .i64 (i:Nat))]) (fun _=>K) (fun i=>pt b1 #[.slice ao (eq l) cap] 46::hs) (fun i=>i<=eq l/\confOK (-1) (l.take i)) (fun i=>eq l-i) 0 ⟨aad _,trivial⟩ ⟨I,I,I,I,I,I,trivial⟩ I I ?_;rintro i ⟨hi,U⟩;refine acY (aw 0 I fun ap Z=>?_);have am:=M7 _ U;refine au ?_;refine ax Z I (fun e2=>?_) (fun e2=>?_)
 ·have J:i<eq l:=qo
  refine au ?_;refine ej 0 i I I I x (ma J) fun an V=>ld 0 I (Bl hm) V (au ?_);refine aw 2 I fun aq aa=>?_
  refine' dB 1 3 21 [17,18] aa I I I I I I I (fun _=>?x4) (fun ay ad=>?_)
  case x4=>
   exact aw 1 I fun av ab=>fin 1 I<|bJ ab I I I
  refine fin 0 I<|th (ax ad I (fun e6=>?_) (fun e6=>?_))
  ·exact acY (fin 2 I (ac0 (rT (rB (rT (rT (rB (rT (Bh (Ev (bS I I I ⟨I,mG (Bu fun h=>by have:=AK l i J h.2;omega)⟩)))))))))))
  have h1:(l.take i).getLastD (-1)<l[i]:=qo
  refine sk (acV ?_);have h2:l[i]<7:=qo
  obtain⟨v,hv⟩:∃v:Nat,l[i]=(v:Nat):=aa5 (show 0<=l[i] by omega);have O:=KK l i U J h1;have N:=Hs l i J;have X:=Hr l i J (-1);have ak:=Ay l i J U h1 h2;rw[hv]at O N X h2⊢;simp only[Int.toNat_natCast]at O N;refine qv 2 I qo (.inl ⟨I,PQ v qo⟩) (ar 0 I (Ot _ v qo O) (au ?_));refine ar 0 I (ba qo) (fin 1 I ?_);exact bn (x:=i) (i+1) ⟨I,by rw[N];rfl,by rw[X];rfl,rfl,rfl,rfl,trivial⟩ rfl rfl ⟨qo,ak⟩ qo
 obtain rfl:i=eq l:=qo
 refine au ?_;rw[aaA (aac _)]at U⊢;have ag:=Cj U;refine aw 1 I fun az ae=>fin 0 I (th (ax ae I (fun e8=>?_) (fun e8=>?_)))
 ·exact acY (fin 2 I (ac0 (rT (Bh (Ev (bS I I I ⟨I,mG (Bu fun h=>by have:=ag.2.2 h.1;omega)⟩))))))
 refine sk (acV (lit 1 #[.int .u8 (fy l:Nat)] I Q9 qk fun Y=>fin 2 I (ac0 (Bk (aap _ _ _) (Bh ?_)))));exact bS I I I ⟨I,qj (by rw[bG,aab ⟨fun h=>by subst h;exact e8 I,U⟩]) (nP Y (fy l) qo)⟩
def Qu(o:Option (Ae))(hs:Ac)(v:Value)(hs':Ac):Prop:=
 ∃h ao c,hs'=h::hs/\v=.tuple #[.agg #[.slice ao (eq (o.getD [])) c],.int .i64 (ec o)]/\aJ h ao (eq (o.getD [])) c 3 1 (iv (o.getD []))
def EL{l j}(h:j<eq l):(bv l)[j]?=some (.int .u8 ((l.getD j 0).toNat:Nat)):=by simp[bv,h,List.getD]
def vd{T:be}{ops:Ai}{Q:An}{rest rest':Aj}{n l l'}
  [hT:a8 P T] (k i xs y) {d si ao ao2 c1 c2 h h2} (h0:kE T ops n k rest l=some (d,si,(ao,eq xs,c1),(ao2,1,c2),rest',l'))
  (hi:hs[i]?=some h) (O:(si.size,si.bytes,si.zero.cells.size)=(1,8,1)) (o:aJ h ao (eq xs) c1 si.elem 1 (iv xs)) (hm:In K hs h2) (x:aj h2 ao2 1 c2 1 (iv [y])) (hb:eq xs<=17592186044415)
  (Y:∀N J V,aJ V N (eq (xs++[y])) J si.elem 1 (iv (xs++[y]))->WL P w0 ops Q rest' n ((d,.slice N (eq (xs++[y])) J)::l') K (hs.set i V)):WL P w0 ops Q rest n l K hs:=by
 simp only[aah]at O;obtain⟨U,e2,X⟩:=O;refine app k i h0 hi (by rw[U];exact o) hm (by rw[U];exact x) (by rw[U,X]) qo (yQ _) (by rw[e2];omega) As fun N J V Z=>?_;have e:eq (xs++[y])=eq xs+1:=by simp
 simp_all[Kl]
def HS{c}(h:¬(c.toNat=0\/128<=c.toNat)):fB [c]=some (iH c.toNat 7):=aaa h
def IY{b}(h:eq b≠1\/(b.getD 0 0).toNat=0\/128<=(b.getD 0 0).toNat):fB b=none:=by
 unfold fB
 grind
def tR{w0:World}{K hb:PH}{hs:Ac}(ao cap b)(hm:In K hs hb)(x:aj hb ao (eq b) cap 1 (bv b))(hl:eq b<2^40):
  ai w0 107 [.slice ao (eq b) cap] K hs (fun v K' hs'=>K'=K/\Qu (fB b) hs v hs'):=by
 refine ent Tryz.func107 ?_;refine acY (al 0 (.agg Ij) I qk fun b2=>au ?_);refine aw 2 I fun b8 h8=>?_
 refine' dB 1 5 14 [8,9] h8 I I I I I I I (fun _=>?x2) (fun aD ag=>?_)
 case x2=>
  exact ej 1 0 I I I x (EL qo) fun av V=>ld 0 I (Bl hm) V (aw 0 I fun aA ae=>fin 1 I<|bJ ae I I I)
 refine' dB 1 5 20 [14,15] ag I I I I I I I (fun _=>?x4) (fun aF am=>?_)
 case x4=>
  exact ej 1 0 I I I x (EL qo) fun ay X=>ld 0 I (Bl hm) X (aw 0 I fun aE ak=>fin 1 I<|bJ ak I I I)
 refine fin 0 I<|th (ax am I (fun e6=>?_) (fun e6=>?_))
 ·have hn:fB b=none:=IY qo;refine acY (bd 0 (.agg Ij) I Aq ?_);refine bA 0 0 I I qk I I ?_;refine fin 1 I (ac0 (rT (Ev (Bk (aap _ _ _) ?_))));exact gk 0 1 I I I I qk ⟨I,em,none,0,I,by rw[hn];rfl,by rw[hn];exact aJ.nil _ _⟩
 obtain⟨c,rfl⟩:∃c,b=[c]:=List.length_eq_one_iff.1 qo;refine sk (acV ?_);have hc:¬(c.toNat=0\/128<=c.toNat):=by simp only[List.getD_cons_zero]at e6;omega
 clear e6;have hn:=HS hc;refine al 0 (.agg Ij) I qk fun b4=>fin 0 I (acU (fin 1 I (th (bk (Es (loop (σ:=Nat×Ab×Nat×PH) (fun s=>[(0,.slice ao 1 cap),(2,Rp b2),(4,Rp b4),(22,.int .i64 (s.1:Nat))]) (fun _=>K) (fun s=>s.2.2.2::pt b4 #[.slice s.2.1 (eq (iH c.toNat s.1)) s.2.2.1] 46::pt b2 Ij 46::hs) (fun s=>s.1<=7/\aJ s.2.2.2 s.2.1 (eq (iH c.toNat s.1)) s.2.2.1 3 1 (iv (iH c.toNat s.1))) (fun s=>7-s.1) (0,none,0,em) ⟨Q9,aJ.nil _ _⟩ ⟨I,I,I,I,trivial⟩ I I ?_))))));rintro⟨k,O,cV,g⟩ ⟨hk,o⟩;dsimp only at hk o⊢;have aR:=vT c.toNat k;have N:=AQ c.toNat k;refine acY (aw 0 I fun aL an=>au ?_);refine ax an I (fun e8=>?_) (fun e8=>?_)
 ·have aq:k<7:=qo
  refine au ?_;refine ej 1 0 I I I x I fun az Y=>ld 0 I (In.TP hm) Y (qv 1 I qo (.inr ⟨I,PP c.toNat k aq⟩) (ar 0 I (PJ _ (by have:=Nat.div_le_self c.toNat (2^k);omega)) (aw 0 rfl fun aN ap=>fin 0 rfl (th (ax ap rfl (fun ab=>?_) (fun ab=>?_))))))
  ·have J:c.toNat/2^k%2=1:=qo
   refine rg ?_;rw[aab J]at N;refine au ?_;refine lit 1 #[.int .i64 k] I Q9 qk fun aO=>vd 0 1 (iH c.toNat k) (k:Nat) I I I o (.inr ⟨0,I⟩) (yR I I) qo fun U aa ad Z=>?_;rw[<-N]at Z⊢;exact Ji 1 2 I I I I (fin 0 I (bl (th (Bg (rg (ar 0 I (ba qo) (fin 1 I (bn (x:=(k,O,cV,g)) (k+1,U,aa,ad) sb I I ⟨qo,Z⟩ qo))))))))
  have J:¬c.toNat/2^k%2=1:=qo
  refine sk (acW ?_);rw[aaa J,aaw]at N;refine ar 0 I (ba qo) (fin 1 I ?_);exact bn (x:=(k,O,cV,g)) (k+1,O,cV,g) sb I (by rw[<-N]) ⟨qo,by rw[N];exact o⟩ qo
 obtain rfl:k=7:=qo
 refine ex (xt (xt (xb (acV (fI 0 1 I I qk ?_)))));refine bA 0 2 I I qk I I ?_;refine fin 1 I (ac0 (Bk (aaQ (l₁:=[_,_])).symm (Bh ?_)));exact gk 0 1 I I I I qk ⟨I,g,O,cV,I,by rw[hn];rfl,by rw[hn];exact o⟩
def F5{hb:PH}(k ao cap b)(hm:In K hs hb)(x:aj hb ao (eq b) cap 1 (bv b))(hl:eq b<2^40):
  ai w0 176 [.int .i64 k,.slice ao (eq b) cap] K hs (fun v K' hs'=>K'=K/\hs'=hs/\∃t:Bool,v=.bool t/\(t=true↔mq k b)):=by
 refine ent Tryz.func176 ?_;refine acY (fin 1 I (acV (fin 1 I (th (jn (σ:=Int) (fun s=>[(5,.int .i64 s)]) (fun s=>hs) (fun s=>(s=0↔mq k b)) ?_ ?_)))))
 ·refine au ?_;refine aw 0 I fun b8 h8=>fin 1 I (th (ax h8 I (fun e2=>?_) (fun e2=>?_)))
  ·refine acY (aw 2 I fun J O=>au ?_);exact jr (af I I ⟨I,I,J,I,O.trans ⟨fun h=>.inl ⟨e2,aaY qo⟩,fun h=>by rcases h with⟨_,h⟩|⟨h,_⟩|⟨h,_⟩<;>first|(rw[h];rfl)|(omega)⟩⟩)
  refine acY (aw 0 I fun ak U=>fin 1 I<|th (ax U I (fun Z=>?_) (fun Z=>?_)))
  ·refine rg (cl 1 I (EB ao cap b hm x hl) ?_);rintro an ad aa ⟨rfl,rfl,rfl⟩;exact fin 4 I (bl (jx (ec (jE b)) ⟨fun h=>.inr (.inl ⟨Z,ng.1 h⟩),fun h=>ng.2 (by rcases h with⟨h,_⟩|⟨_,h⟩|⟨h,_⟩<;>first|exact h|(omega))⟩ sb rfl rfl))
  refine acY (aw 0 I fun am V=>fin 1 I<|th (ax V I (fun e7=>?_) (fun e7=>?_)))
  ·refine rg (cl 1 I (tR ao cap b hm x hl) ?_);rintro ap ae ab ⟨rfl,g,ag,cg,rfl,rfl,og⟩;exact fin 4 I (bl (Bh (jx (ec (fB b)) ⟨fun h=>.inr (.inr ⟨e7,ng.1 h⟩),fun h=>ng.2 (by rcases h with⟨h,_⟩|⟨h,_⟩|⟨_,h⟩<;>first|exact h|(omega))⟩ sb rfl rfl)))
  refine au ?_;exact jr (af I I ⟨I,I,false,I,⟨fun h=>by simp at h,fun h=>by have:=tq h;omega⟩⟩)
 rintro s Y;refine acY (aw 1 I fun N X=>au ?_);exact af I I ⟨I,I,N,I,X.trans Y⟩
def J0{e}(h:¬e.ok):iJ e=none:=aaa h
def yd{w0:World}{K hb:PH}{hs:Ac}(e ao cap)(h1:e.idx<=ac)(h2:e.term<=ac)(hm:In K hs hb)(x:aj hb ao (eq e.data) cap 1 (bv e.data))(hl:eq e.data<2^40):
  ai w0 202 [.agg (e.v ao cap)] K hs (fun v K' hs'=>K'=K/\qt (iJ e) hs v hs'):=by
 have a6:ac=18446744073709551615:=rfl;refine ent Tryz.func202 ?_;refine acY (bx 0 I fun b1=>au ?_);refine aw 0 I fun b7 h7=>?_
 refine' dB 1 4 12 [7,8] h7 I I I I I I I (fun _=>?x2) (fun aR ab=>?_)
 case x2=>
  refine au ?_;exact aw 0 I fun aO aa=>fin 1 I (bJ aa I I I)
 refine' dB 1 7 20 [12,13] ab I I I I I I I (fun _=>?x4) (fun aV ag=>?_)
 case x4=>
  refine au ?_;refine cl 0 I (F5 e.kind ao cap e.data (Bl hm) x hl) ?_;rintro bm aE ay ⟨rfl,rfl,aS,rfl,ad⟩;exact cG 0 _ I (lU ad) fun aT ae=>fin 1 I (bJ ae I I I)
 refine fin 0 I<|th (ax ag I (fun U=>?_) (fun U=>?_))
 ·exact acY (fin 2 I<|ac0<|rT (Bh<|Ev (bS I I I ⟨I,mG (J0 fun h=>U.elim (fun V=>V.elim (fun V=>h.1 qo) (fun V=>h.2.1 qo)) (fun V=>V h.2.2))⟩)))
 have J:e.ok:=⟨fun h=>U (.inl (.inl qo)),fun h=>U (.inl (.inr qo)),aag.1 fun h=>U (.inr h)⟩;refine sk (th (Es (sq (bO [pt b1 (Value.agg (e.v ao cap)).cells 51] 7 [0,2,6,8,5,11,12] Q8 qk qk ?_))));have hd:=mY J.2.2;have a5:=tq J.2.2;obtain⟨k,hk⟩:∃k:Nat,e.kind=(k:Nat):=aa5 (show 0<=e.kind by omega);have bb:=dI (n:=e.idx) qo;have bi:=dI (n:=e.term) qo;refine au ?_;refine cl 0 I (kU none 0 [] e.idx (aJ.nil _ _) qo Q8) ?_;rintro bo aF az ⟨a1,rfl,rfl,N,Y,rfl,ak⟩;refine aP Q8 I (aB qk 0 I (cl 0 I (kU N Y _ e.term ak qo Au) ?_));rintro bp aL aA ⟨a2,rfl,rfl,aq,aY,rfl,am⟩;refine aP Q8 I (aI qk 1 I (th (sq (bO [pt b1 (Value.agg (e.v ao cap)).cells 51] 11 [0,2,4,6,12,14,9,11,17,18,20] Q8 qk qk (au ?_)))))
 refine bF qk 0 I (v':=.int .u8 (k:Nat)) (by rw[hk,lr qo]) (au ?_);refine lit 0 #[.int .u8 (k:Nat)] I Q9 qk fun X=>aP Q8 I (aB qk 0 I (qp 0 1 _ [UInt8.ofNat k] I I I am (.inr ⟨0,I⟩) (pK X k qo) Au fun O Z a3 an=>aP Q8 rfl (aB qk 0 rfl (cl 0 rfl (Er 1 rfl (pE O Z _ ao cap e.data an (Bl (Bl hm)) x Au qo)) ?_))));rintro bq aN aD ⟨a4,rfl,rfl,av,a0,rfl,ap⟩;refine aP Q8 I (aI qk 2 I (ac0 (Bh (Bk (aap _ _ _) (Bh ?_)))));exact bS I I I ⟨I,qj (by rw[iJ,aab J,ah.bytes,hk];simp) ap⟩
def Qv(o:Option ah)(hs:Ac)(v:Value)(hs':Ac):Prop:=
 ∃h ao c,hs'=h::hs/\v=.tuple #[.agg ((o.getD ah.zero).v ao c),.int .i64 (ec o)]/\aJ h ao (eq (o.getD ah.zero).data) c 5 1 (bv (o.getD ah.zero).data)
def EA{w0:World}{K hb:PH}{hs:Ac}(ao cap b)(hm:In K hs hb)(x:aj hb ao (eq b) cap 1 (bv b))(hl:eq b<2^40):
  ai w0 120 [.slice ao (eq b) cap] K hs (fun v K' hs'=>K'=K/\Qv (gD b) hs v hs'):=by
 have ak:=kS ac (b,0);have a4:=kS ac (aG ac (b,0)).2;have a5:=BZ (aG ac (aG ac (b,0)).2).2;have a6:=(we 512 (br (aG ac (aG ac (b,0)).2).2).2).1;have ag:=tL (aG ac (aG ac (b,0)).2).2;dsimp only at ak;have N:lC b=(⟨(aG ac (b,0)).1,(aG ac (aG ac (b,0)).2).1,((br (aG ac (aG ac (b,0)).2).2).1:Nat),(bW 512 (br (aG ac (aG ac (b,0)).2).2).2).1⟩,(bW 512 (br (aG ac (aG ac (b,0)).2).2).2).2):=rfl;refine ent Tryz.func120 ?_;refine acY (al 0 (.agg Il) I qk fun b2=>au ?_);refine cl 1 I (rR ao cap b (Bl hm) x hl) ?_;rintro v7 K7 bb ⟨rfl,rb,h,a3,rfl,rfl,rd⟩;refine au ?_;refine cl 1 I (ie (.inr ⟨0,I⟩) ac (b,0) hl rd) ?_;rintro v9 K9 bi ⟨h1,rfl,rfl,rfl,am⟩;refine cl 1 I (ie (.inr ⟨0,I⟩) ac _ qo am) ?_;rintro bo aE av ⟨h2,rfl,rfl,rfl,an⟩
 refine cl 1 I (rZ (.inr ⟨0,I⟩) _ an) ?_;rintro bp aF ay ⟨h3,rfl,rfl,rfl,ap⟩;refine ar 0 I (ba (x:=(((br (aG ac (aG ac (b,0)).2).2).1:Nat):Int)) qo) ?_
 skip
 refine bd 0 (.agg<|(ah.mk (aG ac (b,0)).1 (aG ac (aG ac (b,0)).2).1 ((br (aG ac (aG ac (b,0)).2).2).1:Nat) []).v none 0) I Aq ?_
 skip
 refine al 0 (.agg Il) I qk fun b5=>?_;refine bA 0 0 I I qk I I ?_;refine fin 0 I (acV (cl 1 I (Ed 1 I (p7 (.inr ⟨1,I⟩) 512 qo _ qo ap)) ?_));rintro bq aL az ⟨h4,bm,rfl,rfl,hx,U,cx,rfl,rfl,ox,aq⟩;refine au ?_;refine cl 1 I (Ck 2 I (u5 _ aq)) ?_;rintro bs aN aA ⟨rfl,rfl,rfl⟩;refine aw 0 I fun aR V=>?_
 refine' dB 1 4 26 [21,22] V I I I I I I I (fun _=>?x2) (fun aT Y=>?_)
 case x2=>
  refine au ?_;exact aw 0 I fun aS X=>fin 1 I (bJ X I I I)
 refine' dB 1 4 31 [26,27] Y I I I I I I I (fun _=>?x4) (fun aY aa=>?_)
 case x4=>
  refine au ?_;exact aw 0 I fun aV Z=>fin 1 I (bJ Z I I I)
 refine' dB 1 7 39 [31,32] aa I I I I I I I (fun _=>?x6) (fun a2 ae=>?_)
 case x6=>
  refine au ?_;refine cl 0 I (F5 _ U cx _ (.inr ⟨0,I⟩) ox.Ni qo) ?_;rintro bB aO aD ⟨rfl,rfl,a0,rfl,ab⟩;exact cG 0 _ I (lU ab) fun a1 ad=>fin 1 I (bJ ad I I I)
 refine fin 0 I<|th (ax ae I (fun O=>?_) (fun O=>?_))
 ·have hn:gD b=none:=by
   rw[gD,aaa];rw[N];exact fun h=>O.elim (fun J=>J.elim (fun J=>J.elim (fun J=>J h.1) (fun J=>h.2.1 (abm.1 J))) (fun J=>h.2.2.1 (abm.1 J))) (fun J=>J h.2.2.2)
  refine acY (bd 0 (.agg (ah.zero.v none 0)) I Aq ?_);refine bA 0 4 I I qk I I ?_;refine fin 1 I (ac0 (rT (Bh (Bh (Bh (Bh (Ev (Bk (aap _ _ _) ?_))))))));exact gk 0 1 I I I I qk ⟨I,em,none,0,I,by rw[hn];rfl,by rw[hn];exact aJ.nil _ _⟩
 have hn:gD b=some (lC b).1:=by
  rw[gD,aab];rw[N];exact⟨aag.1 fun h=>O (.inl (.inl (.inl h))),fun h=>O (.inl (.inl (.inr (abm.2 h)))),fun h=>O (.inl (.inr (abm.2 h))),aag.1 fun h=>O (.inr h)⟩
 rw[N]at hn;refine sk (acV (fI 0 1 I I qk ?_));refine bA 0 4 I I qk I I ?_;refine fin 1 I (ac0 ?_);refine Bk (aaQ (l₁:=[_,_,_,_])).symm (Bh (Bh (Bh ?_)));exact gk 0 1 I I I I qk ⟨I,hx,U,cx,I,by rw[hn];rfl,by rw[hn];exact ox⟩
def BU{w0:World}{K h1 h2:PH}{hs:Ac}(J e2:ah)(a1 a2 c1 c2)(m1:In K hs h1)(m2:In K hs h2)(x1:aj h1 a1 (eq J.data) c1 1 (bv J.data))(x2:aj h2 a2 (eq e2.data) c2 1 (bv e2.data)):
  ai w0 20 [.agg (J.v a1 c1),.agg (e2.v a2 c2)] K hs (fun v K' hs'=>K'=K/\hs'=hs/\∃b:Bool,v=.bool b/\(b=true↔J=e2)):=by
 refine enter Tryz.func20 qk I I I<|acY (bx 0 I fun b2=>bx 0 I fun b3=>fin 1 I<|acV (aX 1 1 I I I<|aX 1 0 I I I (aw 0 I fun b9 h9=>?_)))
 refine' eQ 1 6 16 [9,10] h9 I I I I I I I (fun _=>?x2) (fun ag Y=>?_)
 case x2=>
  exact aX 1 1 I I I<|aX 1 0 I I I (aw 0 I fun ae X=>fin 1 I<|bJ X I I I)
 refine' eQ 1 6 23 [16,17] Y I I I I I I I (fun _=>?x4) (fun am aa=>?_)
 case x4=>
  exact aX 1 1 I I I<|aX 1 0 I I I (aw 0 I fun ak Z=>fin 1 I<|bJ Z I I I)
 refine' eQ 1 8 32 [23,24] aa I I I I I I I (fun _=>?x6) (fun V ad=>?_)
 case x6=>
  exact aX 1 1 I I I<|vq 0 _ I (Bl<|Bl m1) x1 qk (aX 1 0 I I I<|vq 0 _ I (Bl<|Bl m2) x2 qk (Qz 0 I fun an ab=>fin 1 I<|bJ ab I I I))
 refine fin 1 I<|ac0<|Bh (Bh ?_)
 exact af I I ⟨I,I,V,I,ad.trans ⟨fun⟨⟨⟨N,O⟩,U⟩,g4⟩=>by
  obtain⟨i,t,k,d⟩:=J;obtain⟨i',t',k',d'⟩:=e2;dsimp only[ah.v]at N O U g4;have N:=abm.1 N;have O:=abm.1 O;have U:k=k':=U;rw[N,O,U,g4],fun h=>by subst h;exact⟨⟨⟨I,I⟩,I⟩,I⟩⟩⟩
end
section
attribute [local irreducible] Code.wp wpList Calls
structure MA where
 ae:Ab
 ce:Nat
 av:Ab
 cv:Nat
 ad:Ab
 cd:Nat
def mv(m:bg)(p:MA):Ah:=#[.int .i64 m.kind,.int .i64 m.Jl,.int .i64 m.to,.int .u64 (m.term:Nat),.int .u64 (m.idx:Nat),.int .u64 (m.lt:Nat),.int .u64 (m.Je:Nat),.int .u64 (m.Jn:Nat),.bool m.Jj,
 .slice p.ae (eq m.Jg) p.ce,.int .i64 m.off,.int .i64 m.whole,.slice p.av (eq m.Jq) p.cv,.slice p.ad (eq m.data) p.cd]
def eI(H:PH)(cs:Ad)(e:ah):Prop:=∃ao cap,cs=(e.v ao cap).toList/\aj H ao (eq e.data) cap 1 (bv e.data)
def fE(H:PH)(ao:Ab)(cap:Nat)(J:List ah):Prop:=∃css:List (Ad),aj H ao (eq J) cap 4 css.flatten/\fg (eI H) css J
def dF(H:PH)(m:bg)(p:MA):Prop:=fE H p.ae p.ce m.Jg/\aj H p.av (eq m.Jq) p.cv 1 (iv m.Jq)/\aj H p.ad (eq m.data) p.cd 1 (bv m.data)
theorem eI.le{H H'}(l:Le H H'){cs e}(h:eI H cs e):eI H' cs e:=by
 obtain⟨ao,cap,J,N⟩:=h;exact⟨ao,cap,J,N.le l⟩
theorem fg.imp{α R R'}(h:∀c x,R c x->R' c x):∀{cs:List (Ad)} {xs:List α},fg R cs xs->fg R' cs xs
 |[],[],_=>trivial
 |_::_,_::_,g=>⟨h _ _ g.1,fg.imp h g.2⟩
 |[],_::_,g=>g.elim
 |_::_,[],g=>g.elim
theorem fE.le{H H'}(l:Le H H'){ao cap es}(h:fE H ao cap es):fE H' ao cap es:=by
 obtain⟨css,J,N⟩:=h;exact⟨css,J.le l,fg.imp (fun _ _=>eI.le l) N⟩
theorem fE.nil(H ao cap):fE H ao cap []:=⟨[],aj.nil _ _ _ _,trivial⟩
theorem dF.le{H H'}(l:Le H H'){m p}(h:dF H m p):dF H' m p:=⟨h.1.le l,h.2.1.le l,h.2.2.le l⟩
def dp(b:Nat):Value:=Rp b
def qq(f:dc)(m:bg)(V:Aa)(R:Ac)(K:PH):Ao:=fun v U hs'=>
 U=K/\∃O J N out,∃t:Bool,hs'=O::R/\v=.tuple #[.slice J (eq out) N,.bool t]/\(t=true↔f.S5 m)/\(t=true->out=V++f.SA m)/\aJ O J (eq out) N 5 1 (bv out)
def sC(f:dc)(m:bg)(mb:Nat)(R:Ac)(K:PH):Ao:=fun v N hs'=>
 N=K/\∃J,hs'=pt mb (mv (f.SR m) J) 34::R/\dF K (f.SR m) J
def sB(f:dc)(s:Rd)(m:bg)(p:MA)(rb mb:Nat)(hb:PH)(R:Ac)(K:PH):Ao:=fun v N hs'=>
 Le K N/\∃O J,hs'=O::pt mb (mv (f.get s m).2 J) 34::R/\eU rb hb (f.get s m).1 O/\dF N (f.get s m).2 J/\(f≠.Jg->J.ae=p.ae/\J.ce=p.ce)
def iD(w0:World)(g off:Nat):Prop:=∀(mb:Nat) (K:PH) (hs:Ac),ai w0 g [dp mb] K hs (Ap K hs (.pointer (some ⟨mb,off,none⟩)))
def wB:iD w0 181 4:=by
 intro mb K hs;exact enter Tryz.func181 qk I I I (acY (fin 1 I (acV (fin 4 I (ac0 (af I I ⟨I,I,I⟩))))))
def vK:iD w0 182 5:=by
 intro mb K hs;exact enter Tryz.func182 qk I I I (acY (fin 1 I (acV (fin 4 I (ac0 (af I I ⟨I,I,I⟩))))))
def vW:iD w0 184 6:=by
 intro mb K hs;exact enter Tryz.func184 qk I I I (acY (fin 1 I (acV (fin 4 I (ac0 (af I I ⟨I,I,I⟩))))))
def wA:iD w0 185 7:=by
 intro mb K hs;exact enter Tryz.func185 qk I I I (acY (fin 1 I (acV (fin 4 I (ac0 (af I I ⟨I,I,I⟩))))))
def vV:iD w0 188 10:=by
 intro mb K hs;exact enter Tryz.func188 qk I I I (acY (fin 1 I (acV (fin 4 I (ac0 (af I I ⟨I,I,I⟩))))))
def wz:iD w0 189 11:=by
 intro mb K hs;exact enter Tryz.func189 qk I I I (acY (fin 1 I (acV (fin 4 I (ac0 (af I I ⟨I,I,I⟩))))))
section
variable {w0:World}{K h:PH}{R:Ac}{g off cb mb:Nat}
abbrev ja(ty g:Nat):Obj:=.cells #[.func (.func g) #[] #[]] ty (0,0)
def pM{cb ty g}(h:K cb=some (ja ty g)):co K ⟨cb,0,none⟩ (.func (.func g) #[] #[]):=⟨rfl,_,_,_,h,rfl⟩
def OD(m p ao c1 bs)(o:aJ h ao (eq bs) c1 5 1 (bv bs))(hb:eq bs<2^36)(hs:iD w0 g off)(hc:K cb=some (ja 262 g))(n)(hn:n<=ac)(hv:(mv m p)[off]?=some (.int .u64 (n:Nat))):
  ai w0 229 [.slice ao (eq bs) c1,dp mb,dp cb] K (h::pt mb (mv m p) 34::R)
   (fun v K' hs'=>K'=K/\∃Y J X,hs'=Y::pt mb (mv m p) 34::R/\v=.tuple #[.slice J (eq (bs++aK n)) X,.bool true]/\aJ Y J (eq (bs++aK n)) X 5 1 (bv (bs++aK n))):=by
 have ae:ac=18446744073709551615:=rfl;refine enter Tryz.func229 qk I I I (acY (fin 2 I (acV (ld 1 I (.inl I) (pM hc) (cl 1 I (hs mb _ _) ?_)))));rintro ag ab Z ⟨rfl,rfl,rfl⟩;refine aX 1 1 I I hv (cl 0 I (kU ao c1 bs n o qo qo) ?_);rintro ak ad aa ⟨U,rfl,rfl,N,O,rfl,V⟩;exact fin 2 I (ac0 (bS I I I ⟨I,U,N,O,I,I,V⟩))
def H5(x):Value.int .u64 (IntKind.u64.wrap x)=.int .u64 (kY x:Nat):=by
 grind[IntKind.wrap,IntKind.bits,IntKind.signed,kY]
def xa(x):kY x<2^64:=by unfold kY;omega
def Lv(m p ao V J)(o:aJ h ao (eq J) V 5 1 (bv J))(hb:eq J<2^36)(hs:iD w0 g off)(hc:K cb=some (ja 265 g))(n)(hv:(mv m p)[off]?=some (.int .i64 n)):
  ai w0 238 [.slice ao (eq J) V,dp mb,dp cb] K (h::pt mb (mv m p) 34::R)
   (fun v K' hs'=>K'=K/\∃h' N c',∃t:Bool,hs'=h'::pt mb (mv m p) 34::R/\v=.tuple #[.slice N (eq (J++aK (kY n))) c',.bool t]/\(t=true↔0<=n/\n<=2097152)/\aJ h' N (eq (J++aK (kY n))) c' 5 1 (bv (J++aK (kY n)))):=by
 refine enter Tryz.func238 qk I I I (acY (fin 2 I (acV (ld 0 I (.inl I) (pM hc) (cl 1 I (hs mb _ _) ?_)))));rintro aq ak ae ⟨rfl,rfl,rfl⟩;refine aX 1 1 I I hv (fin 1 I (acV (ar 2 I (H5 n) (cl 0 I (kU ao V J (kY n) o (xa n) qo) ?_))));rintro av am ag ⟨Y,rfl,rfl,O,X,rfl,ad⟩;refine aw 1 I fun an Z=>?_
 refine' eQ 1 3 22 [18,19] Z I I I I I I I (fun _=>?x2) (fun U ab=>?_)
 case x2=>
  exact aw 1 I fun ap aa=>fin 1 I<|bJ aa I I I
 exact fin 2 I<|ac0<|bS I I I ⟨I,Y,O,X,U,I,I,ab,ad⟩
def OF(c)(hs:iD w0 g off)(N:K cb=some (ja 262 g))(u)(U:c[off]?=some u):
  ai w0 231 [dp mb,dp cb] K (pt mb c 34::R)
   (fun v J hs'=>J=K/\hs'=pt mb (c.setIfInBounds off (.int .u64 0)) 34::R):=by
 refine enter Tryz.func231 qk I I I (rg (ld 0 I (.inl I) (pM N) (cl 1 I (hs mb _ _) ?_)));rintro X V O ⟨rfl,rfl,rfl⟩;exact Ji 1 0 I I U I (fin 0 I (bZ I ⟨I,I⟩))
def Lx(c)(hs:iD w0 g off)(N:K cb=some (ja 265 g))(u)(U:c[off]?=some u):
  ai w0 240 [dp mb,dp cb] K (pt mb c 34::R)
   (fun v J hs'=>J=K/\hs'=pt mb (c.setIfInBounds off (.int .i64 0)) 34::R):=by
 refine enter Tryz.func240 qk I I I (rg (ld 0 I (.inl I) (pM N) (cl 1 I (hs mb _ _) ?_)));rintro X V O ⟨rfl,rfl,rfl⟩;exact Ji 1 0 I I U I (fin 0 I (bZ I ⟨I,I⟩))
def OE{c rb hb}(hi:In K (pt mb c 34::R) hb)(s)(hl:eq s.1<2^40)(rd:eU rb hb s h)(hs:iD w0 g off)(V:K cb=some (ja 262 g))(u)(Z:c[off]?=some u):
  ai w0 230 [dp rb,dp mb,dp cb] K (h::pt mb c 34::R)
   (fun v O hs'=>O=K/\∃N,hs'=N::pt mb (c.setIfInBounds off (.int .u64 ((aG ac s).1:Nat))) 34::R/\eU rb hb (aG ac s).2 N):=by
 refine enter Tryz.func230 qk I I I (rg (ld 0 I (.inl I) (pM V) (cl 1 I (hs mb _ _) ?_)));rintro v7 K7 X ⟨rfl,rfl,rfl⟩;refine cl 1 I (ie hi ac s hl rd) ?_;rintro v9 K9 Y ⟨U,rfl,rfl,rfl,J⟩;exact Ji 1 1 I I Z I (fin 0 I (bZ I ⟨I,U,I,J⟩))
def Lw{c rb hb}(hi:In K (pt mb c 34::R) hb)(s)(hl:eq s.1<2^40)(rd:eU rb hb s h)(hs:iD w0 g off)(V:K cb=some (ja 265 g))(u)(hu:c[off]?=some u):
  ai w0 239 [dp rb,dp mb,dp cb] K (h::pt mb c 34::R)
   (fun v O hs'=>O=K/\∃N,hs'=N::pt mb (c.setIfInBounds off (.int .i64 ((aG 2097152 s).1:Nat))) 34::R/\eU rb hb (aG 2097152 s).2 N):=by
 have X:=ia 2097152 s;refine enter Tryz.func239 qk I I I (rg (ld 0 I (.inl I) (pM V) (cl 1 I (hs mb _ _) ?_)));rintro v7 K7 Y ⟨rfl,rfl,rfl⟩;refine cl 1 I (ie hi 2097152 s hl rd) ?_;rintro v9 K9 Z ⟨U,rfl,rfl,rfl,J⟩;exact ar 0 I (ba qo) (Ji 1 1 I I hu I (fin 0 I (bZ I ⟨I,U,I,J⟩)))
def Nm(m p ao c1 bs)(o:aJ h ao (eq bs) c1 5 1 (bv bs))(hb:eq bs<2^36):
  ai w0 232 [.slice ao (eq bs) c1,dp mb] K (h::pt mb (mv m p) 34::R) (qq .Jj m bs (pt mb (mv m p) 34::R) K):=by
 refine enter Tryz.func232 qk I I I<|acY<|fin 2 I (acU (aX 3 1 I I I (mI fun b9 h9=>fin 0 I<|th (ax h9 I (fun Y=>?_) (fun Y=>?_)))))
 ·refine acY (lit 1 #[.int .u8 (1:Nat)] I Q9 qk fun O=>qp 0 1 bs [1] I I I o (.inr ⟨0,I⟩) (pK O 1 Q9) Au fun J V Z ab=>fin 2 rfl (ac0 (rT (Bh ?_))));exact bS I I I ⟨I,Z,J,V,_,true,I,I,by simp[dc.S5],fun _=>by rw[dc.SA,aab Y],ab⟩
 refine sk (acV (lit 1 #[.int .u8 (0:Nat)] I Q9 qk fun U=>qp 0 1 bs [0] I I I o (.inr ⟨0,I⟩) (pK U 0 Q9) Au fun N X aa ad=>fin 2 rfl (ac0 (Bh ?_))));exact bS I I I ⟨I,aa,N,X,_,true,I,I,by simp[dc.S5],fun _=>by rw[dc.SA,aaa Y],ad⟩
def LR{rb hb h s0 m}(e:(1:Int)<((br s0).1:Nat))(r:eU rb hb (od 170 (br s0).2) h):eU rb hb ((dc.Jj).get s0 m).1 h:=by
 grind[dc.get]
def LS{rb hb h s0 m}(e:¬(1:Int)<((br s0).1:Nat))(r:eU rb hb (br s0).2 h):eU rb hb ((dc.Jj).get s0 m).1 h:=by
 grind[dc.get]
def Nn{rb hb}(m p)(hi:In K (pt mb (mv m p) 34::R) hb)(N)(rd:eU rb hb N h)(hS:dF K m p):
  ai w0 233 [dp rb,dp mb] K (h::pt mb (mv m p) 34::R) (sB .Jj N m p rb mb hb R K):=by
 refine enter Tryz.func233 qk I I I (acY (cl 1 I (rZ hi N rd) ?_));rintro v6 K6 ad ⟨Z,rfl,rfl,rfl,J⟩;refine fin 1 I (th (jn (σ:=PH) (fun s=>[(1,dp mb),(4,.int .u8 ((br N).1:Nat))]) (fun s=>s::pt mb (mv m p) 34::R) (fun s=>eU rb hb ((dc.Jj).get N m).1 s) ?_ ?_))
 ·refine acY (aw 1 I fun b8 h8=>fin 0 I<|th (ax h8 I (fun e2=>?_) (fun e2=>?_)))
  ·refine rg (cl 1 I (uH (br N).2 170 J) ?_);rintro ae ab aa ⟨X,rfl,rfl,rfl,V⟩;exact fin 0 I (jx X (LR e2 V) sb I I)
  exact sk<|jx Z (LS e2 J) sb I I
 rintro Z J;refine rg (aw 2 I fun O Y=>?_)
 have U:O=((dc.Jj).get N m).2.Jj:=by
  have:O=true↔(br N).1=1:=Y.trans ⟨fun h=>by omega,fun h=>by omega⟩;simp only[dc.get];cases O<;>simp_all
 subst U;exact Ji 2 1 I I I I (fin 0 I (bZ I ⟨Cg _,Z,p,I,J,hS,fun _=>⟨I,I⟩⟩))
end
def yc{f m bs R}(h:¬f.S5 m):qq f m bs R K (.tuple Ik) K (em::R):=
 ⟨rfl,em,none,0,[],false,rfl,rfl,⟨fun h=>(by cases h),fun J=>absurd J h⟩,(fun h=>by cases h),aJ.nil _ _⟩
theorem fE.get{H e0}:∀{css:List (Ad)} {J:List ah} {i:Nat},fg (eI H) css J->i<eq J ->
  ∃ae ce,aj H ae (eq (J.getD i e0).data) ce 1 (bv (J.getD i e0).data)/\∀(j:Nat) v,((J.getD i e0).v ae ce).toList[j]?=some v->css.flatten[i*4+j]?=some v
 |[],[],i,_,h=>by simp at h
 |[],_::_,_,g,_=>g.elim
 |_::_,[],_,g,_=>g.elim
 |c::css,e::J,0,g,h=>by
  obtain⟨⟨ae,ce,rfl,x⟩,_⟩:=g
  grind
 |c::css,e::J,i+1,g,h=>by
  obtain⟨ae,ce,x,U⟩:=fE.get (e0:=e0) (i:=i) g.2 (by simpa using h);obtain⟨⟨N,O,rfl,_⟩,_⟩:=g
  grind[ah.v]
theorem vJ(a):∀(l r:List ah) (i:Nat),entsOK a i (l++r)↔entsOK a i l/\entsOK a (i+eq l) r
 |[],r,i=>by simp[entsOK]
 |e::l,r,i=>by
  show(e.ok/\e.idx=(a+i+1)%18446744073709551616/\a<=e.idx/\entsOK a (i+1) (l++r))↔(e.ok/\e.idx=(a+i+1)%18446744073709551616/\a<=e.idx/\entsOK a (i+1) l)/\entsOK a (i+(eq l+1)) r;rw[vJ a l r (i+1),show i+1+eq l=i+(eq l+1)from qo];simp[and_assoc]
theorem Av:∀l r:List ah,gZ (l++r)=gZ l++gZ r
 |[],r=>rfl
 |e::l,r=>by simp[Av,gZ]
theorem vD(a):∀(l:List ah) (i:Nat),entsOK a i l->(∀e∈l,e.idx<=ac/\e.term<=ac)->eq (gZ l)<=260*eq l
 |[],_,_,_=>by simp[gZ]
 |e::l,i,h,hb=>by
  obtain⟨J,_,_,N⟩:=h;have U:=ah.Rg e J (hb e Q8).1 (hb e Q8).2;have V:=vD a l (i+1) N (fun x O=>hb x (by simp[O]));have X:=dI (n:=eq e.bytes) qo;simp only[gZ,cJ,aaj,aas];omega
def Ax(l:List ah)(i)(h:i<eq l)(d):l.take (i+1)=l.take i++[l.getD i d]:=by
 simp_all
def Kx{a l i}(h:i<eq l)(d)(J:entsOK a 0 l):(l.getD i d).ok/\(l.getD i d).idx=(a+i+1)%18446744073709551616/\a<=(l.getD i d).idx:=by
 have O:=(vJ a (l.take i) (l.drop i) 0).1 (by rw[aaE];exact J);have N:=O.2;rw[aaI h]at N;have hl:eq (l.take i)=i:=by simp;omega
 obtain⟨U,V,X,_⟩:=N
 simp_all
def Hl{a}{l:List ah}{i}(h:i<eq l)(d)(h0:entsOK a 0 (l.take i))(J:(l.getD i d).ok)(O:(l.getD i d).idx=(a+i+1)%18446744073709551616)(N:a<=(l.getD i d).idx):entsOK a 0 (l.take (i+1)):=by
 rw[Ax l i h d,vJ];have hl:eq (l.take i)=i:=by simp;omega
 exact⟨h0,J,qo,N,trivial⟩
section
variable {w0:World}{K h:PH}{R:Ac}{mb:Nat}
def No(m p)(J:dF K m p):ai w0 234 [dp mb] K (pt mb (mv m p) 34::R) (sC .Jj m mb R K):=by
 exact enter Tryz.func234 qk I I I<|rg (Ji 3 0 I I I I<|fin 0 I (bZ I ⟨I,p,I,J⟩))
def Ny(m p)(J:dF K m p):ai w0 237 [dp mb] K (pt mb (mv m p) 34::R) (sC .Jg m mb R K):=by
 exact enter Tryz.func237 qk I I I<|rg (Ji 3 0 I I I I<|fin 0 I (bZ I ⟨I,{p with ae:=none,ce:=0},I,fE.nil _ _ _,J.2⟩))
def N1(m p)(J:dF K m p):ai w0 243 [dp mb] K (pt mb (mv m p) 34::R) (sC .Jq m mb R K):=by
 exact enter Tryz.func243 qk I I I<|rg (Ji 3 0 I I I I<|fin 0 I (bZ I ⟨I,{p with av:=none,cv:=0},I,J.1,aj.nil _ _ _ _,J.2.2⟩))
def NE(m p)(J:dF K m p):ai w0 246 [dp mb] K (pt mb (mv m p) 34::R) (sC .data m mb R K):=by
 exact enter Tryz.func246 qk I I I<|rg (Ji 3 0 I I I I<|fin 0 I (bZ I ⟨I,{p with ad:=none,cd:=0},I,J.1,J.2.1,aj.nil _ _ _ _⟩))
theorem AW(l):eq (ob (bG l))<=1:=by
 unfold bG
 split<;>simp[ob]
def NZ(m p ao c1 J)(o:aJ h ao (eq J) c1 5 1 (bv J))(hb:eq J<2^36)(hS:dF K m p)(Y:m.bd):
  ai w0 241 [.slice ao (eq J) c1,dp mb] K (h::pt mb (mv m p) 34::R) (qq .Jq m J (pt mb (mv m p) 34::R) K):=by
 have ae:=AW m.Jq;have ag:=Y.Un;refine enter Tryz.func241 qk I I I (acY (fin 2 I (acV (aX 3 1 I I I (bd 0 (.agg #[.slice p.av (eq m.Jq) p.cv]) I Aq (cl 0 I (tM p.av p.cv m.Jq (.inl I) hS.2.1 qo) ?_))))));rintro ak ab aa ⟨rfl,g,ad,cg,rfl,rfl,og⟩;exact fin 5 I (acV (qp 2 1 J (ob (bG m.Jq)) I I I o (.inr ⟨0,I⟩) og.Ni qo fun N U V Z=>aw 1 I fun O X=>fin 2 I (ac0 (Bh (bS I I I ⟨I,V,N,U,_,O,I,I,X.trans ng,fun _=>I,by exact Z⟩)))))
def N0{rb hb}(m p)(hi:In K (pt mb (mv m p) 34::R) hb)(s)(rd:eU rb hb s h)(Z:dF K m p):
  ai w0 242 [dp rb,dp mb] K (h::pt mb (mv m p) 34::R) (sB .Jq s m p rb mb hb R K):=by
 have hk:=tL s;refine enter Tryz.func242 qk I I I (acY (cl 1 I (rZ hi s rd) ?_));rintro v8 K8 ag ⟨h6,rfl,rfl,rfl,X⟩;refine lit 0 #[.int .u8 ((br s).1:Nat)] I Q9 qk fun Y=>cl 0 I (tR (some ⟨Y,0,none⟩) 1 [UInt8.ofNat (br s).1] (.inr ⟨0,I⟩) (pK Y _ hk) Q8) ?_;rintro ak ad aa ⟨rfl,gv,O,cv,rfl,rfl,ov⟩;refine al 3 (.agg Ij) I qk fun b4=>?_;refine bA 0 0 I I qk I I ?_;refine fin 1 I (acV (cl 2 I (Er 3 I (uH (br s).2 _ X)) ?_));rintro am ae ab ⟨U,rfl,rfl,rfl,N⟩;exact fin 0 I (acX (aX 2 0 I I I (Ji 2 4 I I I I (fin 0 I (Bh (Ei fun K' J V=>Bh (bZ I ⟨J,U,{p with av:=O,cv:=cv},I,N,⟨(Z.le J).1,ov.Ni.le V,(Z.le J).2.2⟩,fun _=>⟨I,I⟩⟩)))))))
def NC(m p ao c1 bs)(o:aJ h ao (eq bs) c1 5 1 (bv bs))(hb:eq bs<2^36)(hS:dF K m p)(aa:m.bd):
  ai w0 244 [.slice ao (eq bs) c1,dp mb] K (h::pt mb (mv m p) 34::R) (qq .data m bs (pt mb (mv m p) 34::R) K):=by
 have ad:=aa.TQ;refine enter Tryz.func244 qk I I I (acY (fin 2 I (th (sq (bO [pt mb (mv m p) 34] 31 [0,2,4,6,8,12,14,16,18,20,22,11,24,26,28,30,32,34,36,38,40,42,44,46,48,50,52,54,56,58,60] Q8 qk qk (bT qk 4 0 I I I (bT qk 3 0 I I I (dP qk 1 ((eq m.data:Int)<=256) I Q8 (fun h1=>?_) (fun h1=>?_)))))))))
 ·refine aB qk 0 I (cl 0 I (pE ao c1 bs p.ad p.cd m.data o (.inl I) hS.2.2 qo qo) ?_);rintro ab X V ⟨O,rfl,rfl,J,N,rfl,U⟩;exact aP Q8 I (bT qk 4 0 I I I (bT qk 3 0 I I I (bT qk 3 0 I I I (bF qk 1 I I (dU qk 0 (m.off<=IntKind.i64.wrap (m.whole-eq m.data)) I Q8 fun Y Z=>aI qk 3 I (ac0 (bS I I I ⟨I,O,J,N,_,Y,I,I,Z.trans ⟨fun h=>⟨qo,h⟩,fun h=>h.2⟩,fun _=>I,U⟩)))))))
 refine aB qk 0 I (cl 0 I (pE ao c1 bs p.ad p.cd m.data o (.inl I) hS.2.2 qo qo) ?_);rintro ab X V ⟨O,rfl,rfl,J,N,rfl,U⟩;exact aP Q8 I (aI qk 19 I (ac0 (bS I I I ⟨I,O,J,N,_,false,I,I,⟨fun h=>(by cases h),fun h=>absurd h.1 qo⟩,fun _=>I,U⟩)))
def ND{rb hb}(m p)(hi:In K (pt mb (mv m p) 34::R) hb)(s)(hl:eq s.1<2^40)(rd:eU rb hb s h)(V:dF K m p):
  ai w0 245 [dp rb,dp mb] K (h::pt mb (mv m p) 34::R) (sB .data s m p rb mb hb R K):=by
 refine enter Tryz.func245 qk I I I (rg (cl 2 I (p7 hi 256 qo s hl rd) ?_));rintro v6 K6 Z ⟨Y,aa,rfl,rfl,hx,N,X,rfl,rfl,ox,U⟩;exact Ji 2 2 I I I I (fin 0 I (Ei fun K' J O=>bZ I ⟨J,Y,{p with ad:=N,cd:=X},I,U,⟨(V.le J).1,(V.le J).2.1,ox.Ni.le O⟩,fun _=>⟨I,I⟩⟩))
def Nw(m p ao c1 N)(o:aJ h ao (eq N) c1 5 1 (bv N))(hb:eq N<2^36)(hS:dF K m p)(U:m.bd):
  ai w0 235 [.slice ao (eq N) c1,dp mb] K (h::pt mb (mv m p) 34::R) (qq .Jg m N (pt mb (mv m p) 34::R) K):=by
 have bo:=U.Tk;have bp:ac=18446744073709551615:=rfl;have aV:=U.idx;have hu:=dI (n:=eq m.Jg) qo;obtain⟨⟨css,xE,hE⟩,bi⟩:=hS;refine enter Tryz.func235 qk I I I (acY (fin 2 I (acV (aX 4 1 I I I (ar 1 I (bL qo) (cl 0 I (kU ao c1 N (eq m.Jg) o qo qo) ?_))))));rintro bB aq a0 ⟨aA,rfl,rfl,aa,ay,rfl,aS⟩;refine fin 1 I (acU (aX 3 1 I I I (fin 2 I (th (bk (loop (σ:=Nat×Ab×Nat×PH) (fun s=>[(0,.slice s.2.1 (eq (N++aK (eq m.Jg)++gZ (m.Jg.take s.1))) s.2.2.1),(1,dp mb),(21,.slice p.ae (eq m.Jg) p.ce),(22,.int .i64 (eq m.Jg:Nat)),(23,.int .i64 (s.1:Nat))]) (fun _=>aq) (fun s=>s.2.2.2::pt mb (mv m p) 34::R) (fun s=>s.1<=eq m.Jg/\entsOK m.idx 0 (m.Jg.take s.1)/\aJ s.2.2.2 s.2.1 (eq (N++aK (eq m.Jg)++gZ (m.Jg.take s.1))) s.2.2.1 5 1 (bv (N++aK (eq m.Jg)++gZ (m.Jg.take s.1)))) (fun s=>eq m.Jg-s.1) (0,aa,ay,aA) ⟨aad _,trivial,by simpa[gZ]using aS⟩ (by simp only[gZ,abS,aaw];exact sb) I I ?_))))))
 rintro⟨i,ao,c1,h⟩ ⟨hi,Y,o⟩;dsimp only at hi Y o⊢;refine acY (aw 0 I fun a6 aE=>?_);have bm:=vD m.idx _ 0 Y (fun e he=>⟨(U.Jg e (aaS he)).1,(U.Jg e (aaS he)).2.1⟩);have bq:eq (m.Jg.take i)<=eq m.Jg:=by simp;omega
 have aY:eq (N++aK (eq m.Jg)++gZ (m.Jg.take i))<137438953472:=by simp only[aaj];omega
 refine fin 0 I<|th (sq<|ax aE I (fun e2=>?_) (fun e2=>?_))
 ·have O:i<eq m.Jg:=qo
  refine sk (th (sq (bk (acY ?_))));obtain⟨ae,ce,xd,X⟩:=fE.get (e0:=ah.zero) hE O;have ak:m.Jg.getD i ah.zero∈m.Jg:=by simp[List.getD,O]
  have V:=U.Jg _ ak;have an:=Ax m.Jg i O ah.zero;have Z:=fun h=>Kx (a:=m.idx) O ah.zero h;have am:=fun h1 h2 h3=>Hl (a:=m.idx) O ah.zero Y h1 h2 h3;generalize m.Jg.getD i ah.zero=e at xd X ak V an Z am;refine dZ 1 i I I xE O Q9 fun a5 ag=>fu 0 [.int .u64 (e.idx:Nat),.int .u64 (e.term:Nat),.int .i64 e.kind,.slice ae (eq e.data) ce] I qk (.inl I) (fun j v hv=>?_) ?_
  ·obtain⟨a',q1,q2⟩:=xE.2.2 (i*4+j) v (X j v hv);rw[ag]at q1;cases q1;rw[Deep.add_add];exact q2
  refine al 0 (.agg Il) I qk fun b7=>?_;refine bA 1 0 I I qk I I ?_;refine fin 0 I (acV (fI 0 0 I I qk (cl 0 I (yd e ae ce V.1 V.2.1 (.inl I) xd qo) ?_)));rintro bV a3 a1 ⟨rfl,g,ad,cg,rfl,rfl,og⟩;refine fin 5 I (th (jn (σ:=Unit) (fun s=>[(0,.slice ao (eq (N++aK (eq m.Jg)++gZ (m.Jg.take i))) c1),(1,dp mb),(8,.slice ad (eq (ob (iJ e))) cg),(21,.slice p.ae (eq m.Jg) p.ce),(22,.int .i64 (eq m.Jg:Nat)),(23,.int .i64 i)]) (fun s=>g::pt b7 #[.int .u64 (e.idx:Nat),.int .u64 (e.term:Nat),.int .i64 e.kind,.slice ae (eq e.data) ce] 51::h::pt mb (mv m p) 34::R) (fun s=>e.ok/\e.idx=(m.idx+i+1)%18446744073709551616/\m.idx<=e.idx) ?_ ?_))
  ·refine sq<|bO [pt b7 #[.int .u64 (e.idx:Nat),.int .u64 (e.term:Nat),.int .i64 e.kind,.slice ae (eq e.data) ce] 51,pt mb (mv m p) 34] 24 [0,2,4,6,8,10,12,14,16,18,20,22,24,26,28,30,32,34,36,38,40,42,44,46] Q8 qk qk (dP qk 1 (ec (iJ e)≠0) I Q8 (fun h3=>?_) (fun h3=>?_))
   ·refine aI qk 22 I (th (dk I (acY (fin 2 I (ac0 (jr (rB (rT (rT (rB (rT (Bh (Bh (Bh (Ev ?_)))))))))))))));exact bS I I I (yc fun hp=>h3 (by rw[iJ,aab (Z hp.1).1];rfl))
   have J:e.ok:=aag.1 fun hn=>h3 (by rw[iJ,aaa hn];decide);refine bT qk 2 0 I I I (bT qk 3 1 I I I (bF qk 1 I (bL qo) (bF qk 0 I (v':=.int .u64 (((m.idx+i)%18446744073709551616:Nat):Int)) (by rw[<-nC];rfl) (bF qk 0 rfl (v':=.int .u64 (((m.idx+i+1)%18446744073709551616:Nat):Int)) (by rw[show(m.idx+i+1)%18446744073709551616=((m.idx+i)%18446744073709551616+1)%18446744073709551616 from qo,<-nC];rfl) (dP qk 0 (((e.idx:Nat):Int)≠(((m.idx+i+1)%18446744073709551616:Nat):Int)) rfl Q8 (fun h4=>?_) (fun h4=>?_))))))
   ·exact aI qk 10 I<|th (dk I<|acY<|fin 2 I (ac0 (jr<|rB (rT<|rT (rB<|rT (Bh<|Bh (Bh<|Ev (bS I I I (yc fun hp=>h4<|abm.2 (Z hp.1).2.1)))))))))
   refine bT qk 3 0 I I I<|bT qk 3 1 I I I (dU qk 0 (((e.idx:Nat):Int)<(m.idx:Nat)) I Q8 fun bb aF=>aI qk 1 I<|th (ax aF I (fun e5=>?_) (fun e5=>?_)))
   ·exact acY (fin 2 I<|ac0<|jr (rB<|rT (rT<|rB (rT<|Bh (Bh<|Bh (Ev<|bS I I I (yc fun hp=>absurd (Z hp.1).2.2 qo)))))))
   exact sk<|jx () ⟨J,abm.1 (aag.1 h4),qo⟩ sb I I
  rintro _ ⟨J,aN,aO⟩;have aR:ob (iJ e)=e.bytes:=by rw[iJ,aab J];rfl
  rw[aR]at og⊢;have aT:=ah.Rg e J V.1 V.2.1;refine rg (cl 2 I (Er 2 I (pE ao c1 _ ad cg e.bytes o (.inr ⟨0,I⟩) og.Ni qo qo)) ?_);rintro b0 a4 a2 ⟨aD,rfl,rfl,ab,az,rfl,ap⟩;have ee:N++aK (eq m.Jg)++gZ (m.Jg.take i)++cJ e.bytes=N++aK (eq m.Jg)++gZ (m.Jg.take (i+1)):=by rw[an,Av];simp[gZ]
  rw[ee]at ap⊢;exact fin 1 I (bl (th (Bg (Bg (rg (ar 0 I (ba qo) (fin 1 I (bn (x:=(i,ao,c1,h)) (i+1,ab,az,aD) sb I I ⟨qo,am J aN aO,ap⟩ (by(try dsimp only);omega)))))))))
 obtain rfl:i=eq m.Jg:=qo
 refine ex (xt (xt (xb (th (sq (bO [pt mb (mv m p) 34] 9 [0,2,4,6,8,10,12,14,16] Q8 qk qk ?_))))));rw[aaA (aac _)]at o Y⊢;exact bT qk 4 0 I I I (dU qk 1 ((eq m.Jg:Int)<=8) I Q8 fun av aL=>aI qk 2 I (ac0 (bS I I I ⟨I,h,ao,c1,_,av,I,I,aL.trans ⟨fun h=>⟨Y,qo⟩,fun h=>by have:=h.2;omega⟩,fun _=>by simp[dc.SA],o⟩)))
end
theorem fg.len{α R}:∀{cs:List (Ad)} {xs:List α},fg R cs xs->eq cs=eq xs
 |[],[],_=>rfl
 |_::_,_::_,g=>by simp[fg.len g.2]
 |[],_::_,g=>g.elim
 |_::_,[],g=>g.elim
def Nx{h:PH}{R mb}{rb ii:Nat}{hb}(m p)(h0:m.Jg=[])(ay:p.ae=none)(av:p.ce=0)(hR:R[ii]?=some hb)(s)(hl:eq s.1<2^40)(rd:eU rb hb s h)(hS:dF K m p):
  ai w0 236 [dp rb,dp mb] K (h::pt mb (mv m p) 34::R) (sB .Jg s m p rb mb hb R K):=by
 obtain⟨mk,mf,mt,am,mi,ml,mc,mr,mg,me,mo,mw,an,md⟩:=m;obtain⟨bi,bm,Z,ab,Y,aa⟩:=p;dsimp only at h0 ay av;subst h0 ay av;have hN:=ia 8 s;have a5:=kS 8 s;refine enter Tryz.func236 qk I I I (acY (cl 1 I (ie (.inr ⟨ii+1,hR⟩) 8 s hl rd) ?_));rintro v7 K7 a6 ⟨h7,rfl,rfl,rfl,aR⟩;refine fin 1 I (th (bk (Es ?_)))
 refine loop (σ:=Nat×Rd×List ah×PH×PH×PH×Ab×Nat×List (Ad)) (fun s'=>[(0,dp rb),(1,dp mb),(7,.int .u64 ((aG 8 s).1:Nat)),(8,.int .u64 (s'.1:Nat))]) (fun s=>s.2.2.2.1) (fun s=>s.2.2.2.2.2.1::s.2.2.2.2.1::pt mb (mv ⟨mk,mf,mt,am,mi,ml,mc,mr,mg,s.2.2.1,mo,mw,an,md⟩ ⟨s.2.2.2.2.2.2.1,s.2.2.2.2.2.2.2.1,Z,ab,Y,aa⟩) 34::R)
  (fun s'=>Le K7 s'.2.2.2.1/\s'.1<=(aG 8 s).1/\nf ((aG 8 s).1-s'.1) s'.2.1 s'.2.2.1=nf (aG 8 s).1 (aG 8 s).2 []/\eU rb hb s'.2.1 s'.2.2.2.2.1/\aJ s'.2.2.2.2.2.1 s'.2.2.2.2.2.2.1 (eq s'.2.2.1) s'.2.2.2.2.2.2.2.1 51 4 s'.2.2.2.2.2.2.2.2.flatten/\fg (eI s'.2.2.2.1) s'.2.2.2.2.2.2.2.2 s'.2.2.1/\eq s'.2.1.1<2^40/\eq s'.2.2.1=s'.1) (fun s'=>(aG 8 s).1-s'.1)
  (0,(aG 8 s).2,[],K7,h7,em,none,0,[]) ⟨Cg _,aad _,rfl,aR,aJ.nil _ _,trivial,aC,rfl⟩ sb rfl rfl ?_
 rintro⟨j,s',l,K',h,g,ao,cap,css⟩ ⟨X,hj,V,rd,o,hA,az,aL⟩;dsimp only at X hj V rd o hA az aL⊢;refine acY (aw 0 I fun b9 h9=>fin 0 I (th (sq (ax h9 I (fun e2=>?_) (fun e2=>?_)))))
 ·have a4:j<(aG 8 s).1:=qo
  refine sk<|th (sq<|bk (acY ?_))
  have ae:nf ((aG 8 s).1-(j+1)) (od (ec (gD (bW 512 s').1)) (bW 512 s').2) (l++[(gD (bW 512 s').1).getD ah.zero])=nf (aG 8 s).1 (aG 8 s).2 []:=by
   rw[<-V,show(aG 8 s).1-j=((aG 8 s).1-(j+1))+1 from qo]
   rfl
  have a1:=we 512 s';have a2:=fg.len hA;refine cl 1 I (Ed 1 I (p7 (.inr ⟨ii+2,hR⟩) 512 qo s' az rd)) ?_;rintro bo aY aS ⟨h4,bb,rfl,rfl,hx,aE,cx,rfl,rfl,ox,aN⟩;refine cl 0 I (EA aE cx (bW 512 s').1 (.inr ⟨0,I⟩) ox.Ni qo) ?_;rintro bp a0 aT ⟨rfl,ge,J,ce,rfl,rfl,oe⟩;generalize a3:(gD (bW 512 s').1).getD ah.zero=e at oe ae⊢;refine al 3 (.agg Il) I qk fun b4=>?_;refine bA 0 0 I I qk I I ?_;refine fin 1 I (acV (cl 2 I (Er 4 I (uH (bW 512 s').2 _ aN)) ?_));rintro bq aD aV ⟨h5,rfl,rfl,rfl,aO⟩;refine fin 0 I (th (bO [pt b4 (e.v J ce) 51,pt mb (mv ⟨mk,mf,mt,am,mi,ml,mc,mr,mg,l,mo,mw,an,md⟩ ⟨ao,cap,Z,ab,Y,aa⟩) 34] 10 [0,2,4,6,8,10,13,15,16,18,21] Q8 qk qk (bR qk 4 1 I qk I I (ln qk 0 0 I qk I qk (aB qk 0 I (lit 0 (e.v J ce) I Q9 qk fun aF=>aP Q8 I (aB qk 0 I (app 0 4 I I o (.inr ⟨0,I⟩) (aJ.Re (b:=aF) (c:=e.v J ce) (e:=51) (n:=1) (size:=4) I At).Ni I Q9 (by simp[ah.v];exact⟨I,I,I,I⟩) aC As fun O ag aq aA=>aP Q8 rfl (aB qk 2 rfl (Ji 0 6 rfl rfl rfl rfl (bQ (.inl rfl) (aI qk 0 rfl (bl (Bh (Bh (Ei fun K2 N ak=>Bh (acX ?_)))))))))))))))))
  have ap:css.flatten++(e.v J ce).toList=(css++[(e.v J ce).toList]).flatten:=by simp
  have ad:eq l+1=eq (l++[e]):=by simp
  rw[ap,ad]at aA;refine ar 0 I (bL qo) (fin 1 I ?_);exact bn (x:=(j,s',l,aD,h,g,ao,cap,css)) (j+1,od (ec (gD (bW 512 s').1)) (bW 512 s').2,l++[e],K2,h5,aq,O,ag,css++[(e.v J ce).toList]) ⟨I,I,I,I,trivial⟩ I (congrArg (fun k:Nat=>aq::h5::pt mb ((mv ⟨mk,mf,mt,am,mi,ml,mc,mr,mg,[],mo,mw,an,md⟩ ⟨O,ag,Z,ab,Y,aa⟩).setIfInBounds 9 (.slice O k ag)) 34::R) ad) ⟨X.trans N,qo,ae,aO,aA,fg.snoc ⟨J,ce,I,oe.Ni.le ak⟩ (fg.imp (fun _ _=>eI.le N) hA),by simp only[od];omega,by simp;omega⟩ (by(try dsimp only);omega)
 obtain rfl:j=(aG 8 s).1:=qo
 refine ex (xt (xt (xb ?_)));rw[ack]at V;have U:(s',l)=nf (aG 8 s).1 (aG 8 s).2 []:=V;exact Ei fun K2 N ak=>bZ I ⟨X.trans N,h,⟨ao,cap,Z,ab,Y,aa⟩,by simp only[dc.get];rw[<-U],by simp only[dc.get];rw[<-U];exact rd,by simp only[dc.get];rw[<-U];exact⟨⟨css,o.Ni.le ak,fg.imp (fun _ _=>eI.le N) hA⟩,(hS.le (X.trans N)).2⟩,fun h=>absurd I h⟩
end
section
open Go.En Go.ChangeShapes Go.WideShapes Go.ChangeAt Go.RowKit Go.Deep
set_option maxRecDepth 100000
section opens
variable {H:Type}{enc:TypeId×Value->H}{W:World}
theorem CJ{α}:∀xs:List α,gK (fun _=>1) xs=eq xs
 |[]=>rfl
 |x::r=>by rw[gK,CJ r,aas];omega
theorem DM{α}(m)(hm:∀x,0<m x):∀xs:List α,eq xs<=gK m xs
 |[]=>aad _
 |x::r=>by have:=DM m hm r;have:=hm x;simp only[gK,aas];omega
def Oi{cs n}(h:RI .u64 cs n):cs=[.int .u64 (n.toNat:Nat)]/\n.toNat<=ac:=by
 obtain⟨rfl,O⟩:=h;have N:0<=n/\n<=18446744073709551615:=by simp_all[Lit.wf,IntKind.min,IntKind.max,IntKind.signed,IntKind.bits]
 have J:ac=18446744073709551615:=rfl
 grind
def pU{cs n}(h:RI .i64 cs n):cs=[.int .i64 n] /\ -9223372036854775808<=n/\n<=9223372036854775807:=by
 obtain⟨rfl,J⟩:=h;exact⟨I,by simp_all[Lit.wf,IntKind.min,IntKind.signed,IntKind.bits]⟩
theorem Cv:∀{css:List (Ad)} {xs:Ae},fg (RI .i64) css xs->css.flatten=iv xs/\∀v∈xs,-9223372036854775808<=v/\v<=9223372036854775807
 |[],[],_=>⟨rfl,Q8⟩
 |c::cs,x::xs,⟨N,O⟩=>by
  obtain⟨rfl,hb⟩:=pU N;obtain⟨J,U⟩:=Cv O;refine⟨by rw[abF,J];simp[iv],fun v hv=>?_⟩
  grind
 |[],_::_,g=>g.elim
 |_::_,[],g=>g.elim
def Ln{cs xs}(h:sK W 1 (RI .i64) cs xs):∃ao cap,cs=[.slice ao (eq xs) cap]/\aj (hp W) ao (eq xs) cap 1 (iv xs)/\∀v∈xs,-9223372036854775808<=v/\v<=9223372036854775807:=by
 obtain⟨ao,cap,css,rfl,x,J⟩:=h;obtain⟨N,O⟩:=Cv J
 grind
def mP{α β:Type}(m1:α->Nat)(m2:β->Nat)(x:α×β):Nat:=m1 x.1+m2 x.2
def mS{α:Type}(m:α->Nat)(x:α):Nat:=m x+1
def mL{α:Type}(m:α->Nat)(xs:List α):Nat:=gK m xs+1
def mU{α:Type}(_:α):Nat:=1
def mZ(_:Unit):Nat:=0
def oq{α β off sz1 sz2 f fs}{J:Ad->α->Prop}{N:Ad->β->Prop}{m1 m2}(O:f.offset=off)(U:gJ enc P W f.type sz1 J m1)(V:kw enc P W (off+sz1) fs sz2 N m2):
  kw enc P W off (f::fs) (sz1+sz2) (RP J N) (mP m1 m2):=kw.cons O U V
def oM{t k}(ht:P.underlying t=some (.int k))(J:P.cellsOf t=1):gJ enc P W t 1 (RI k) mU:=gJ.int ht J
def Gw{off}:kw enc P W off [] 0 R0 mZ:=kw.nil
def E8{α t e sz}{R:Ad->α->Prop}{m}(ht:P.underlying t=some (.slice e))(J:P.cellsOf t=1)(o:gJ enc P W e sz R m):gJ enc P W t 1 (sK W sz R) (mL m):=gJ.slice ht J o
def DO{α t sz fs}{R:Ad->α->Prop}{m}(ht:P.underlying t=some (.struct fs))(J:P.cellsOf t=sz)(o:kw enc P W 0 fs.toList sz R m):gJ enc P W t sz R (mS m):=gJ.struct ht J o
def Ob{α}(xs:List α):gK mU xs=eq xs:=CJ xs
end opens
end
section
attribute [local irreducible] Code.wp wpList Calls
def ke{κ ν:Type}(enc:κ->Value)(encv:ν->Value)(h hi:PH)(b r:Nat)(m:List (κ×ν))(ks:List κ):Prop:=
 ∃(N:Array MapEntry) (c J:Nat) (seen:Array Nat) (last:Nat),h=sg b (.map N c)/\N.toList.map (fun e=>(e.key,e.val))=m.map (fun x=>(enc x.1,encv x.2))/\(N.toList.map (·.born)).Pairwise (· < ·)/\(∀e∈N.toList,e.born<c) /\
  hi=sg r (.mapIter (some b) J seen last)/\(∀e∈N.toList,e.born<J)/\(∀e∈N.toList,e.born<last)/\∀(i:Nat) e x,N[i]?=some e->m[i]?=some x->(e.born∈seen↔x.1∈ks)
def vz{κ ν:Type}(enc:κ->Value)(encv:ν->Value)(h hi:PH)(b r:Nat)(m:List (κ×ν))(ks:List κ)(k:κ)(v:ν):Prop:=
 ke enc encv h hi b r m ks/\∃(N:Array MapEntry) (c J:Nat) (seen:Array Nat) (q:Nat) (e:MapEntry),h=sg b (.map N c)/\(N.toList.map (·.born)).Pairwise (· < ·)/\hi=sg r (.mapIter (some b) J seen c)/\seen.back?=some e.born/\N[q]?=some e/\e.key=enc k/\e.val=encv v
section
variable {κ ν:Type} [DecidableEq κ] {enc:κ->Value}{encv:ν->Value}{h hi:PH}{b r:Nat}{m:List (κ×ν)}{ks:List κ}
omit [DecidableEq κ] in
theorem ke.map(x:ke enc encv h hi b r m ks):dH enc encv h b m:=by
 obtain⟨N,c,J,seen,last,O,U,V,X,_⟩:=x;exact⟨N,c,O,U,V,X⟩
omit [DecidableEq κ] in
theorem IV{J:Array MapEntry}(N:J.toList.map (fun e=>(e.key,e.val))=m.map (fun x=>(enc x.1,encv x.2))){i:Nat}{e:MapEntry}(U:J[i]?=some e):∃x,m[i]?=some x/\e.key=enc x.1/\e.val=encv x.2:=by
 have O:=congrArg (fun l=>l[i]?) N
 grind
omit [DecidableEq κ] in
theorem IU{J:Array MapEntry}(N:J.toList.map (fun e=>(e.key,e.val))=m.map (fun x=>(enc x.1,encv x.2))){i:Nat}{x:κ×ν}(U:m[i]?=some x):∃e,J[i]?=some e:=by
 have O:=congrArg List.length N;simp only[aaM,abW]at O;have V:=(aav.1 U).1
 simp_all
omit [DecidableEq κ] in
theorem Ll{w:World}(hI:ke enc encv h hi b r m ks)(hnd:(m.map (·.1)).Nodup)(hb:∀b o,h b=some o->w.heap[b]?=some o)(hr:∀b o,hi b=some o->w.heap[b]?=some o)(ty:Nat):
  (∃k v w1 o,(w1=w\/w1=w.drew)/\(k,v)∈m/\k∉ks/\(Instr.next (Rp r) false ty).run P w=.ok (.tuple #[.bool true,enc k,encv v]) (w1.putObj r o)/\vz enc encv h (sg r o) b r m (ks++[k]) k v) \/
  (∃w1,(w1=w\/w1=w.drew)/\(Instr.next (Rp r) false ty).run P w=.ok (.tuple Is) w1/\∀x∈m,x.1∈ks):=by
 obtain⟨es,c,since,seen,last,rfl,h2,h3,h4,rfl,h5,h6,h7⟩:=hI;have hbm:w.heap[b]?=some (.map es c):=hb b _ Q8;have hri:w.heap[r]?=some (.mapIter (some b) since seen last):=hr r _ Q8
 have hset:∀(w1:World) (o:Obj),(w1=w\/w1=w.drew)->(setObj r o).run P w1=.ok () (w1.putObj r o):=fun w1 o hw=>by
  rcases hw with rfl|rfl
  ·simp[setObj,Sem.run,hri,World.putObj]
  have hri2:w.drew.heap[r]?=some (.mapIter (some b) since seen last):=hri;simp[setObj,Sem.run,hri2,World.putObj]
 have hall:(!seen.isEmpty&&!es.isEmpty&&es.all (·.born>=last))=false:=by
  by_cases he:es.isEmpty=true
  ·simp[he]
  have hz:0<es.size:=by
   grind
  grind
 have hnew:(es.filter fun e=>!seen.contains e.born).filter (fun e=>decide (e.born>=since))=#[]:=by
  apply Array.filter_eq_empty_iff.2
  simp_all
 obtain⟨left,hleft⟩:=a9 (es.filter fun e=>!seen.contains e.born)
 have hold:left.filter (fun e=>decide (e.born<since))=left:=by
  apply Array.filter_eq_self.2
  simp_all
 obtain⟨Kf,hcand⟩:∃Kf:Array (Option MapEntry),Kf=(if left.isEmpty then #[none]else #[])++(left++#[]).map some:=⟨_,rfl⟩
 have hsz:0<Kf.size:=by
  rw[hcand]
  by_cases he:left.isEmpty=true
  all_goals grind
 obtain⟨i,w1,hw1,hi1,hch⟩:∃i w1,(w1=w\/w1=w.drew)/\i<Kf.size/\(choose (.mapNext Kf.size)).run P w=.ok i w1:=by
  by_cases hf:Kf.size<=1
  ·exact⟨0,w,.inl I,hsz,by simp[choose,Sem.run,Question.forced,hf]⟩
  refine⟨(Question.mapNext Kf.size).cut (w.tape w.drawn (.mapNext Kf.size)),w.drew,.inr I,abR _ hsz,?_⟩;simp[choose,Sem.run,Question.forced,hf]
 have hgm:(getObj b).run P w1=.ok (.map es c) w1/\True:=⟨by rcases hw1 with rfl|rfl<;>exact lz hbm,trivial⟩;have hgo:(getObj r).run P w=.ok (.mapIter (some b) since seen last) w:=by simp[getObj,Sem.run,hri]
 have hrun:(Instr.next (.pointer (some ⟨r,0,none⟩)) false ty).run P w=(match Kf[i]? with
   |some (some e)=>(do setObj r (.mapIter (some b) since (seen.push e.born) c);pure (.tuple #[.bool true,e.key,e.val]):Sem Value)
   |some none=>pure (.tuple #[.bool false])
   | none => stuck "Next: no such candidate").run P w1 := by
  unfold Instr.next;simp only[aax,hgo,Result.andThen,lz hbm,hall];have hnew2:left.filter (fun e=>decide (e.born>=since))=#[]:=by rw[hleft];exact hnew
  simp only[acF,if_false,<-hleft,hold,hnew2,<-hcand];rw[aax,hch]
  rfl
 have hlast:∀e∈es.toList,e.born<c:=h4
 by_cases he:left.isEmpty=true
 ·right
  have hc1:Kf=#[none]:=by
   simp_all
  refine⟨w1,hw1,?_,fun x hx=>?_⟩
  ·rw[hrun];have:i=0:=by rw[hc1]at hi1;simpa using hi1
   subst this;rw[hc1]
   rfl
  obtain⟨q,hq⟩:=abe.1 hx;obtain⟨e,hee⟩:=IU h2 hq;refine(h7 q e x hee hq).1 ?_;have hem:e∈es:=Array.mem_of_getElem? hee
  have hno:e∉left:=by
   grind
  grind
 left
 have hc1:Kf=left.map some:=by rw[hcand,aaa he];simp
 have hil:i<left.size:=by rw[hc1]at hi1;simpa using hi1
 have hci:Kf[i]?=some (some left[i]):=by rw[hc1];simp[hil]
 obtain⟨e0,he0⟩:=a9 (left[i]);have hmem:e0∈left:=by rw[he0];simp
 rw[<-he0]at hci;rw[hleft,Array.mem_filter]at hmem;obtain⟨q,hq⟩:=Array.mem_iff_getElem?.1 hmem.1;obtain⟨x,hx,hk,hv⟩:=IV h2 hq;have hxm:x∈m:=aam hx
 have hnks:x.1∉ks:=fun hc=>by
  grind
 refine⟨x.1,x.2,w1,.mapIter (some b) since (seen.push e0.born) c,hw1,hxm,hnks,?_,⟨es,c,since,seen.push e0.born,c,I,h2,h3,h4,I,h5,h4,?_⟩,es,c,since,seen.push e0.born,q,e0,I,h3,I,Q8,hq,hk,hv⟩
 ·rw[hrun,hci];simp only[aax,hset w1 _ hw1,Result.andThen];rw[hk,hv]
  rfl
 intro j e y hje hjy;rw[Array.mem_push,aao,aaC,h7 j e y hje hjy]
 by_cases hjq:j=q
 ·grind
 have hborn:e.born≠e0.born:=by
  have hp:=abD.1 h3;obtain⟨hj1,hj2⟩:=ab8.1 hje;obtain⟨hq1,hq2⟩:=ab8.1 hq;rcases Nat.lt_or_gt_of_ne hjq with h|h
  ·have:=hp j q (by simpa using hj1) (by simpa using hq1) h;simp[hj2,hq2]at this;omega
  have:=hp q j (by simpa using hq1) (by simpa using hj1) h;simp[hj2,hq2]at this;omega
 have hkey:y.1≠x.1:=by
  intro hc;have hp:=abD.1 hnd
  grind
 simp[hborn,hkey]
end
section rules
variable {P:Program}{T:be}{w0:World}{ops:Ai}{Q:An}{rest rest':Aj}{n:Nat}{l l':Sl}{K:PH}{hs:Ac}
variable {κ ν:Type} [DecidableEq κ] {enc:κ->Value}{encv:ν->Value}{h hi:PH}{b r:Nat}{m:List (κ×ν)}{ks:List κ}
def uU(T:be)(ops:Ai)(n k:Nat)(rest:Aj)(l:Sl):Option (Nat×Oper×Nat×Value×Aj×Sl):=
 match il T ops n k rest l with
 |some (d,o,r,l')=>match o.op with
  |.range t x=>match ev l' x with
   |some u=>some (d,o,t,u,r,l')
   |_=>none
  |_=>none
 |none=>none
def B5{k d t o u}(h:uU T ops n k rest l=some (d,o,t,u,rest',l')):il T ops n k rest l=some (d,o,rest',l')/\∀a,Ag n l' a->execOp a.eval o=(do let x <- Instr.range t u;pure (.value x)):=by
 unfold uU at h
 split at h
 ·rename_i U X r V ho
  split at h
  ·rename_i Y x J
   split at h
   ·rename_i Z O;simp only[aae,aah]at h;obtain⟨rfl,rfl,rfl,rfl,rfl,rfl⟩:=h;exact⟨ho,fun a N=>by simp only[execOp,J,N.ev O]⟩
   simp at h
  simp at h
 simp at h
def uS(T:be)(ops:Ai)(n k:Nat)(rest:Aj)(l:Sl):Option (Nat×Oper×Value×Bool×Aj×Sl):=
 match il T ops n k rest l with
 |some (d,o,r,l')=>match o.op with
  |.next x s=>match ev l' x with
   |some u=>some (d,o,u,s,r,l')
   |_=>none
  |_=>none
 |none=>none
def B3{k d o u s}(h:uS T ops n k rest l=some (d,o,u,s,rest',l')):il T ops n k rest l=some (d,o,rest',l')/\∀a,Ag n l' a->execOp a.eval o=(do let x <- Instr.next u s o.type;pure (.value x)):=by
 unfold uS at h
 split at h
 ·rename_i U X r V ho
  split at h
  ·rename_i x s' J
   split at h
   ·rename_i Y O;simp only[aae,aah]at h;obtain⟨rfl,rfl,rfl,rfl,rfl,rfl⟩:=h;exact⟨ho,fun a N=>by simp only[execOp,J,N.ev O]⟩
   simp at h
  simp at h
 simp at h
omit [DecidableEq κ] in
theorem zT[hT:a8 P T](k:Nat){d t kt et:Nat}{o:Oper}(h0:uU T ops n k rest l=some (d,o,t,.map (some b),rest',l'))(hu:P.underlying t=some (.map kt et))(N:In K hs h)(hm:dH enc encv h b m)
  (hk:∀r hi,ke enc encv h hi b r m []->WL P w0 ops Q rest' n ((d,Rp r)::l') K (hi::hs)):WL P w0 ops Q rest n l K hs:=by
 obtain⟨h1,h2⟩:=B5 h0;refine sE k (R:=fun v O hs'=>∃r hi,ke enc encv h hi b r m []/\v=Rp r/\O=K/\hs'=hi::hs) h1 (fun a w ha V=>?_) ?_
 ·obtain⟨U,c,rfl,Y,Z,J⟩:=hm;have hb:=V.S8 N b (.map U c) Q8;refine⟨.pointer (some ⟨w.heap.size,0,none⟩),_,K,_,?_,V.alloc (.mapIter (some b) c #[] c),w.heap.size,_,⟨U,c,c,#[],c,I,Y,Z,J,I,J,J,Q8⟩,I,I,I⟩;rw[h2 a ha];unfold Instr.range;simp[aax,run_underlying hu,Result.andThen,lz hb,newObj,Sem.run]
 rintro v O hs' ⟨r,hi,X,rfl,rfl,rfl⟩;exact hk r hi X
def a7.Tq{w w1}(s:a7 w0 w K hs)(J:w1=w\/w1=w.drew):a7 w0 w1 K hs:=by
 rcases J with rfl|rfl
 ·exact s
 exact s.drew
omit [DecidableEq κ] in
theorem zU[hT:a8 P T](k i:Nat){d:Nat}{o:Oper}(h0:uS T ops n k rest l=some (d,o,Rp r,false,rest',l'))(ab:In K hs h)(O:hs[i]?=some hi)(hI:ke enc encv h hi b r m ks)(ad:(m.map (·.1)).Nodup)
  (more:∀k v J,(k,v)∈m->k∉ks->vz enc encv h J b r m (ks++[k]) k v->WL P w0 ops Q rest' n ((d,.tuple #[.bool true,enc k,encv v])::l') K (hs.set i J))
  (X:(∀x∈m,x.1∈ks)->WL P w0 ops Q rest' n ((d,.tuple Is)::l') K hs):WL P w0 ops Q rest n l K hs:=by
 obtain⟨h1,h2⟩:=B3 h0;refine sE k (R:=fun v K' hs'=>K'=K/\((∃k x J,(k,x)∈m/\k∉ks/\vz enc encv h J b r m (ks++[k]) k x/\v=.tuple #[.bool true,enc k,encv x]/\hs'=hs.set i J)\/((∀x∈m,x.1∈ks)/\v=.tuple Is/\hs'=hs))) h1 (fun a w ha Y=>?_) ?_
 ·rcases Ll (P:=P) hI ad (Y.S8 ab) (Y.S8 (.inr ⟨i,O⟩)) o.type with⟨k,v,w1,ob,U,N,V,Z,g4⟩|⟨w1,U,N,V⟩
  ·have s1:=Y.Tq U;obtain⟨es,c,ae,seen,last,_,_,_,_,aa,_⟩:=id hI;rw[aa]at O;exact⟨_,_,K,_,by rw[h2 a ha,aax,Z];rfl,s1.putObj O ob,rfl,.inl ⟨k,v,_,N,V,g4,rfl,rfl⟩⟩
  exact⟨_,w1,K,hs,by rw[h2 a ha,aax,N];rfl,Y.Tq U,rfl,.inr ⟨V,rfl,rfl⟩⟩
 rintro v K' hs' ⟨rfl,⟨k,x,J,N,V,Z,rfl,rfl⟩|⟨N,rfl,rfl⟩⟩
 ·exact more k x J N V Z
 exact X N
def PZ[hT:a8 P T](k){d t kt et:Nat}{o}(h0:uU T ops n k rest l=some (d,o,t,.map none,rest',l'))(Y:P.underlying t=some (.map kt et))
  (O:∀r,WL P w0 ops Q rest' n ((d,Rp r)::l') K (sg r (.mapIter none 0 #[] 0)::hs)):WL P w0 ops Q rest n l K hs:=by
 obtain⟨N,V⟩:=B5 h0;refine sE k (R:=fun v J hs'=>∃r,v=Rp r/\J=K/\hs'=sg r (.mapIter none 0 #[] 0)::hs) N (fun a w X U=>?_) ?_
 ·refine⟨.pointer (some ⟨w.heap.size,0,none⟩),_,K,_,?_,U.alloc (.mapIter none 0 #[] 0),w.heap.size,I,I,I⟩
  simp_all[run_underlying,Instr.range]
 rintro v J hs' ⟨r,rfl,rfl,rfl⟩;exact O r
def P1[hT:a8 P T](k){d r o}(h0:uS T ops n k rest l=some (d,o,Rp r,false,rest',l'))(N:In K hs (sg r (.mapIter none 0 #[] 0)))
  (X:WL P w0 ops Q rest' n ((d,.tuple Is)::l') K hs):WL P w0 ops Q rest n l K hs:=by
 obtain⟨O,U⟩:=B3 h0;refine jy k O (fun a w V Z=>?_) X;have Y:w.heap[r]?=some (.mapIter none 0 #[] 0):=Z.S8 N r (.mapIter none 0 #[] 0) Q8;have J:(getObj r).run P w=.ok (.mapIter none 0 #[] 0) w:=by simp[getObj,Sem.run,Y]
 rw[U a V];unfold Instr.next;simp[aax,J,Result.andThen]
def zF(T:be)(ops:Ai)(n k:Nat)(rest:Aj)(l:Sl):Option (Nat×Oper×Value×Aj×Sl):=
 match il T ops n k rest l with
 |some (d,o,r,l')=>match o.op with
  |.entry x=>match ev l' x with
   |some u=>some (d,o,u,r,l')
   |_=>none
  |_=>none
 |none=>none
def KA{k d o u}(h:zF T ops n k rest l=some (d,o,u,rest',l')):il T ops n k rest l=some (d,o,rest',l')/\∀a,Ag n l' a->execOp a.eval o=(do let x <- Instr.entry u;pure (.value x)):=by
 unfold zF at h
 split at h
 ·rename_i U X r V ho
  split at h
  ·rename_i x J
   split at h
   ·rename_i Y O;simp only[aae,aah]at h;obtain⟨rfl,rfl,rfl,rfl,rfl⟩:=h;exact⟨ho,fun a N=>by simp only[execOp,J,N.ev O]⟩
   simp at h
  simp at h
 simp at h
omit [DecidableEq κ] in
theorem zV[hT:a8 P T](k:Nat){d:Nat}{o:Oper}{Z:κ}{v:ν}(h0:zF T ops n k rest l=some (d,o,Rp r,rest',l'))(X:In K hs h)(O:In K hs hi)(hS:vz enc encv h hi b r m ks Z v)
  (hk:WL P w0 ops Q rest' n ((d,.tuple #[enc Z,encv v])::l') K hs):WL P w0 ops Q rest n l K hs:=by
 obtain⟨h1,h2⟩:=KA h0;refine jy k h1 (fun a w ha Y=>?_) hk;obtain⟨_,U,c,J,seen,q,e,rfl,h3,rfl,h4,h5,h6,h7⟩:=hS;have hb:w.heap[b]?=some (.map U c):=Y.S8 X b (.map U c) Q8;have hr:w.heap[r]?=some (.mapIter (some b) J seen c):=Y.S8 O r (.mapIter (some b) J seen c) Q8;have V:(getObj r).run P w=.ok (.mapIter (some b) J seen c) w:=by simp[getObj,Sem.run,hr]
 have N:U.find? (fun x=>x.born==e.born)=some e:=by
  grind[Array.find?_eq_some_iff_getElem,List.pairwise_iff_getElem]
 rw[h2 a ha];unfold Instr.entry;simp[aax,V,Result.andThen,h4,lz hb,N,h6,h7]
def P0[hT:a8 P T](k i){t kt et:Nat}{o v y}(j x)(h0:uT T ops n k rest l=some (o,t,.map (some b),v,y,rest',l'))(ab:hs[i]?=some h)(hu:P.underlying t=some (.map kt et))(hK:iz P kt enc)(hv:v=enc j)(hy:y=encv x)(hI:ke enc encv h hi b r m ks)
  (O:(aZ j m).isSome=true) (Y:∀N,ke enc encv N hi b r (cj j x m) ks->WL P w0 ops Q rest' n l' K (hs.set i N)):WL P w0 ops Q rest n l K hs:=by
 obtain⟨h1,h2⟩:=B4 h0;subst hv hy;refine G6 k (R:=fun K' hs'=>∃N,ke enc encv N hi b r (cj j x m) ks/\K'=K/\hs'=hs.set i N) h1 (fun a w ha hw=>?_) ?_
 ·obtain⟨J,c,V,seen,last,rfl,g2,g3,g4,g5,g6,g7,g8⟩:=hI;have aa:J.toList.map (fun e=>(e.key,e.val))=(m.map fun x=>(x.1,encv x.2)).map (fun x=>(enc x.1,x.2)):=by rw[g2];simp
  have hb:w.heap[b]?=some (.map J c):=hw.own i _ ab b _ Q8;have hf:=hK.Sr j J.toList _ w aa;have e1:=xO (enc:=enc) (encv:=encv) j x c J.toList m g2;have e2:=Ch (enc j) (encv x) c (fk j (m.map fun x=>(x.1,encv x.2)) 0) J.toList g3 g4;have ak:∀o:Obj,(setObj b o).run P w=.ok () (w.putObj b o):=fun o=>by simp[setObj,Sem.run,hb,World.putObj]
  cases Y:fk j (m.map fun x=>(x.1,encv x.2)) 0 with
  |none=>
   have:=yS (encv:=encv) j m 0;rw[Y]at this;simp only[ab1]at this;cases hm:aZ j m with
   |none=>rw[hm]at O;cases O
   |some u=>rw[hm]at this;cases this
  |some z=>
   obtain⟨q,z⟩:=z;rw[Y]at e1 e2;simp only[jW]at e1 e2;have ad:=Fz (enc:=enc) j aa Y;have U:((J[q]?).map (·.key)).getD (enc j)=enc j:=by rw[<-acC,ad];rfl
   have am:(Instr.keyThatStays (enc j) (enc j)).run P w=.ok (enc j) w:=by unfold Instr.keyThatStays;simp[hK.SP]
   have ag:∀(i:Nat) e,(J.modify q fun e=>{e with key:=enc j,val:=encv x})[i]?=some e->∃Z,J[i]?=some Z/\e.born=Z.born:=by
    grind
   have an:∀e∈(J.modify q fun e=>{e with key:=enc j,val:=encv x}).toList,∃Z∈J.toList,e.born=Z.born:=by
    intro e X;obtain⟨i,hi⟩:=abe.1 X
    grind
   refine⟨w.putObj b (.map (J.modify q fun e=>{e with key:=enc j,val:=encv x}) c),K,_,?_,hw.putObj ab _,sg b (.map (J.modify q fun e=>{e with key:=enc j,val:=encv x}) c),
    ⟨J.modify q fun e=>{e with key:=enc j,val:=encv x},c,V,seen,last,rfl,by rw[abZ];exact e1,by rw[abZ];exact e2.1,fun e X=>?_,g5,fun e X=>?_,fun e X=>?_,?_⟩,I,I⟩
   ·rw[h2 a ha];unfold Instr.mapUpdate;simp only[aax,run_underlying hu,Result.andThen,lz hb,abY,hK.SM,hf,Y,U,am,ak]
   ·simp_all
   ·grind
   ·grind
   intro i e y X hy;obtain⟨Z,h5,h6⟩:=ag i e X;have ae:=tp j x m;rw[aab O]at ae;have h7:=congrArg (fun l=>l[i]?) ae
   grind
 rintro K' hs' ⟨N,g1,rfl,rfl⟩;exact Y N g1
end rules
section del
theorem D6{α β:Type}(f:α->β):∀(l:List α) (j:Nat),(l.eraseIdx j).map f=(l.map f).eraseIdx j
 |[],_=>rfl
 |a::l,0=>rfl
 |a::l,j+1=>by simp[D6]
theorem De{κ}[DecidableEq κ](k):∀(m:List (κ×Value)),(fk k m 0=none/\dN k m=m)\/∃j v,fk k m 0=some (j,v)/\dN k m=m.eraseIdx j
 |[]=>.inl ⟨rfl,rfl⟩
 |(i,u)::m=>by
  by_cases e:k=i
  ·simp_all[fk,dN]
  rcases De k m with⟨J,N⟩|⟨j,v,J,N⟩
  ·left
   refine⟨?_,by simp[dN,e,N]⟩;simp only[fk,e,if_false];rw[pL,J];rfl
  right
  refine⟨j+1,v,?_,by simp[dN,e,N]⟩;simp only[fk,e,if_false];rw[pL,J]
  simp;omega
theorem xG{κ ν}[DecidableEq κ](f:ν->Value)(k):∀(m:List (κ×ν)),dN k (m.map fun x=>(x.1,f x.2))=(dN k m).map fun x=>(x.1,f x.2)
 |[]=>rfl
 |(i,u)::m=>by
  by_cases e:k=i
  all_goals simp_all[xG,dN]
def Ig{κ ν}[DecidableEq κ]{enc:κ->Value}{encv:ν->Value}{h b m}{t kt et i:Nat}(hu:P.underlying t=some (.map kt et))(Y:iz P kt enc)(hm:dH enc encv h b m){w}(s:a7 w0 w K hs)(hi:hs[i]?=some h)(k ts)(U:ts[0]?=some t)(ty:Nat):
  ∃Z w',dH enc encv Z b (dN k m)/\(Builtin.delete_ ts ty #[.map (some b),enc k]).run P w=.ok (.tuple #[]) w'/\a7 w0 w' K (hs.set i Z):=by
 obtain⟨J,c,rfl,h2,h3,h4⟩:=hm;have X:J.toList.map (fun e=>(e.key,e.val))=(m.map fun x=>(x.1,encv x.2)).map (fun x=>(enc x.1,x.2)):=by rw[h2];simp
 have hb:w.heap[b]?=some (.map J c):=s.own i _ hi b _ Q8;have hf:=Y.Sr k J.toList _ w X;have N:∀o:Obj,(setObj b o).run P w=.ok () (w.putObj b o):=fun o=>by simp[setObj,Sem.run,hb,World.putObj]
 unfold Builtin.delete_;rcases De k (m.map fun x=>(x.1,encv x.2))with⟨V,O⟩|⟨j,v,V,O⟩
 ·rw[xG]at O;refine⟨sg b (.map J c),w.putObj b (.map J c),⟨J,c,I,?_,h3,h4⟩,?_,s.putObj hi _⟩
  ·rw[h2];have:=congrArg (fun l=>l.map fun x:κ×Value=>(enc x.1,x.2)) O;simpa[Function.comp_def]using this.symm
  simp[U,aax,run_underlying hu,Result.andThen,lz hb,Y.SM,hf,V,N]
 rw[xG]at O;refine⟨sg b (.map (J.eraseIdxIfInBounds j) c),w.putObj b (.map (J.eraseIdxIfInBounds j) c),⟨J.eraseIdxIfInBounds j,c,I,?_,?_,?_⟩,?_,s.putObj hi _⟩
 ·have:=congrArg (fun l=>l.map fun x:κ×Value=>(enc x.1,x.2)) O
  grind[Array.toList_eraseIdxIfInBounds,D6,Function.comp_def]
 ·grind[Array.toList_eraseIdxIfInBounds]
 ·grind
 simp[U,aax,run_underlying hu,Result.andThen,lz hb,Y.SM,hf,V,N]
end del
end
section
def MR{κ α:Type}(R:Value->α->Prop):List (κ×Value)->List (κ×α)->Prop
 |[],[]=>True
 |(k,v)::r,(j,x)::q=>k=j/\R v x/\MR R r q
 |_,_=>False
section
variable {κ α:Type}{R R':Value->α->Prop}
theorem MR.imp(h:∀v x,R v x->R' v x):∀{a:List (κ×Value)} {b:List (κ×α)},MR R a b->MR R' a b
 |[],[],g=>g
 |(k,v)::r,(j,x)::q,g=>⟨g.1,h v x g.2.1,MR.imp h g.2.2⟩
 |[],_::_,g=>g.elim
 |_::_,[],g=>g.elim
theorem MR.keys:∀{a:List (κ×Value)} {b:List (κ×α)},MR R a b->a.map (·.1)=b.map (·.1)
 |[],[],_=>rfl
 |(k,v)::r,(j,x)::q,g=>by simp[g.1,MR.keys g.2.2]
 |[],_::_,g=>g.elim
 |_::_,[],g=>g.elim
def MR.len{a:List (κ×Value)}{b}(g:MR R a b):eq a=eq b:=by have:=congrArg List.length g.keys;simpa using this
theorem MR.mem{k v}:∀{a:List (κ×Value)} {b:List (κ×α)},MR R a b->(k,v)∈a->∃x,(k,x)∈b/\R v x
 |(j,u)::r,(i,y)::q,g,hm=>by
  obtain⟨rfl,U,J⟩:=g;rcases aaB.1 hm with hm|hm
  ·simp_all
  obtain⟨x,N,O⟩:=MR.mem J hm;exact⟨x,by simp[N],O⟩
 |[],_,_,hm=>by simp at hm
 |_::_,[],g,_=>g.elim
variable [DecidableEq κ]
theorem MR.get(k):∀{a:List (κ×Value)} {b:List (κ×α)},MR R a b->(aZ k a=none/\aZ k b=none)\/∃v x,aZ k a=some v/\aZ k b=some x/\R v x
 |[],[],_=>.inl ⟨rfl,rfl⟩
 |(j,v)::r,(i,x)::q,g=>by
  obtain⟨rfl,h,O⟩:=g
  by_cases e:k=j
  ·exact .inr ⟨v,x,by simp[aZ,e],by simp[aZ,e],h⟩
  rcases MR.get k O with⟨J,N⟩|⟨u,y,J,N,U⟩
  ·exact .inl ⟨by simp[aZ,e,J],by simp[aZ,e,N]⟩
  exact .inr ⟨u,y,by simp[aZ,e,J],by simp[aZ,e,N],U⟩
 |[],_::_,g=>g.elim
 |_::_,[],g=>g.elim
theorem MR.set{k v x}(h:R v x):∀{a:List (κ×Value)} {b:List (κ×α)},MR R a b->MR R (cj k v a) (cj k x b)
 |[],[],_=>⟨rfl,h,trivial⟩
 |(j,u)::r,(i,y)::q,g=>by
  obtain⟨rfl,N,J⟩:=g
  by_cases e:k=j
  ·simp only[cj,e,if_true];exact⟨I,h,J⟩
  simp only[cj,e,if_false];exact⟨I,N,MR.set h J⟩
 |[],_::_,g=>g.elim
 |_::_,[],g=>g.elim
end
structure gx where
 vs:List (Aa)
 R6:Bool
abbrev Ar:=List (Int×gx)
structure Dk where
 room:Int
 steps:Int
 Iz:List (Int×Ar)
 left:Int
 dead:Bool
def fp(b:Aa):Aa:=b++List.replicate (64-eq b) 0
def Dk.Ji(D:Dk):Dk:={D with steps:=D.steps+1,dead:=decide (D.left=0),left:=if D.left>0 then D.left-1 else D.left}
def Dk.ar(D:Dk)(a:Int):Ar:=(aZ a D.Iz).getD []
def Dk.sec(D:Dk)(a n:Int):Option gx:=aZ n (D.ar a)
def gp(s:Option gx)(b:Aa):gx:=⟨(s.getD ⟨[],false⟩).vs++[fp b],(s.getD ⟨[],false⟩).R6⟩
def Dk.laid(D:Dk)(a n:Int)(b:Aa):Dk:=
 {D with room:=if(D.sec a n).isSome=true then D.room else D.room-1,Iz:=cj a (cj n (gp (D.sec a n) b) (D.ar a)) D.Iz}
def Dk.write(D:Dk)(a n:Int)(b:Aa):Dk×Int:=
 if D.dead=true then(D,30)else if n<0\/65536<=n\/64<eq b then(D,31)else if(D.sec a n).isSome=false/\D.room=0 then(D,32)
 else((D.laid a n b).Ji,if(D.laid a n b).Ji.dead=true then 30 else 0)
def jJ(s:gx):gx:=⟨[s.vs.getLastD []],true⟩
def Dk.RF(D:Dk)(a:Int):List (Int×Ar):=
 match aZ a D.Iz with
 |some l=>cj a (l.map fun x=>(x.1,jJ x.2)) D.Iz
 |none=>D.Iz
def Dk.sync(D:Dk)(a:Int):Dk×Int:=
 if D.dead=true then(D,30)else if D.Ji.dead=true then(D.Ji,30)
 else({D.Ji with Iz:=D.RF a},0)
def Dk.free(D:Dk)(a:Int):Dk×Int:=
 if D.dead=true then(D,30)else if D.Ji.dead=true then(D.Ji,30)
 else({D.Ji with room:=D.room+(eq (D.ar a):Int),Iz:=dN a D.Iz},0)
def Dk.read(D:Dk)(a n:Int):Option (Aa):=(D.sec a n).map fun s=>s.vs.getLastD []
structure Dk.Ok (c:Nat) (D:Dk):Prop where
 keys:(D.Iz.map (·.1)).Nodup
 ns:∀x∈D.Iz,(x.2.map (·.1)).Nodup/\eq x.2<=c
 vs:∀x∈D.Iz,∀y∈x.2,y.2.vs≠[]/\eq y.2.vs<=c/\∀b∈y.2.vs,eq b=64
 room:0<=D.room/\D.room<=2^40
 steps:0<=D.steps/\D.steps<=c*1048576
 left : -1<=D.left/\D.left<=9223372036854775807
 at_:∀x∈D.Iz,∀y∈x.2,0<=y.1/\y.1<65536
section
variable {κ ν:Type} [DecidableEq κ]
theorem iX{k v x}:∀{m:List (κ×ν)},x∈cj k v m->x=(k,v)\/x∈m
 |[],h=>by simp[cj]at h;exact .inl h
 |(j,u)::m,h=>by
  by_cases e:k=j
  ·grind[cj]
  simp only[cj,e,if_false,aaB]at h;rcases h with h|h
  ·exact .inr (by simp[h])
  rcases iX h with h|h
  ·exact .inl h
  exact .inr (by simp[h])
theorem nG{k v}{m:List (κ×ν)}(h:(m.map (·.1)).Nodup):((cj k v m).map (·.1)).Nodup:=by
 rw[tp]
 split
 ·exact h
 rename_i hn;rw[acl];refine⟨h,Q8,?_⟩;intro a J b hb;simp only[aaC]at hb;subst hb;intro e
 simp_all[gI]
theorem lB{k}:∀(m:List (κ×ν)),(dN k m).Sublist m
 |[]=>by simp[dN]
 |(j,u)::m=>by
  by_cases e:k=j
  ·simp only[dN,e,if_true]
   first|exact List.sublist_cons_self _ _|exact(lB m).trans (List.sublist_cons_self _ _)
  simp only[dN,e,if_false];exact(lB m).cons_cons _
end
def xx{b}(h:eq b<=64):eq (fp b)=64:=by simp[fp];omega
def Dk.Tw{D:Dk}{a:Int}(x:Int×gx)(h:x∈D.ar a):∃l,(a,l)∈D.Iz/\D.ar a=l:=by
 unfold Dk.ar at h⊢;cases hg:aZ a D.Iz with
 |none=>rw[hg]at h;simp at h
 |some l=>exact⟨l,gS hg,rfl⟩
abbrev Bb:=@Dk.Tw
def Dk.Ok.Sv{c:Nat}{D:Dk}(o:D.Ok c)(a:Int):((D.ar a).map (·.1)).Nodup/\eq (D.ar a)<=c:=by
 unfold Dk.ar;cases hg:aZ a D.Iz with
 |none=>simp
 |some l=>exact o.ns _ (gS hg)
def Dk.Ok.SZ{c:Nat}{D:Dk}(o:D.Ok c){a n:Int}{s:gx}(h:D.sec a n=some s):s.vs≠[]/\eq s.vs<=c/\∀b∈s.vs,eq b=64:=by
 have hm:=gS h;obtain⟨l,J,N⟩:=Bb _ hm;rw[N]at hm;exact o.vs _ J _ hm
theorem Dk.Ok.up{c d:Nat}{D:Dk}(o:D.Ok c)(h:c<=d):D.Ok d:=
 ⟨o.keys,fun x J=>⟨(o.ns x J).1,aat (o.ns x J).2 h⟩,fun x J y N=>⟨(o.vs x J y N).1,aat (o.vs x J y N).2.1 h,(o.vs x J y N).2.2⟩,o.room,⟨o.steps.1,by have:=o.steps.2;omega⟩,o.left,o.at_⟩
def CK{x}(h : -1<=x/\x<=9223372036854775807): -1<=(if x>0 then x-1 else x)/\(if x>0 then x-1 else x)<=9223372036854775807:=by
 omega
theorem Dk.Ok.Ji{c:Nat}{D:Dk}(o:D.Ok c):D.Ji.Ok (c+1):=
 ⟨o.keys,fun x J=>⟨(o.ns x J).1,aat (o.ns x J).2 (aaq c)⟩,fun x J y N=>⟨(o.vs x J y N).1,aat (o.vs x J y N).2.1 (aaq c),(o.vs x J y N).2.2⟩,o.room,⟨by have:=o.steps.1;simp only[Dk.Ji];omega,by have:=o.steps.2;simp only[Dk.Ji];omega⟩,CK o.left,o.at_⟩
theorem Dk.Ok.write{c:Nat}{D:Dk}(o:D.Ok c)(a n:Int)(b:Aa):(D.write a n b).1.Ok (c+1):=by
 unfold Dk.write
 split
 ·exact o.up<|aaq c
 split
 ·exact o.up<|aaq c
 rename_i Y
 split
 ·exact o.up<|aaq c
 rename_i Z;have hn:0<=n/\n<65536/\eq b<=64:=qo
 have O:(gp (D.sec a n) b).vs≠[]/\eq (gp (D.sec a n) b).vs<=c+1/\∀d∈(gp (D.sec a n) b).vs,eq d=64:=by
  unfold gp;cases hs:D.sec a n with
  |none=>
   simp_all[xx]
  |some s=>
   obtain⟨U,V,h3⟩:=o.SZ hs;simp only[aaZ];refine⟨Q8,by simp;omega,?_⟩;intro d X;rcases aao.1 X with X|X
   all_goals simp_all[xx]
 have aa:0<=(D.laid a n b).room/\(D.laid a n b).room<=2^40:=by
  have:=o.room
  grind[Dk.laid]
 obtain⟨ad,ab⟩:=o.Sv a;refine⟨?_,?_,?_,aa,⟨by have:=o.steps.1;simp only[Dk.Ji,Dk.laid];omega,by have:=o.steps.2;simp only[Dk.Ji,Dk.laid];omega⟩,CK o.left,?_⟩
 ·exact nG o.keys
 ·intro x N;rcases iX N with rfl|N
  ·grind[nG,qM]
  exact⟨(o.ns x N).1,aat (o.ns x N).2 (aaq c)⟩
 ·intro x N y J;rcases iX N with rfl|N
  ·rcases iX J with rfl|J
   ·exact O
   obtain⟨l,U,V⟩:=Bb _ J;rw[V]at J;obtain⟨h3,h4,h5⟩:=o.vs _ U _ J
   grind
  obtain⟨h3,h4,h5⟩:=o.vs _ N _ J
  grind
 intro x N y J;rcases iX N with rfl|N
 ·rcases iX J with rfl|J
  ·omega
  obtain⟨l,U,V⟩:=Bb _ J;rw[V]at J;exact o.at_ _ U _ J
 exact o.at_ _ N _ J
theorem Dk.Ok.sync{c:Nat}{D:Dk}(o:D.Ok c)(a:Int):(D.sync a).1.Ok (c+1):=by
 unfold Dk.sync
 split
 ·exact o.up<|aaq c
 split
 ·exact o.Ji
 have os:=o.Ji;unfold Dk.RF;cases hg:aZ a D.Iz with
 |none=>exact os
 |some l=>
  have hl:=gS hg;refine⟨nG o.keys,?_,?_,os.room,os.steps,os.left,?_⟩
  ·intro x J;rcases iX J with rfl|J
   ·have U:=(o.ns _ hl)
    grind
   exact os.ns x J
  ·intro x J y N;rcases iX J with rfl|J
   ·obtain⟨z,O,rfl⟩:=aau.1 N;obtain⟨V,X,Y⟩:=o.vs _ hl _ O
    simp_all[acm,jJ]
   exact os.vs x J y N
  intro x J y N;rcases iX J with rfl|J
  ·obtain⟨z,O,rfl⟩:=aau.1 N;exact o.at_ (a,l) hl z O
  exact o.at_ _ J _ N
theorem Dk.Ok.free{c:Nat}{D:Dk}(o:D.Ok c)(a:Int)(N:D.room+(eq (D.ar a):Int)<=2^40):(D.free a).1.Ok (c+1):=by
 unfold Dk.free
 split
 ·exact o.up<|aaq c
 split
 ·exact o.Ji
 have os:=o.Ji;have hs:=lB (k:=a) D.Iz;exact⟨(hs.map _).nodup o.keys,fun x J=>os.ns x (hs.subset J),fun x J=>os.vs x (hs.subset J),⟨by have:=o.room;dsimp only;omega,N⟩,os.steps,os.left,fun x J=>o.at_ x (hs.subset J)⟩
end
section
attribute [local irreducible] Code.wp wpList Calls
def sa(l:Sl)(o:Oper):Option (Nat×Addr×Option Int×Option Int):=
 match o.op with
 |.slice t x none none none=>match ev l x with
  |some (.pointer (some a))=>some (t,a,none,none)
  |_=>none
 |.slice t x (some lo) none none=>match ev l x,ev l lo with
  |some (.pointer (some a)),some (.int _ i)=>some (t,a,some i,none)
  |_,_=>none
 |.slice t x none (some hi) none=>match ev l x,ev l hi with
  |some (.pointer (some a)),some (.int _ i)=>some (t,a,none,some i)
  |_,_=>none
 |.slice t x (some lo) (some hi) none=>match ev l x,ev l lo,ev l hi with
  |some (.pointer (some a)),some (.int _ i),some (.int _ j)=>some (t,a,some i,some j)
  |_,_,_=>none
 |_=>none
def tc{w k i y}(c)(H:Nat)(h:i=(H:Int))(J:H<=y):(Instr.sliceBound (.int k i) y c).run P w=.ok H w:=by
 simp_all[Instr.sliceBound,asIntOf]
def ya{l n o}{t len e sz:Nat}{a}{lo hi:Option Int}(L N:Nat)(J:sa l o=some (t,a,lo,hi))(hu:P.underlying t=some (.array len e))(he:(P.info? e).map (·.size)=some sz)
  (Z:lo.getD 0=(L:Int)) (Y:hi.getD len=((L+N:Nat):Int)) (hN:L+N<=len) (ak:L<len):∀A w,Ag n l A->(execOp A.eval o).run P w=.ok (.value (.slice (some (a.add (L*sz))) N (len-L))) w:=by
 intro A w V;cases hii:P.info? e with
 |none=>rw[hii]at he;cases he
 |some ii=>
 rw[hii]at he;have am:ii.size=sz:=by simpa using he
 have hne:¬len=L:=qo
 have fin:∀(lv hv:Option Value),(Instr.sliceBounds false len len lv hv none).run P w=.ok (L,L+N,len) w->(Instr.sliceAt t (.pointer (some a)) lv hv none).run P w=.ok (.slice (some (a.add (L*sz))) N (len-L)) w:=by
  simp_all[run_underlying,Instr.sliceAt,Instr.sureAddr,sizeOf,typeInfo]
 unfold sa at J
 split at J
 ·rename_i t' x O
  split at J
  ·rename_i a' X;simp only[aae,aah]at J;obtain⟨rfl,rfl,rfl,rfl⟩:=J;simp only[execOp,O,V.ev X,ab1];simp only[abs]at Z Y;rw[aax,fin none none (by unfold Instr.sliceBounds;simp;omega)]
   rfl
  simp at J
 ·rename_i t' x ad O
  split at J
  ·rename_i a' k i X U;simp only[aae,aah]at J;obtain⟨rfl,rfl,rfl,rfl⟩:=J;simp only[execOp,O,V.ev X,V.ev U,ab1,abi];simp only[abs,aaZ]at Z Y
   rw[aax,fin (some _) none (by
    have hb:(Instr.sliceBound (.int k i) len .sliceB).run P w=.ok L w:=tc _ L Z qo;unfold Instr.sliceBounds;simp[aax,Result.andThen,hb];omega)]
   rfl
  simp at J
 ·rename_i t' x ab O
  split at J
  ·rename_i a' k i X U;simp only[aae,aah]at J;obtain⟨rfl,rfl,rfl,rfl⟩:=J;simp only[execOp,O,V.ev X,V.ev U,ab1,abi];simp only[abs,aaZ]at Z Y;have ae:L=0:=qo
   rw[aax,fin none (some _) (by
    have hb:(Instr.sliceBound (.int k i) len .sliceAlen).run P w=.ok (L+N) w:=tc _ (L+N) Y hN
    simp_all[Instr.sliceBounds])]
   rfl
  simp at J
 ·rename_i t' x ad ab O
  split at J
  ·rename_i a' k i k2 j X U aa;simp only[aae,aah]at J;obtain⟨rfl,rfl,rfl,rfl⟩:=J;simp only[execOp,O,V.ev X,V.ev U,V.ev aa,ab1,abi];simp only[aaZ]at Z Y
   rw[aax,fin (some _) (some _) (by
    have hb:(Instr.sliceBound (.int k2 j) len .sliceAlen).run P w=.ok (L+N) w:=tc _ (L+N) Y hN;have ag:(Instr.sliceBound (.int k i) (L+N) .sliceB).run P w=.ok L w:=tc _ L Z qo
    simp_all[Instr.sliceBounds])]
   rfl
  simp at J
 simp at J
section rules
variable {P:Program}{T:be}{w0:World}{ops:Ai}{Q:An}{rest rest':Aj}{n:Nat}{l l':Sl}{K:PH}{hs:Ac}
def vi[hT:a8 P T](k){d o}{t len e sz:Nat}{a}{lo hi:Option Int}(L N:Nat)(h0:il T ops n k rest l=some (d,o,rest',l'))(O:sa l' o=some (t,a,lo,hi))(hu:P.underlying t=some (.array len e))(Z:(P.info? e).map (·.size)=some sz)
  (V:lo.getD 0=(L:Int)) (U:hi.getD len=((L+N:Nat):Int)) (X:L+N<=len) (J:L<len) (hk:WL P w0 ops Q rest' n ((d,.slice (some (a.add (L*sz))) N (len-L))::l') K hs):WL P w0 ops Q rest n l K hs:=
 jy k h0 (fun A w Y _=>ya L N O hu Z V U X J A w Y) hk
def zG{plan plan':Af}{z}{listed listed':Al}{K0}{A:Ac}[hT:a8 P T](J:Region.noSelect ops=true)(k){d o}{t len e sz:Nat}{a}{lo hi:Option Int}(L N:Nat)(h0:uI T ops n z k plan listed l=some (d,o,plan',listed',l'))(U:sa l' o=some (t,a,lo,hi))(hu:P.underlying t=some (.array len e))(he:(P.info? e).map (·.size)=some sz)
  (X:lo.getD 0=(L:Int)) (V:hi.getD len=((L+N:Nat):Int)) (Y:L+N<=len) (O:L<len) (hk:WA P w0 ops Q K0 A z plan' listed' n ((d,.slice (some (a.add (L*sz))) N (len-L))::l') K hs):WA P w0 ops Q K0 A z plan listed n l K hs:=
 sx J k h0 (fun A w Z _=>ya L N U hu he X V Y O A w Z) hk
def oh(T:be)(ops:Ai)(n z k:Nat)(plan:Af)(L:Al)(l:Sl):Option (Nat×Nat×Oper×Af×Al×Sl):=
 match lH T ops n z k plan L l with
 |some (p,o,r,J,l')=>match Nat.beq (p%2) 0,Nat.beq (p/2) z,fW ops l' o.guard,o.dst with
  |true,false,some true,some d=>match Nat.blt d n with
   |true=>some (p,d,o,r,J.setIfInBounds (p/2) true,l')
   |false=>none
  |_,_,_,_=>none
 |none=>none
def rW{plan plan' z listed listed' K0 A}[hT:a8 P T](J:Region.noSelect ops=true)(k){p d o v}(h0:oh T ops n z k plan listed l=some (p,d,o,plan',listed',l'))(X:cond (Nat.blt z ops.size) (Region.waitsFor .any ops z (p/2)) true=true)
  (hv:∀a w,Ag n l' a->ff K0 A w->(execOp a.eval o).run P w=.ok (.value v) w) (hk:WA P w0 ops Q K0 A z plan' listed' n ((d,v)::l') K hs):WA P w0 ops Q K0 A z plan listed n l K hs:=by
 unfold oh at h0
 split at h0
 ·rename_i Z o' r L' l2 hh
  split at h0
  ·rename_i dd hp hz hg hd
   split at h0
   ·rename_i hb;simp only[aae,aah]at h0;obtain⟨rfl,rfl,rfl,rfl,rfl,rfl⟩:=h0;obtain⟨g1,g2⟩:=ki hh;refine Bd J k g1 ?_;have O:Z=2*(Z/2):=by have:=aaF hp;omega
    rw[O];refine Bm g2 J hz hd hb (fun A' Y=>.inl ⟨gQ Y hg,fun w hw=>?_⟩) hk;obtain⟨L,N,V,U⟩:=hw;exact hv A' w Y (U (pB N V X))
   simp at h0
  simp at h0
 simp at h0
def Pv{plan plan':Af}{z}{listed listed':Al}{K0}{A:Ac}[hT:a8 P T](J:Region.noSelect ops=true)(k){p d o}{t len e sz:Nat}{a}{lo hi:Option Int}(L N:Nat)(h0:oh T ops n z k plan listed l=some (p,d,o,plan',listed',l'))(U:cond (Nat.blt z ops.size) (Region.waitsFor .any ops z (p/2)) true=true)(V:sa l' o=some (t,a,lo,hi))(hu:P.underlying t=some (.array len e))(he:(P.info? e).map (·.size)=some sz)
  (Y:lo.getD 0=(L:Int)) (X:hi.getD len=((L+N:Nat):Int)) (Z:L+N<=len) (O:L<len) (hk:WA P w0 ops Q K0 A z plan' listed' n ((d,.slice (some (a.add (L*sz))) N (len-L))::l') K hs):WA P w0 ops Q K0 A z plan listed n l K hs:=
 rW J k h0 U (fun A w ha _=>ya L N V hu he Y X Z O A w ha) hk
def GM(l:Sl)(o:Oper):Option (Nat×Nat×(Ab×Nat×Nat)):=
 match o.op with
 |.convert t J x=>match ev l x with
  |some (.slice ao m c)=>some (t,J,(ao,m,c))
  |_=>none
 |_=>none
def PC{plan plan' z listed listed' K0 A}[hT:a8 P T](N:Region.noSelect ops=true)(k){p d t t' m c o ao h}(xs)(h0:oh T ops n z k plan listed l=some (p,d,o,plan',listed',l'))(U:cond (Nat.blt z ops.size) (Region.waitsFor .any ops z (p/2)) true=true)(J:GM l' o=some (t,t',(ao,m,c)))(hm:In K0 A h)
  (x:aj h ao m c 1 (xs.map fun b=>Value.int .u8 b.toNat)) (hs':qc P t t'=true)
  (hk:WA P w0 ops Q K0 A z plan' listed' n ((d,str xs)::l') K hs):WA P w0 ops Q K0 A z plan listed n l K hs:=by
 refine rW N k h0 U (fun A' w ha hw=>?_) hk;unfold GM at J
 split at J
 ·rename_i t1 t2 y O
  split at J
  ·rename_i V m' X hx;simp only[aae,aah]at J;obtain⟨rfl,rfl,rfl,rfl,rfl⟩:=J
   have Y:=BV (P:=P) (w:=w) (c:=X) hs' xs (by have:=x.1;simpa using this) (fun j u hj=>by
    obtain⟨a,Z,h4⟩:=x.2.2 j u hj;exact⟨a,Z,hw.cell hm h4⟩)
   simp only[execOp,O,ha.ev hx];simp[Y]
  simp at J
 simp at J
def zC(l:Sl)(o:Oper):Option (Nat×Value×Value×Bool):=
 match o.op with
 |.lookup t x y ok=>match ev l x,ev l y with
  |some u,some v=>some (t,u,v,ok)
  |_,_=>none
 |_=>none
def J9{l n o t u v ok}(h:zC l o=some (t,u,v,ok)):∀a,Ag n l a->execOp a.eval o=(do let x <- Instr.lookup t u v ok;pure (.value x)):=by
 intro a N;unfold zC at h
 split at h
 ·rename_i X x y V J
  split at h
  ·rename_i Y v' O U;simp only[aae,aah]at h;obtain⟨rfl,rfl,rfl,rfl⟩:=h;simp only[execOp,J,N.ev O,N.ev U]
  simp at h
 simp at h
def F9{κ ν}[DecidableEq κ]{enc:κ->Value}{encv:ν->Value}{h b}{m:List (κ×ν)}{plan plan':Af}{z}{listed listed':Al}{K0}{A:Ac}[hT:a8 P T](J:Region.noSelect ops=true)(k){p d t kt et:Nat}{o zv v ok}(j)(h0:oh T ops n z k plan listed l=some (p,d,o,plan',listed',l'))(O:cond (Nat.blt z ops.size) (Region.waitsFor .any ops z (p/2)) true=true)(U:zC l' o=some (t,.map (some b),v,ok))(Z:P.underlying t=some (.map kt et))(hz:(P.info? et).bind (·.zero)=some zv)(V:iz P kt enc)(hv:v=enc j)(N:In K0 A h)(hm:dH enc encv h b m)
  (Y:WA P w0 ops Q K0 A z plan' listed' n ((d,pc ok (match aZ j m with|some v=>encv v|none=>zv) (aZ j m).isSome)::l') K hs):WA P w0 ops Q K0 A z plan listed n l K hs:=by
 subst hv;refine rW J k h0 O (fun a w X hw=>?_) Y;have:=vY (P:=P) Z V hz hm (hw.S8 N) j ok;rw[J9 U a X,aax,this]
 rfl
def uV(l:Sl)(o:Oper):Option (Nat×Value):=
 match o.op with
 |.call {callee:=.builtin .len,args,argTypes}=>match args.toList,argTypes.toList with
  |[x],[t]=>match ev l x with
   |some u=>some (t,u)
   |_=>none
  |_,_=>none
 |_=>none
def B6{l n o t u}(h:uV l o=some (t,u)){w N}(Y:(Builtin.len_ #[t] o.type #[u]).run P w=.ok (.int .i64 N) w):∀a,Ag n l a->(execOp a.eval o).run P w=.ok (.value (.int .i64 N)) w:=by
 intro a X;unfold uV at h
 split at h
 ·rename_i args J V
  split at h
  ·rename_i x t' e1 e2
   split at h
   ·rename_i u' Z;simp only[aae,aah]at h;obtain⟨rfl,rfl⟩:=h;have O:args=#[x]:=by cases args;simp_all
    have U:J=#[t']:=by cases J;simp_all
    subst O U;simp only[execOp,V];simp[resolve,invoke,builtin,X.ev Z,Y]
   simp at h
  simp at h
 simp at h
def P6{κ ν}[DecidableEq κ]{enc:κ->Value}{encv:ν->Value}{h b m plan plan' z listed listed' K0 A}[hT:a8 P T](J:Region.noSelect ops=true)(k){p d t kt et:Nat}{o}(h0:oh T ops n z k plan listed l=some (p,d,o,plan',listed',l'))(O:cond (Nat.blt z ops.size) (Region.waitsFor .any ops z (p/2)) true=true)(U:uV l' o=some (t,.map (some b)))(Y:P.underlying t=some (.map kt et))(N:In K0 A h)(hm:dH enc encv h b m)
  (X:WA P w0 ops Q K0 A z plan' listed' n ((d,.int .i64 (eq m:Int))::l') K hs):WA P w0 ops Q K0 A z plan listed n l K hs:=
 rW J k h0 O (fun a w V Z=>B6 U (Bs Y hm (Z.S8 N)) a V) X
def Pw{plan plan' z listed listed' K0 A}[hT:a8 P T](J:Region.noSelect ops=true)(k){p d t kt et:Nat}{o}(h0:oh T ops n z k plan listed l=some (p,d,o,plan',listed',l'))(N:cond (Nat.blt z ops.size) (Region.waitsFor .any ops z (p/2)) true=true)(O:uV l' o=some (t,.map none))(X:P.underlying t=some (.map kt et))
  (V:WA P w0 ops Q K0 A z plan' listed' n ((d,.int .i64 0)::l') K hs):WA P w0 ops Q K0 A z plan listed n l K hs:=
 rW J k h0 N (fun a w U Y=>B6 O (by simp_all[run_underlying,Builtin.len_,goInt]) a U) V
def GA(T:be)(ops:Ai)(n k:Nat)(rest:Aj)(l:Sl):Option (Oper×Nat×Value×Value×Aj×Sl):=
 match eN T ops n k rest l with
 |some (o,r,l')=>match o.dst,o.op with
  |none,.call {callee:=.builtin .delete,args,argTypes}=>match args.toList,argTypes.toList with
   |[x,y],[t,_]=>match ev l' x,ev l' y with
    |some u,some v=>some (o,t,u,v,r,l')
    |_,_=>none
   |_,_=>none
  |_,_=>none
 |none=>none
def Hb{κ ν}[DecidableEq κ]{enc:κ->Value}{encv:ν->Value}{h b m}[hT:a8 P T](k i){t kt et:Nat}{o v}(j)(h0:GA T ops n k rest l=some (o,t,.map (some b),v,rest',l'))(hi:hs[i]?=some h)(hu:P.underlying t=some (.map kt et))(hK:iz P kt enc)(hv:v=enc j)(hm:dH enc encv h b m)
  (hk:∀O,dH enc encv O b (dN j m)->WL P w0 ops Q rest' n l' K (hs.set i O)):WL P w0 ops Q rest n l K hs:=by
 unfold GA at h0
 split at h0
 ·rename_i o' r l2 ho
  split at h0
  ·rename_i args J hd Y
   split at h0
   ·rename_i x y t' t2 e1 e2
    split at h0
    ·rename_i u v' hx hy;simp only[aae,aah]at h0;obtain⟨rfl,rfl,rfl,rfl,rfl,rfl⟩:=h0;subst hv;have V:args=#[x,y]:=by cases args;simp_all
     have X:J=#[t',t2]:=by cases J;simp_all
     subst V X;refine Ec ho fun hg=>?_;intro a w U hw;obtain⟨O,w',g1,g2,g3⟩:=Ig (P:=P) hu hK hm hw hi j #[t',t2] rfl o'.type;have Z:=gQ U hg;unfold wpList;rw[aab Z];refine .inl ?_;unfold Oper.wp
     have N:(execOp a.eval o').run P w=.ok (.value (.tuple #[])) w':=by
      simp only[execOp,Y];simp[resolve,invoke,builtin,U.ev hx,U.ev hy,g2]
     rw[N];simp only[Oper.upon,hd,Act.put];exact hk O g1 _ _ U g3
    simp at h0
   simp at h0
  simp at h0
 simp at h0
end rules
section joink
variable {P:Program}{w0:World}{Q:An}{n:Nat}{l:Sl}{K:PH}{hs:Ac}
def z6(w0:World){σ:Type}(F:σ->Sl)(N:σ->PH)(H:σ->Ac)(J:σ->Prop)(n:Nat)(Q:An):An
 |.normal,a,w=>∃s,J s/\Ag n (F s) a/\a7 w0 w (N s) (H s)
 |e,a,w=>Q e a w
def kL{σ x y}(F:σ->Sl)(HK H J)(U:WC P w0 x (z6 w0 F HK H J n Q) n l K hs)(V:∀s,J s->WC P w0 y Q n (F s) (HK s) (H s)):WC P w0 (.seq x y) Q n l K hs:=
 sq fun a w N O=>Code.wp_mono (fun e a w h=>by
  cases e with
  |normal=>obtain⟨s,X,N,O⟩:=h;exact V s X a w N O
  |_=>exact h) (U a w N O)
def fM{σ}{F:σ->Sl}{HK H J}(s)(U:J s)(N:kP l (F s))(V:K=HK s)(O:hs=H s):WQ w0 (z6 w0 F HK H J n Q) .normal n l K hs:=
 fun a w X Y=>⟨s,U,X.sub N,by rw[<-V,<-O];exact Y⟩
def QG{σ}{F:σ->Sl}{HK H J}(h:WQ w0 Q .ret n l K hs):WQ w0 (z6 w0 F HK H J n Q) .ret n l K hs:=h
end joink
end
section
def jO(l:List (Aa)):Ad:=l.map str
def jX(K:PH)(v:Value)(s:gx):Prop:=∃ao c,v=.agg #[.slice ao (eq s.vs) c,.bool s.R6]/\aj K ao (eq s.vs) c 1 (jO s.vs)
def kD(n:Int):Value:=.int .u64 n
def nD(n:Int):Value:=.int .i64 n
def sw(b:Nat):Value:=.map (some b)
def bY(D:Dk)(J:Nat):Ah:=#[.int .i64 D.room,.int .i64 D.steps,.map (some J),.int .i64 D.left,.bool D.dead]
abbrev l7:=List (Int×Nat×PH)
def fH(K:PH):l7->List (Int×Ar)->Prop
 |[],[]=>True
 |x::r,y::q=>x.1=y.1/\(∃mv,dH nD id x.2.2 x.2.1 mv/\MR (jX K) mv y.2)/\fH K r q
 |_,_=>False
theorem jX.le{K J:PH}(l:Le K J){v s}(h:jX K v s):jX J v s:=let⟨a,c,N,O⟩:=h;⟨a,c,N,O.le l⟩
theorem fH.le{K J:PH}(l:Le K J):∀{i:l7} {q:List (Int×Ar)},fH K i q->fH J i q
 |[],[],h=>h
 |x::r,y::q,⟨N,⟨mv,O,U⟩,V⟩=>⟨N,⟨mv,O,U.imp fun _ _ h=>h.le l⟩,fH.le l V⟩
 |[],_::_,h=>h.elim
 |_::_,[],h=>h.elim
theorem Ft{K:PH}{a:Int}:∀{i:l7} {q:List (Int×Ar)} {l:Ar},fH K i q->aZ a q=some l->∃i1 N hi mv O J q2,i=i1++(a,N,hi)::O/\q=J++(a,l)::q2/\a∉J.map (·.1)/\fH K i1 J/\fH K O q2/\dH nD id hi N mv/\MR (jX K) mv l
 |[],[],_,_,h=>by cases h
 |x::r,y::q,l,⟨Z,⟨mv,U,V⟩,h4⟩,h=>by
  obtain⟨y1,y2⟩:=y;obtain⟨Y,x2,x3⟩:=x;dsimp only at Z U V;subst Z
  by_cases e:a=Y
  ·subst e;simp only[aZ,if_true,aae]at h;subst h;exact⟨[],x2,x3,mv,r,[],q,I,I,Q8,trivial,h4,U,V⟩
  simp only[aZ,e,if_false]at h;obtain⟨i1,N,hi,X,O,J,q2,g1,g2,g3,g4,g5,g6,g7⟩:=Ft h4 h;exact⟨(Y,x2,x3)::i1,N,hi,X,O,(Y,y2)::J,q2,by rw[g1];rfl,by rw[g2];rfl,by simp[e];simpa using g3,⟨rfl,⟨mv,U,V⟩,g4⟩,g5,g6,g7⟩
 |[],_::_,_,h,_=>h.elim
 |_::_,[],_,h,_=>h.elim
theorem nR{K:PH}:∀{i:l7} {q:List (Int×Ar)},fH K i q->i.map (·.1)=q.map (·.1)
 |[],[],_=>rfl
 |x::r,y::q,⟨J,_,N⟩=>by simp[J,nR N]
 |[],_::_,h=>h.elim
 |_::_,[],h=>h.elim
theorem fH.app{K:PH}:∀{i j:l7} {q r:List (Int×Ar)},fH K i q->fH K j r->fH K (i++j) (q++r)
 |[],_,[],_,_,h=>h
 |x::i,_,y::q,_,⟨J,N,O⟩,h=>⟨J,N,fH.app O h⟩
 |[],_,_::_,_,h,_=>h.elim
 |_::_,_,[],_,h,_=>h.elim
theorem yl{κ ν}[DecidableEq κ]{k u v}{q2:List (κ×ν)}:∀{J:List (κ×ν)},k∉J.map (·.1)->cj k v (J++(k,u)::q2)=J++(k,v)::q2
 |[],_=>by simp[cj]
 |(j,w)::J,h=>by
  simp only[aay,aaB,not_or]at h;simp only[aaL,cj,h.1,if_false];rw[yl h.2]
theorem yp{κ ν}[DecidableEq κ]{k u}{q2:List (κ×ν)}:∀{J:List (κ×ν)},k∉J.map (·.1)->dN k (J++(k,u)::q2)=J++q2
 |[],_=>by simp[dN]
 |(j,w)::J,h=>by
  simp only[aay,aaB,not_or]at h;simp only[aaL,dN,h.1,if_false];rw[yp h.2]
theorem yo{κ ν}[DecidableEq κ]{k u}{q2:List (κ×ν)}:∀{J:List (κ×ν)},k∉J.map (·.1)->aZ k (J++(k,u)::q2)=some u
 |[],_=>by simp[aZ]
 |(j,w)::J,h=>by
  simp only[aay,aaB,not_or]at h;simp only[aaL,aZ,h.1,if_false];exact yo h.2
theorem rq{κ ν}[DecidableEq κ]{k v}:∀{q:List (κ×ν)},aZ k q=none->cj k v q=q++[(k,v)]
 |[],_=>rfl
 |(j,w)::q,h=>by
  by_cases e:k=j
  ·simp[aZ,e]at h
  simp only[aZ,e,if_false]at h;simp only[cj,e,if_false,aaL];rw[rq h]
def fe(i:l7):List (Int×Nat):=i.map fun x=>(x.1,x.2.1)
def bI(i:l7):Ac:=i.map (·.2.2)
attribute [local irreducible] Code.wp wpList Calls
def gP(K:PH)(b:Nat)(D:Dk)(m:Ac):Prop:=∃J ho ins,m=pt b (bY D J) 126::ho::bI ins/\dH kD sw ho J (fe ins)/\fH K ins D.Iz
theorem gP.le{K J:PH}(l:Le K J){b D m}(h:gP K b D m):gP J b D m:=let⟨N,ho,ins,O,U,V⟩:=h;⟨N,ho,ins,O,U,V.le l⟩
def FG(ao n c)(hn:n<=c):ai w0 249 [.slice ao n c] K hs (Ap K hs (.slice (dE ao n 0 1) n n)):=by
 refine cP Tryz.func249 ?_;refine uO 5 0 n n I I Q8 I qo hn (au ?_);exact af I I ⟨I,I,I⟩
def gM:iz Tryz.prog 29 kD:=Fr Tryz.underlying29
def lQ:iz Tryz.prog 3 nD:=Fr Tryz.underlying3
def y0(b bo D)(V:0<=D.steps/\D.steps<=2^62)(X : -1<=D.left/\D.left<=9223372036854775807):
  ai w0 110 [Rp b] K (pt b (bY D bo) 126::hs) (fun v O hs'=>O=K/\hs'=pt b (bY D.Ji bo) 126::hs/\v=.bool D.Ji.dead):=by
 refine cP Tryz.func110 ?_;refine ar 0 I (ba qo) (au ?_);refine ar 0 I (v':=.bool (decide (D.left=0))) (congrArg Value.bool (by rw[acn];simp)) (Ji 2 0 rfl rfl rfl rfl (fin 0 rfl (th (jn (σ:=Unit) (fun _=>[(0,Rp b)]) (fun _=>pt b (bY D.Ji bo) 126::hs) (fun _=>True) ?_ ?_))))
 ·refine au ?_;refine aw 0 I fun U N=>fin 0 I (th (ax N I (fun J=>?_) (fun J=>?_)))
  ·refine au ?_;exact ar 0 I (ba qo) (Ji 2 0 I I I I (fin 0 I (jx () trivial sb I (by simp only[bY,Dk.Ji,aab J];rfl))))
  exact sk (jx () trivial sb I (by simp only[bY,Dk.Ji,aaa J];rfl))
 rintro - -;refine au ?_;exact af I I ⟨I,I,I⟩
end
section
def In.tail{x:PH}(l)(hm:In K hs x):In K (l++hs) x:=by
 induction l with
 |nil=>exact hm
 |cons a l J=>exact J.cons
def Hk(K:PH)(D:Dk)(a:Int)(ins:l7)(hs:Ac)(O:Am)(h:PH)(U:Ac):Prop:=
 (aZ a D.Iz=none/\O=none/\h=em/\U=bI ins++hs) \/
 ∃b i1 mv J N q2,O=some b/\ins=i1++(a,b,h)::J/\D.Iz=N++(a,D.ar a)::q2/\a∉N.map (·.1)/\fH K i1 N/\fH K J q2/\dH nD id h b mv/\MR (jX K) mv (D.ar a)/\U=bI i1++(bI J++hs)
theorem pG(i):(fe i).map (·.1)=i.map (·.1):=by simp[fe]
def qZ{D a ins}(V:fH K ins D.Iz){bi h tl}(x:Hk K D a ins hs bi h tl):aZ a (fe ins)=bi:=by
 rcases x with⟨J,N,_⟩|⟨b,i1,mv,i2,q1,q2,J,N,Y,O,U,Z,_⟩
 ·rw[N,gI,pG,nR V];exact gI.1 J
 rw[J,N];have:a∉(fe i1).map (·.1):=by rw[pG,nR U];exact O
 unfold fe at this⊢;rw[aa1,aay];generalize (i1.map fun x:Int×Nat×PH=>(x.1,x.2.1))=z at this⊢
 induction z with
 |nil=>simp[aZ]
 |cons y z X=>
  simp only[aay,aaB,not_or]at this;simp only[aaL,aZ,this.1,if_false];exact X this.2
def sJ{D ins}(hI:fH K ins D.Iz)(a hs):∃J h U,Hk K D a ins hs J h U/\∀P O:PH,(J=none->(P::O::(bI ins++hs))=(P::O::U))/\(J≠none->(P::O::(bI ins++hs)).Perm (h::P::O::U)):=by
 cases hg:aZ a D.Iz with
 |none=>exact⟨none,em,_,.inl ⟨hg,rfl,rfl,rfl⟩,fun P O=>⟨fun _=>rfl,fun h=>absurd rfl h⟩⟩
 |some l=>
  obtain⟨i1,J,hi,mv,N,q1,q2,V,X,Y,Z,g5,g6,g7⟩:=Ft hI hg;have hl:D.ar a=l:=by unfold Dk.ar;rw[hg];rfl
  refine⟨some J,hi,bI i1++(bI N++hs),.inr ⟨J,i1,mv,N,q1,q2,I,V,by rw[hl];exact X,Y,Z,g5,g6,by rw[hl];exact g7,I⟩,fun P O=>⟨fun h=>(by cases h),fun _=>?_⟩⟩;rw[V];unfold bI;rw[aa1,aay,aaH,aaL];have p:(i1.map (·.2.2)++hi::(N.map (·.2.2)++hs)).Perm (hi::(i1.map (·.2.2)++(N.map (·.2.2)++hs))):=aaQ;exact((p.cons O).trans (aap hi O _)).cons P |>.trans (aap hi P _)
def P9(k bs):(List.take 0 (Array.replicate k (Value.int .u8 0)).toList++List.take (eq bs*1) (bv bs)++List.drop (0+eq bs*1) (Array.replicate k (Value.int .u8 0)).toList).toArray=(bv (bs++List.replicate (k-eq bs) 0)).toArray:=by
 have J:List.take (eq bs*1) (bv bs)=bv bs:=aaA (by simp[bv]);rw[J];simp[bv]
def PF(bs):(List.take 0 (Array.replicate 64 (Value.int .u8 0)).toList++List.take (eq bs*1) (bv bs)++List.drop (0+eq bs*1) (Array.replicate 64 (Value.int .u8 0)).toList).toArray=(bv (fp bs)).toArray:=P9 64 bs
attribute [local irreducible] Code.wp wpList Calls
def NV{hv:PH}{m:Ac}(b D c)(o:D.Ok c)(hc:c<=1099511627)(hm:gP K b D m)(area n)(ha:0<=area/\area<=18446744073709551615)(ao cap bs)(bq:In K hs hv)(x:aj hv ao (eq bs) cap 1 (bv bs)):
  ai w0 207 [Rp b,.int .u64 area,.int .i64 n,.slice ao (eq bs) cap] K (m++hs)
   (fun v K' hs'=>Le K K'/\∃m',hs'=m'++hs/\gP K' b (D.write area n bs).1 m'/\v=.int .i64 (D.write area n bs).2):=by
 obtain⟨X,ho,ins,rfl,hO,hI⟩:=hm;obtain⟨bi,hA,tl,aa,ak⟩:=sJ hI area hs;have ad:=qZ hI aa;obtain⟨Jd,N⟩:=a9 ((D.sec area n).getD ⟨[],false⟩);have b3:=o.room;refine ent Tryz.func207 ?_;refine acY ?_
 refine fin 1 I (th (jn (σ:=Ab×Nat×Nat) (fun s=>[(0,Rp b),(1,.int .u64 area),(2,.int .i64 n),(3,.slice ao (eq bs) cap),(8,.int .i64 0),(9,.pointer (some ⟨s.2.2,0,none⟩)),(10,.bool (D.sec area n).isSome)])
  (fun s=>pt s.2.2 #[.slice s.1 (eq Jd.vs) s.2.1,.bool Jd.R6] 136::hA::pt b (bY D X) 126::ho::tl) (fun s=>aj K s.1 (eq Jd.vs) s.2.1 1 (jO Jd.vs)) ?_ ?_))
 ·cases hbi:bi with
  |none=>
   rw[hbi]at ad aa;rw[show((pt b (bY D X) 126::ho::bI ins)++hs)=(pt b (bY D X) 126::ho::tl)from(ak _ _).1 hbi];rcases aa with⟨g1,_,rfl,g3⟩|⟨b',_,_,_,_,_,g1,_⟩
   ·have ap:D.sec area n=none:=by unfold Dk.sec Dk.ar;rw[g1];rfl
    rw[ap]at N;refine rg (WL.em (au ?_));refine iR 1 (z:=.map none) area I Tryz.underlying124 qk gM I (.inr ⟨2,I⟩) hO ?_;rw[ad];refine Hc 1 (z:=.agg Ik) n I Tryz.underlying129 qk lQ I (al 3 (.agg Ik) I qk fun b9=>?_);refine bA 0 0 I I qk I I ?_;refine fin 1 I ?_;rw[show Jd=⟨[],false⟩from N];exact jx (none,0,b9) (aj.nil _ _ _ _) ⟨I,I,I,I,I,I,by rw[ap];rfl,trivial⟩ rfl rfl
   cases g1
  |some bi=>
   rw[hbi]at ad aa;rcases aa with⟨_,g1,_⟩|⟨b',i1,mv,i2,q1,q2,g1,g2,g3,g4,g5,g6,an,aA,g9⟩
   ·cases g1
   cases g1;refine Bj ((ak _ _).2 (by rw[hbi];simp)) ?_;have am:D.sec area n=aZ n (D.ar area):=rfl;rcases MR.get n aA with⟨h1,h2⟩|⟨v,s,h1,h2,Y,cV,rfl,h3⟩
   ·rw[am,h2]at N;refine au ?_;refine iR 1 (z:=.map none) area I Tryz.underlying124 qk gM I (.inr ⟨2,I⟩) hO ?_;rw[ad];refine iR 1 (z:=.agg Ik) n I Tryz.underlying129 qk lQ I (.inr ⟨0,I⟩) an ?_;rw[h1];refine al 3 (.agg Ik) I qk fun b9=>?_;refine bA 0 0 I I qk I I ?_;refine fin 1 I ?_;rw[show Jd=⟨[],false⟩from N];exact jx (none,0,b9) (aj.nil _ _ _ _) ⟨I,I,I,I,I,I,by rw[am,h2];rfl,trivial⟩ rfl rfl
   rw[am,h2]at N;refine au ?_;refine iR 1 (z:=.map none) area I Tryz.underlying124 qk gM I (.inr ⟨2,I⟩) hO ?_;rw[ad];refine iR 1 (z:=.agg Ik) n I Tryz.underlying129 qk lQ I (.inr ⟨0,I⟩) an ?_;rw[h1];refine al 3 (.agg Ik) I qk fun b9=>?_;refine bA 0 0 I I qk I I ?_;refine fin 1 I ?_;rw[show Jd=s from N];exact jx (Y,cV,b9) h3 ⟨I,I,I,I,I,I,by rw[am,h2];rfl,trivial⟩ rfl rfl
 rintro⟨Y,cV,b9⟩ hV;dsimp only at *
 have aV:∀(P O:PH),bi=none/\hA=em/\(P::O::tl)=(P::O::(bI ins++hs))\/(hA::P::O::tl).Perm (P::O::(bI ins++hs)):=fun P O=>by
  cases hbi:bi with
  |none=>
   left
   rcases aa with⟨_,_,g2,g3⟩|⟨b',_,_,_,_,_,g1,_⟩
   ·exact⟨I,g2,by rw[g3]⟩
   rw[hbi]at g1;cases g1
  |some z=>exact .inr ((ak P O).2 (by rw[hbi];simp)).symm
 have U:∀{fn:Func} {R:Ao} {l:Sl},WQ w0 (bodyPost Tryz.prog fn (fU w0 R)) .ret 93 l K (pt b (bY D X) 126::ho::(bI ins++hs))->WQ w0 (bodyPost Tryz.prog fn (fU w0 R)) .ret 93 l K (pt b9 #[.slice Y (eq Jd.vs) cV,.bool Jd.R6] 136::hA::pt b (bY D X) 126::ho::tl):=fun {fn R l} h=>by
  refine Bh ?_;rcases aV (pt b (bY D X) 126) ho with⟨_,_,e⟩|p
  ·rw[e];exact Bh h
  exact Bk p h
 refine jn (σ:=Unit) (fun _=>[(0,Rp b),(1,.int .u64 area),(2,.int .i64 n),(3,.slice ao (eq bs) cap),(9,Rp b9),(10,.bool (D.sec area n).isSome)]) (fun _=>pt b9 #[.slice Y (eq Jd.vs) cV,.bool Jd.R6] 136::hA::pt b (bY D X) 126::ho::tl) (fun _=>¬D.dead=true/\¬(n<0\/65536<=n\/64<eq bs)/\¬((D.sec area n).isSome=false/\D.room=0)) ?_ ?_
 ·refine bk (acY (aX 3 2 (v:=.bool D.dead) I I I ?_));cases hdead:D.dead with
  |true=>
   refine au ?_;refine jr (U ?_);have e:D.write area n bs=(D,30):=by unfold Dk.write;rw[aab hdead]
   rw[e];exact af I I ⟨Cg _,_,I,⟨X,ho,ins,I,hO,hI⟩,I⟩
  |false=>
   refine fin 1 I (th (bP I ?_));have ag:¬D.dead=true:=by rw[hdead];simp
   refine acY (bc 1 I (fun h2=>?_) (fun h2=>?_))
   ·refine au ?_;refine jr (U ?_);have e:D.write area n bs=(D,31):=by unfold Dk.write;rw[aaa ag,aab (.inl h2)]
    rw[e];exact af I I ⟨Cg _,_,I,⟨X,ho,ins,I,hO,hI⟩,I⟩
   refine bc 2 I (fun h3=>?_) (fun h3=>?_)
   ·refine au ?_;refine jr (U ?_);have e:D.write area n bs=(D,31):=by unfold Dk.write;rw[aaa ag,aab (.inr (.inl qo))]
    rw[e];exact af I I ⟨Cg _,_,I,⟨X,ho,ins,I,hO,hI⟩,I⟩
   refine bc 4 I (fun h4=>?_) (fun h4=>?_)
   ·refine au ?_;refine jr (U ?_);have e:D.write area n bs=(D,31):=by unfold Dk.write;rw[aaa ag,aab (.inr (.inr qo))]
    rw[e];exact af I I ⟨Cg _,_,I,⟨X,ho,ins,I,hO,hI⟩,I⟩
   have aL:¬(n<0\/65536<=n\/64<eq bs):=qo
   refine fin 2 I<|th (bP I ?_)
   by_cases J:(D.sec area n).isSome=false/\D.room=0
   ·refine acY ?_;rw[J.1];refine au ?_;refine bc 0 I (fun h5=>au ?_) (fun h5=>absurd J.2 h5);refine jr (U ?_);have e:D.write area n bs=(D,32):=by unfold Dk.write;rw[aaa ag,aaa aL,aab J]
    rw[e];exact af I I ⟨Cg _,_,I,⟨X,ho,ins,I,hO,hI⟩,I⟩
   refine acY ?_;have hg:¬D.dead=true/\¬(n<0\/65536<=n\/64<eq bs)/\¬((D.sec area n).isSome=false/\D.room=0):=⟨ag,aL,J⟩;cases hse:(D.sec area n).isSome with
   |true=>
    refine fin 10 I (th (bP I (sk (bl ?_))));exact jx () (by rw[hse,hdead]at hg;exact hg) sb I I
   |false=>
    refine au ?_;refine bc 0 I (fun h5=>absurd ⟨hse,h5⟩ J) (fun h5=>fin 2 I (th (bP I (sk (bl ?_)))));exact jx () (by rw[hse,hdead]at hg;exact hg) sb I I
 rintro-⟨ag,aL,J⟩;have e:D.write area n bs=((D.laid area n bs).Ji,if(D.laid area n bs).Ji.dead=true then 30 else 0):=by unfold Dk.write;rw[aaa ag,aaa aL,aaa J]
 rw[e];obtain⟨D1,aR⟩:∃D1:Dk,D1={D with room:=if(D.sec area n).isSome=true then D.room else D.room-1}:=⟨_,rfl⟩;refine jn (σ:=Unit) (fun _=>[(0,Rp b),(1,.int .u64 area),(2,.int .i64 n),(3,.slice ao (eq bs) cap),(9,Rp b9),(10,.bool (D.sec area n).isSome)]) (fun _=>pt b9 #[.slice Y (eq Jd.vs) cV,.bool Jd.R6] 136::hA::pt b (bY D1 X) 126::ho::tl) (fun _=>True) ?_ ?_
 ·refine acY ?_;cases hse:(D.sec area n).isSome with
  |true=>
   refine fin 2 I (th (bP I (sk ?_)));exact jx () trivial sb I (by rw[aR,aab hse])
  |false=>
   have b2:0<D.room:=by
    have:¬D.room=0:=fun h=>J ⟨hse,h⟩;omega
   refine au ?_;refine ar 0 I (ba qo) (Ji 2 2 I I I I (fin 0 I ?_));exact jx () trivial sb I (by rw[aR,aaa (by rw[hse];simp)];rfl)
 rintro - -
 refine jn (σ:=PH×PH×Ac) (fun _=>[(0,Rp b),(1,.int .u64 area),(2,.int .i64 n),(3,.slice ao (eq bs) cap),(9,Rp b9),(10,.bool (D.sec area n).isSome)]) (fun s=>pt b9 #[.slice Y (eq Jd.vs) cV,.bool Jd.R6] 136::s.1::pt b (bY D1 X) 126::s.2.1::s.2.2)
  (fun s=>∃i1 bi mv i2 q1 q2,dH nD id s.1 bi mv/\MR (jX K) mv (D.ar area)/\dH kD sw s.2.1 X (fe (i1++(area,bi,s.1)::i2))/\fH K i1 q1/\fH K i2 q2/\area∉q1.map (·.1)/\(∀l,cj area l D.Iz=q1++(area,l)::q2)/\s.2.2=bI i1++(bI i2++hs)) ?_ ?_
 ·refine au ?_;refine iR 1 (z:=.map none) area I Tryz.underlying124 qk gM I (.inr ⟨3,I⟩) hO ?_;rw[ad];cases hbi:bi with
  |none=>
   rw[hbi]at ad aa;rcases aa with⟨g1,_,rfl,rfl⟩|⟨b',_,_,_,_,_,g1,_⟩
   ·refine cG 0 True I Q8 fun bb aO=>fin 0 I (th (ax aO I (fun _=>au ?_) (fun h=>absurd trivial h)));refine vj 1 I fun bm=>sF 0 4 area bm I I Tryz.underlying124 gM I I hO fun bB a0=>fin 0 I (Bk (iE _ 2 _ I) (Bh (Bk (aap _ _ _) (jx (sg bm (.map #[] 0),bB,bI ins++hs) ⟨ins,bm,[],[],D.Iz,[],dH.empty _ _,?_,?_,hI,trivial,gI.1 g1,fun l=>by rw[rq g1],I⟩ ⟨I,I,I,I,I,I,trivial⟩ I I))))
    ·unfold Dk.ar;rw[g1];trivial
    rw[rq ad]at a0;simpa[fe]using a0
   cases g1
  |some bi=>
   rw[hbi]at ad aa;rcases aa with⟨_,g1,_⟩|⟨b',i1,mv,i2,q1,q2,g1,g2,g3,g4,g5,g6,an,aA,g9⟩
   ·cases g1
   cases g1;refine cG 0 False I (by simp[sw]) fun bb aO=>fin 0 I (th (ax aO I (fun h=>h.elim) (fun _=>sk (jx (hA,ho,tl) ⟨i1,bi,mv,i2,q1,q2,an,aA,by rw[<-g2];exact hO,g5,g6,g4,fun l=>?_,g9⟩ sb I I))));rw[g3];exact yl g4
 rintro⟨aF,ab,b4⟩ ⟨i1,ay,mv,i2,q1,q2,an,aA,a1,g5,g6,g4,a5,rfl⟩;dsimp only at *;have a2:eq bs<=64:=qo
 have hk:eq Jd.vs<=c:=by
  cases ap:D.sec area n with
  |none=>rw[N,ap];simp
  |some s=>rw[N,ap];exact(o.SZ ap).2.1
 have aE:Y=none->eq Jd.vs=0:=fun h=>by
  rcases aa7 (eq Jd.vs)with h2|h2
  ·exact h2
  obtain⟨a,ha⟩:=hV.addr h2 Q9;rw[h]at ha;cases ha
 have xC:aj K (dE Y (eq Jd.vs) 0 1) (eq Jd.vs) (eq Jd.vs) 1 (jO Jd.vs):=by rw[pZ];exact⟨hV.1,aac _,hV.2.2⟩
 refine acY (al 0 (.agg (Array.replicate 64 (.int .u8 0))) I qk fun av=>au ?_);refine vi 0 (sz:=1) 0 64 I I Tryz.underlying245 qk I I (aac _) Q9 ?_;simp only[bf,aby,abb];refine Hg 1 0 (eq bs) I I I (In.tail (_::_::_::_::_::bI i1) (In.tail (bI i2) bq)) x qo (fun u hu=>gE bs u (aaS hu)) (by show 0+eq bs*1<=64;omega) ?_;refine Ew (pt av (bv (fp bs)).toArray 245::pt b9 #[.slice Y (eq Jd.vs) cV,.bool Jd.R6] 136::aF::pt b (bY D1 X) 126::ab::(bI i1++(bI i2++hs))) (congrArg (fun z=>pt av z 245::pt b9 #[.slice Y (eq Jd.vs) cV,.bool Jd.R6] 136::aF::pt b (bY D1 X) 126::ab::(bI i1++(bI i2++hs))) (PF bs)) ?_
 have xW:aj (pt av (bv (fp bs)).toArray 245) (some ⟨av,0,none⟩) 64 64 1 ((fp bs).map fun b=>Value.int .u8 b.toNat):=by
  have:=(aJ.Re (b:=av) (c:=(bv (fp bs)).toArray) (e:=245) (n:=64) (size:=1) (by simp[bv,xx a2]) At).Ni;simpa[bv]using this
 refine fin 0 I (th (kL (σ:=PH×Ab×Nat) (fun _=>[(0,Rp b),(1,.int .u64 area),(2,.int .i64 n),(9,Rp b9)]) (fun s=>s.1) (fun s=>pt b9 #[.slice s.2.1 (eq Jd.vs+1) s.2.2,.bool Jd.R6] 136::aF::pt b (bY D1 X) 126::ab::(bI i1++(bI i2++hs)))
  (fun s=>Le K s.1/\aj s.1 s.2.1 (eq Jd.vs+1) s.2.2 1 (jO (Jd.vs++[fp bs]))) ?_ ?_))
 ·refine bC [1,0] 8 [0,2,6,8,5,11,13,14,17] ?_;refine au ?_;refine Pv qk 0 (sz:=1) 0 64 I qk I Tryz.underlying245 qk I I (aac _) Q9 ?_;simp only[bf,aby,abb];refine PC qk 0 (fp bs) I qk I (.inr ⟨1,I⟩) xW qk (rX 5 qk 0 [5,13,14,17] I qk ?_ ?_)
  ·refine cl 0 I (FG Y (eq Jd.vs) cV hV.2.1) ?_;rintro bV a6 a4 ⟨rfl,rfl,rfl⟩;exact aP Q8 I (aB qk 0 I (lit 0 #[str (fp bs)] I Q9 qk fun aN=>aP Q8 I (aB qk 0 I (qn 0 I (.inl I) xC (by rw[pZ];exact aE) (.inr ⟨0,I⟩) (aJ.Re (b:=aN) (c:=#[str (fp bs)]) (e:=9) (n:=1) (size:=1) I At).Ni I Q9 qo (by show(eq Jd.vs+1)*16<=_;omega) As fun V ae bp aT=>Eg fun K2 Z l2=>Bf (dX Q8 Z (aB qk 1 rfl (Ji 0 1 rfl rfl rfl rfl (bQ (.inl qk) (aI qk 0 rfl (Bh (fM (K2,V,ae) ⟨Z,by simpa[jO]using aT.Ni.le l2⟩ sb rfl rfl)))))))))))
  refine lit 0 #[str (fp bs)] I Q9 qk fun aN=>aP Q8 I (aB qk 0 I (cl 0 I (FG Y (eq Jd.vs) cV hV.2.1) ?_));rintro bV a6 a4 ⟨rfl,rfl,rfl⟩;exact aP Q8 I (aB qk 0 I (qn 0 I (.inl I) xC (by rw[pZ];exact aE) (.inr ⟨0,I⟩) (aJ.Re (b:=aN) (c:=#[str (fp bs)]) (e:=9) (n:=1) (size:=1) I At).Ni I Q9 qo (by show(eq Jd.vs+1)*16<=_;omega) As fun V ae bp aT=>Eg fun K2 Z l2=>Bf (dX Q8 Z (aB qk 1 rfl (Ji 0 1 rfl rfl rfl rfl (bQ (.inl qk) (aI qk 0 rfl (Bh (fM (K2,V,ae) ⟨Z,by simpa[jO]using aT.Ni.le l2⟩ sb rfl rfl)))))))))
 rintro⟨K2,V,ae⟩ ⟨Z,b0⟩;dsimp only at *
 have aS:jX K2 (.agg #[.slice V (eq Jd.vs+1) ae,.bool Jd.R6]) (gp (D.sec area n) bs):=by
  refine⟨V,ae,?_,?_⟩
  ·unfold gp;rw[<-N];simp
  unfold gp;rw[<-N];simpa using b0
 refine sq (bO [pt b (bY D1 X) 126,ab,pt b9 #[.slice V (eq Jd.vs+1) ae,.bool Jd.R6] 136] 9 [0,2,4,6,8,10,12,14,17] Q8 qk qk (au ?_));refine GJ qk 1 (zv:=.map none) area I Tryz.underlying124 qk gM I (.inr ⟨1,I⟩) a1 ?_
 have a3:aZ area (fe (i1++(area,ay,aF)::i2))=some ay:=by
  have h0:area∉(fe i1).map (·.1):=by rw[pG,nR g5];exact g4
  have:=yo (u:=ay) (q2:=fe i2) h0;simpa[fe]using this
 rw[a3];refine ln qk 1 2 I qk I qk (aB qk 0 I (sF 0 1 n (.agg #[.slice V (eq Jd.vs+1) ae,.bool Jd.R6]) I I Tryz.underlying129 lQ I I an fun az aY=>aP Q8 I (aI qk 0 I (th (Bg (Bj (aap _ _ _) (sq (acY ?_))))))));have e1:bY D1 X=bY (D.laid area n bs) X:=by rw[aR];rfl
 refine Ew (pt b (bY (D.laid area n bs) X) 126::az::ab::(bI i1++(bI i2++hs))) (by rw[e1]) (cl 1 I (y0 b X (D.laid area n bs) (by have:=o.steps;simp only[Dk.laid];omega) o.left) ?_);rintro b5 aq b1 ⟨rfl,rfl,rfl⟩
 have fin:∀{fn:Func} {R:Ao} {l:Sl},(∀m',gP aq b (D.laid area n bs).Ji m'->WQ w0 (bodyPost Tryz.prog fn (fU w0 R)) .ret 93 l aq (m'++hs))->WQ w0 (bodyPost Tryz.prog fn (fU w0 R)) .ret 93 l aq (pt b (bY (D.laid area n bs).Ji X) 126::az::ab::(bI i1++(bI i2++hs))):=fun {fn R l} h=>by
  have aD:gP aq b (D.laid area n bs).Ji (pt b (bY (D.laid area n bs).Ji X) 126::ab::bI (i1++(area,ay,az)::i2)):=by
   refine⟨X,ab,i1++(area,ay,az)::i2,I,by simpa[fe]using a1,?_⟩;show fH aq _ (cj area (cj n (gp (D.sec area n) bs) (D.ar area)) D.Iz);rw[a5];exact(g5.le Z).app ⟨I,⟨_,aY,MR.set aS (aA.imp fun _ _ h=>h.le Z)⟩,g6.le Z⟩
  refine Bk ?_ (h _ aD);unfold bI;rw[aa1,aay,aaL,aaL,aaH,aaL];exact((aap ab az _).trans (List.perm_middle.symm.cons ab)).cons _
 cases hst:(D.laid area n bs).Ji.dead with
 |true=>
  exact Bi (List.Perm.refl _)<|En.fin 0 I (th<|dk I (acY (En.fin 1 I<|ac0<|rT (fin fun m' aD=>af I I ⟨Z,m',I,aD,I⟩))))
 |false=>
  exact En.fin 0 I<|th (bP I<|sk (acV<|En.fin 1 I (ac0 (fin fun m' aD=>af I I ⟨Z,m',I,aD,I⟩))))
end
section
theorem wN{κ ν}[DecidableEq κ]{k}:∀{q:List (κ×ν)},aZ k q=none->dN k q=q
 |[],_=>rfl
 |(j,w)::q,h=>by
  by_cases e:k=j
  ·simp[aZ,e]at h
  simp only[aZ,e,if_false]at h;simp only[dN,e,if_false];rw[wN h]
attribute [local irreducible] Code.wp wpList Calls
def eX(r:Int):Dk:=⟨r,0,[],-1,false⟩
def OU{r}(h:0<=r/\r<=2^40):(eX r).Ok 0:=⟨by simp[eX],by simp[eX],by simp[eX],h,by simp[eX],by simp[eX],by simp[eX]⟩
def FY(r)(U:0<=r/\r<=2^40):ai w0 47 [.int .i64 r] K hs
  (fun v N hs'=>N=K/\∃b m,hs'=m++hs/\gP K b (eX r) m/\v=Rp b):=by
 refine cP Tryz.func47 ?_;refine ar 1 I (v':=.int .i64 r) (by rw[show(if r<0 then(0:Int)else r)=r from by rw[aaa qo]]) (vj 0 I fun J=>bd 0 (.agg (bY (eX r) J)) I Aq (bx 0 I fun O=>au ?_));exact af I I ⟨I,O,_,I,⟨J,_,[],I,dH.empty _ _,trivial⟩,I⟩
def PB{m:Ac}(b D)(hm:gP K b D m):ai w0 100 [Rp b] K (m++hs)
  (fun v J hs'=>J=K/\hs'=m++hs/\v=.bool D.dead):=by
 obtain⟨N,ho,ins,rfl,U,O⟩:=hm;refine ent Tryz.func100 ?_;refine acY (fin 1 I (acV (aX 3 0 (v:=.bool D.dead) I I I (au ?_))));exact af I I ⟨I,I,I⟩
def On{m:Ac}(b D c)(o:D.Ok c)(hc:c<=1099511627)(hm:gP K b D m)(area n):
  ai w0 109 [Rp b,.int .u64 area,.int .i64 n] K (m++hs)
   (fun v K' hs'=>Le K K'/\hs'=m++hs/\((D.read area n=none/\v=.tuple Ik) \/
    ∃Z ao cap,D.read area n=some Z/\eq Z=64/\v=.tuple #[.slice ao (eq Z) cap,.bool true]/\aj K' ao (eq Z) cap 1 (bv Z))):=by
 obtain⟨bo,ho,ins,rfl,hO,hI⟩:=hm;obtain⟨bi,hA,tl,J,Y⟩:=sJ hI area hs;have N:=qZ hI J;refine ent Tryz.func109 ?_;refine acY (fin 2 I (th ?_));cases X:bi with
 |none=>
  rw[X]at N J;rcases J with⟨V,_,rfl,g3⟩|⟨b',_,_,_,_,_,V,_⟩
  ·have O:D.read area n=none:=by unfold Dk.read Dk.sec Dk.ar;rw[V];rfl
   refine au ?_;refine iR 1 (z:=.map none) area I Tryz.underlying124 qk gM I (.inr ⟨1,I⟩) hO ?_;rw[N];refine Hc 1 (z:=.agg Ik) n I Tryz.underlying129 qk lQ I (al 3 (.agg Ik) I qk fun b9=>?_);refine bA 0 0 I I qk I I ?_;exact fin 1 I (acU (fin 2 I (th (dk I (acY (fin 2 I (ac0 (rT (Bh (bS I I I ⟨Cg _,I,.inl ⟨O,I⟩⟩))))))))))
  cases V
 |some bi=>
  rw[X]at N J;rcases J with⟨_,V,_⟩|⟨b',i1,mv,i2,q1,q2,V,g2,g3,g4,g5,g6,aa,ak,g9⟩
  ·cases V
  cases V;have hp:=(Y (pt b (bY D bo) 126) ho).2 (by rw[X];simp);refine Bj hp ?_;have U:D.sec area n=aZ n (D.ar area):=rfl;rcases MR.get n ak with⟨h1,h2⟩|⟨v,s,h1,h2,av,cV,rfl,h3⟩
  ·have O:D.read area n=none:=by unfold Dk.read;rw[U,h2];rfl
   refine au ?_;refine iR 1 (z:=.map none) area I Tryz.underlying124 qk gM I (.inr ⟨2,I⟩) hO ?_;rw[N];refine iR 1 (z:=.agg Ik) n I Tryz.underlying129 qk lQ I (.inr ⟨0,I⟩) aa ?_;rw[h1];refine al 3 (.agg Ik) I qk fun b9=>?_;refine bA 0 0 I I qk I I ?_;exact fin 1 I (acU (fin 2 I (th (dk I (acY (fin 2 I (ac0 (rT (Bh (Bk hp.symm (bS I I I ⟨Cg _,I,.inl ⟨O,I⟩⟩)))))))))))
  obtain⟨k1,k2,k3⟩:=o.SZ (show D.sec area n=some s by rw[U,h2])
  have ap:0<eq s.vs:=by
   rcases aa7 (eq s.vs)with h|h
   ·exact absurd (aaY h) k1
   exact h
  have O:D.read area n=some (s.vs.getLastD []):=by unfold Dk.read;rw[U,h2];rfl
  have ad:(jO s.vs)[eq s.vs-1]?=some (str (s.vs.getLastD [])):=by
   unfold jO;rw[abf,abH,List.getLast?_eq_getElem?];rw[aai qo]
   rfl
  have ae:eq (s.vs.getLastD [])=64:=by
   rw[abH,acm k1];exact k3 _ (List.getLast_mem k1)
  refine au ?_;refine iR 1 (z:=.map none) area I Tryz.underlying124 qk gM I (.inr ⟨2,I⟩) hO ?_;rw[N];refine iR 1 (z:=.agg Ik) n I Tryz.underlying129 qk lQ I (.inr ⟨0,I⟩) aa ?_;rw[h1];refine al 3 (.agg Ik) I qk fun b9=>?_;refine bA 0 0 I I qk I I ?_;exact fin 1 I (acU (fin 2 I (th (bP I (sk (acV (aX 1 0 I I I (aX 1 0 I I I (ar 1 I (ba qo) (ej 0 (eq s.vs-1) I qo I h3 ad fun aq ab=>ld 0 I (.inl I) ab (Hf 0 I qk fun ay ag az an=>Eg fun K2 am l2=>fin 2 I (ac0 (Bh (Bk hp.symm (bS I I I ⟨am,I,.inr ⟨_,_,ag,O,ae,I,an.le l2⟩⟩)))))))))))))))
def Pt{m:Ac}(b D c)(o:D.Ok c)(hc:c<=1099511627)(hm:gP K b D m)(area):
  ai w0 58 [Rp b,.int .u64 area] K (m++hs)
   (fun v K' hs'=>K'=K/\∃m',hs'=m'++hs/\gP K b (D.free area).1 m'/\v=.int .i64 (D.free area).2):=by
 obtain⟨V,ho,ins,rfl,Z,hI⟩:=hm;have hr:=o.room;have ak:=(o.Sv area).2;refine ent Tryz.func58 ?_;refine acY (fin 1 I (acU (aX 3 0 (v:=.bool D.dead) I I I ?_)));cases hd:D.dead with
 |true=>
  have e:D.free area=(D,30):=by unfold Dk.free;rw[aab hd]
  rw[e];refine au ?_;exact af I I ⟨I,_,I,⟨V,ho,ins,I,Z,hI⟩,I⟩
 |false=>
  refine cl 2 I (y0 b V D (by have:=o.steps;omega) o.left) ?_;rintro am aa ag ⟨rfl,rfl,rfl⟩;cases hst:D.Ji.dead with
  |true=>
   have e:D.free area=(D.Ji,30):=by unfold Dk.free;rw[aaa (by rw[hd];simp),aab hst]
   rw[e];refine au ?_;exact af I I ⟨I,pt b (bY D.Ji V) 126::ho::bI ins,I,⟨V,ho,ins,I,Z,hI⟩,I⟩
  |false=>
   have e:D.free area=({D.Ji with room:=D.room+(eq (D.ar area):Int),Iz:=dN area D.Iz},0):=by unfold Dk.free;rw[aaa (by rw[hd];simp),aaa (by rw[hst];simp)]
   rw[e];refine fin 1 I (th (bP I (sk (th ?_))));obtain⟨bi,hA,tl,N,Y⟩:=sJ hI area hs;have O:=qZ hI N;cases hbi:bi with
   |none=>
    rw[hbi]at O N;rcases N with⟨X,_,rfl,g3⟩|⟨b',_,_,_,_,_,X,_⟩
    ·have ae:D.ar area=[]:=by unfold Dk.ar;rw[X];rfl
     refine sq (bO [pt b (bY D.Ji V) 126,ho] 14 [0,2,4,6,8,10,12,14,16,18,20,22,24,26,29] Q8 qk qk (bR qk 3 0 (v:=.int .i64 D.room) I qk I I (au ?_)));refine F9 qk 1 (zv:=.map none) area I qk I Tryz.underlying124 qk gM I (.inr ⟨1,I⟩) Z ?_;rw[O];refine Pw qk 0 I qk I Tryz.underlying129 (bF qk 0 I (v':=.int .i64 (D.room+(eq (D.ar area):Int))) (by rw[ae];exact ba Au) (au ?_));refine Hb 1 1 area I I Tryz.underlying124 gM I Z fun U J=>au ?_;rw[wN O]at J;refine af I I ⟨I,pt b (bY {D.Ji with room:=D.room+(eq (D.ar area):Int),Iz:=dN area D.Iz} V) 126::U::bI ins,I,⟨V,U,ins,I,J,?_⟩,I⟩;show fH aa ins (dN area D.Iz);rw[wN X];exact hI
    cases X
   |some bi=>
    rw[hbi]at O N;rcases N with⟨_,X,_⟩|⟨b',i1,mv,i2,q1,q2,X,g2,g3,g4,g5,g6,ad,ab,rfl⟩
    ·cases X
    cases X;have hp:=(Y (pt b (bY D.Ji V) 126) ho).2 (by rw[hbi];simp);refine Bj hp (sq (bC [1,2,0] 14 [0,2,4,6,8,10,12,14,16,18,20,22,24,26,29] ?_));refine bR qk 3 0 (v:=.int .i64 D.room) I qk I I (au ?_);refine F9 qk 1 (zv:=.map none) area I qk I Tryz.underlying124 qk gM I (.inr ⟨1,I⟩) Z ?_;rw[O];refine P6 qk 0 I qk I Tryz.underlying129 (.inr ⟨2,I⟩) ad ?_;rw[ab.len];refine bF qk 0 I (v':=.int .i64 (D.room+(eq (D.ar area):Int))) (ba qo) (aB qk 2 I (Ji 0 1 I I I I (bQ (.inl qk) (aI qk 0 I (th (Bg (acY (au ?_))))))));refine Hb 1 1 area I I Tryz.underlying124 gM I Z fun U J=>au ?_;refine af I I ⟨I,pt b (bY {D.Ji with room:=D.room+(eq (D.ar area):Int),Iz:=dN area D.Iz} V) 126::U::bI (i1++i2),by simp[bI];rfl,⟨V,U,i1++i2,rfl,?_,?_⟩,rfl⟩
    ·rw[g2]at J;have h0:area∉(fe i1).map (·.1):=by rw[pG,nR g5];exact g4
     have:=yp (u:=bi) (q2:=fe i2) h0;have h3:fe (i1++(area,bi,hA)::i2)=fe i1++(area,bi)::fe i2:=by simp[fe]
     rw[h3,this]at J;simpa[fe]using J
    show fH aa (i1++i2) (dN area D.Iz);rw[g3,yp g4];exact g5.app g6
end
section
def go(ks:Ae)(x:Int×gx):Int×gx:=if x.1∈ks then(x.1,jJ x.2)else x
def tz(ks x):(go ks x).1=x.1:=by unfold go;split<;>rfl
def JG(ks:Ae)(l:Ar):(l.map (go ks)).map (·.1)=l.map (·.1):=by
 rw[aa8];exact abn fun x _=>tz ks x
def A9{ks k x}(h:x.1≠k):go (ks++[k]) x=go ks x:=by
 unfold go
 by_cases e:x.1∈ks
 ·rw[aab e,aab (by simp[e])]
 rw[aaa e,aaa (by simp[e,h])]
theorem DK{k s}{ks:Ae}(Y:k∉ks):∀{l:Ar},(l.map (·.1)).Nodup->(k,s)∈l.map (go ks)->cj k (jJ s) (l.map (go ks))=l.map (go (ks++[k]))
 |[],_,h=>by simp at h
 |(j,t)::l,J,h=>by
  simp only[aay,aa9]at J
  by_cases e:k=j
  ·subst e;have X:go ks (k,t)=(k,t):=by unfold go;rw[aaa Y]
   have N:go (ks++[k]) (k,t)=(k,jJ t):=by unfold go;rw[aab Q8]
   have O:s=t:=by
    rw[aay,aaB,X]at h;rcases h with h|h
    ·exact(aah _ _ _ _ ▸ h).2
    exfalso
    obtain⟨x,U,V⟩:=aau.1 h;have:x.1=k:=by rw[<-tz ks x,V]
    exact J.1<|aau.2 ⟨x,U,this⟩
   subst O;rw[aay,X,aay,N];simp only[cj,if_true]
   congr 1
   exact abn fun x U=>(A9 (fun h=>J.1<|aau.2 ⟨x,U,h⟩)).symm
  have hj:(go ks (j,t)).1=j:=tz ks _
  have Z:(k,s)∈l.map (go ks):=by
   rw[aay,aaB]at h;rcases h with h|h
   ·exact absurd (by rw[<-h]at hj;exact hj) e
   exact h
  rw[aay,aay,A9 (by exact fun h=>e h.symm)];cases hq:go ks (j,t)with
  |mk a b=>
   rw[hq]at hj;dsimp only at hj;subst hj;simp only[cj,e,if_false];rw[DK Y J.2 Z]
def MF{ks}{l:Ar}(h:∀x∈l,x.1∈ks):l.map (go ks)=l.map fun x=>(x.1,jJ x.2):=
 abn fun x J=>by unfold go;rw[aab (h x J)]
def nq:Ar->Ae->Nat
 |[],_=>0
 |x::l,ks=>(if x.1∈ks then 0 else 1)+nq l ks
theorem DI(ks k):∀l:Ar,nq l (ks++[k])<=nq l ks
 |[]=>aac _
 |x::l=>by
  have:=DI ks k l;simp only[nq]
  by_cases e:x.1∈ks
  ·rw[aab e,aab (by simp[e])];omega
  rw[aaa e];split<;>omega
theorem DH{ks:Ae}{k}(N:k∉ks):∀{l:Ar},k∈l.map (·.1)->nq l (ks++[k])<nq l ks
 |[],h=>by simp at h
 |x::l,h=>by
  simp only[nq]
  by_cases e:x.1=k
  ·have:=DI ks k l;rw[aab (by simp[e]),aaa (by rw[e];exact N)];omega
  have O:k∈l.map (·.1):=by
   rw[aay,aaB]at h;rcases h with h|h
   ·exact absurd h.symm e
   exact h
  have:=DH N O
  by_cases J:x.1∈ks
  ·rw[aab J,aab (by simp[J])];omega
  rw[aaa J,aaa (by simp[J,e])];omega
attribute [local irreducible] Code.wp wpList Calls
def Pa{m:Ac}(b D c)(o:D.Ok c)(hc:c<=1099511627)(hm:gP K b D m)(area):
  ai w0 175 [Rp b,.int .u64 area] K (m++hs)
   (fun v K' hs'=>K'=K/\∃m',hs'=m'++hs/\gP K b (D.sync area).1 m'/\v=.int .i64 (D.sync area).2):=by
 obtain⟨O,ho,ins,rfl,Y,hI⟩:=hm;have hr:=o.room;refine ent Tryz.func175 ?_;refine acY (fin 1 I (acU (aX 3 0 (v:=.bool D.dead) I I I ?_)));cases hd:D.dead with
 |true=>
  have e:D.sync area=(D,30):=by unfold Dk.sync;rw[aab hd]
  rw[e];refine au ?_;exact af I I ⟨I,_,I,⟨O,ho,ins,I,Y,hI⟩,I⟩
 |false=>
  refine cl 2 I (y0 b O D (by have:=o.steps;omega) o.left) ?_;rintro aY N aV ⟨rfl,rfl,rfl⟩;cases hst:D.Ji.dead with
  |true=>
   have e:D.sync area=(D.Ji,30):=by unfold Dk.sync;rw[aaa (by rw[hd];simp),aab hst]
   rw[e];refine au ?_;exact af I I ⟨I,pt b (bY D.Ji O) 126::ho::bI ins,I,⟨O,ho,ins,I,Y,hI⟩,I⟩
  |false=>
   have e:D.sync area=({D.Ji with Iz:=D.RF area},0):=by unfold Dk.sync;rw[aaa (by rw[hd];simp),aaa (by rw[hst];simp)]
   rw[e];refine fin 1 I (th (bP I (sk (th ?_))));obtain⟨bi,hA,tl,U,ae⟩:=sJ hI area hs;have X:=qZ hI U;cases hbi:bi with
   |none=>
    rw[hbi]at X U;rcases U with⟨Z,_,rfl,g3⟩|⟨b',_,_,_,_,_,Z,_⟩
    ·refine au ?_;refine iR 1 (z:=.map none) area I Tryz.underlying124 qk gM I (.inr ⟨1,I⟩) Y ?_;rw[X];refine PZ 0 I Tryz.underlying129 fun r=>au ?_;refine loop (σ:=Unit) (fun _=>[(21,Rp r)]) (fun _=>N) (fun _=>sg r (.mapIter none 0 #[] 0)::pt b (bY D.Ji O) 126::ho::(bI ins++hs)) (fun _=>True) (fun _=>0) () trivial sb I I ?_;rintro - -;refine acY (P1 0 I (.inr ⟨0,I⟩) (fin 1 I (th (sq (bP I (ex (xt (xt (xb (acV (fin 1 I (ac0 (Bh (af I I ⟨I,pt b (bY D.Ji O) 126::ho::bI ins,I,⟨O,ho,ins,I,Y,?_⟩,I⟩))))))))))))));show fH N ins (D.RF area);unfold Dk.RF;rw[Z];exact hI
    cases Z
   |some bi=>
    rw[hbi]at X U;rcases U with⟨_,Z,_⟩|⟨b',i1,mv,i2,q1,q2,Z,g2,g3,g4,g5,g6,aA,az,rfl⟩
    ·cases Z
    cases Z;have hp:=(ae (pt b (bY D.Ji O) 126) ho).2 (by rw[hbi];simp);have an:=(o.Sv area).1;have aD:aZ area D.Iz=some (D.ar area):=by rw[g3];exact yo g4
    refine Bj hp (au ?_);refine iR 1 (z:=.map none) area I Tryz.underlying124 qk gM I (.inr ⟨2,I⟩) Y ?_;rw[X];refine zT 0 I Tryz.underlying129 (.inr ⟨0,I⟩) aA fun r hi av=>au ?_
    refine loop (σ:=PH×PH×List (Int×Value)×Ae) (fun _=>[(0,Rp b),(1,.int .u64 area),(21,Rp r)]) (fun _=>N)
     (fun s=>s.1::s.2.1::pt b (bY D.Ji O) 126::ho::(bI i1++(bI i2++hs))) (fun s=>ke nD id s.2.1 s.1 bi r s.2.2.1 s.2.2.2/\MR (jX N) s.2.2.1 ((D.ar area).map (go s.2.2.2))) (fun s=>nq (D.ar area) s.2.2.2)
     (hi,hA,mv,[]) ⟨av,by rw[show(D.ar area).map (go [])=D.ar area from by rw[abn (g:=id) (fun x _=>by simp[go])];simp];exact az⟩ sb I I ?_
    rintro⟨hi,hA,mv,ks⟩ ⟨hJ,hR⟩;dsimp only at *;have J:mv.map (·.1)=(D.ar area).map (·.1):=by rw[hR.keys,JG]
    refine acY (zU 0 0 I (.inr ⟨1,I⟩) I hJ (by rw[J];exact an) (fun k v aE V ad hS=>?_) (fun ak=>?_))
    ·obtain⟨s,ap,ao,cv,rfl,hV⟩:=hR.mem V;have aF:k∈(D.ar area).map (·.1):=by rw[<-J];exact aau.2 ⟨_,V,I⟩
     have hs2:(k,s)∈D.ar area:=by
      obtain⟨x,hx,ag⟩:=aau.1 ap;have aR:x.1=k:=by rw[<-tz ks x,ag]
      have:go ks x=x:=by unfold go;rw[aaa (by rw[aR];exact ad)]
      rw[this]at ag;rw[<-ag];exact hx
     obtain⟨l0,aL,aN⟩:=Bb _ hs2;rw[aN]at hs2;obtain⟨v1,v2,_⟩:=o.vs _ aL _ hs2
     replace v2:eq s.vs<=c:=v2
     replace v1:s.vs≠[]:=v1
     have aT:0<eq s.vs:=by
      rcases aa7 (eq s.vs)with h|h
      ·exact absurd (aaY h) v1
      exact h
     have ab:((jO s.vs).drop ((eq s.vs-1)*1)).take (1*1)=jO [s.vs.getLastD []]:=by
      unfold jO
      have gw:s.vs.drop (eq s.vs-1)=[s.vs.getLast v1]:=by
       rw[aaI qo,List.getLast_eq_getElem,abj qo]
      rw[aaf,aaf,<-List.map_drop,<-List.map_take,gw];rw[abH,acm v1]
      rfl
     have am:=hV.cut (eq s.vs-1) 1 qo ab;refine au ?_;refine zV 0 I (.inr ⟨1,I⟩) (.inr ⟨0,I⟩) hS (al 2 (.agg Ik) I qk fun b6=>?_);refine bA 1 0 I I qk I I ?_;refine fin 0 I (th (bC [3,4,0] 16 [0,2,4,6,8,10,12,14,16,18,20,22,24,26,28,31] ?_));refine au ?_;refine GJ qk 1 (zv:=.map none) area I Tryz.underlying124 qk gM I (.inr ⟨1,I⟩) Y ?_;rw[X];refine au ?_;refine bF qk 1 I (v':=.int .i64 (eq s.vs-1:Nat)) (by rw[show((eq s.vs:Nat):Int)-1=((eq s.vs-1:Nat):Int)from qo];exact ba qo) (oP qk 0 (eq s.vs-1) 1 I I I Au (by have:=hV.2.1;omega) (jh qk 0 (.agg #[.slice (dE ao cv (eq s.vs-1) 1) 1 (cv-(eq s.vs-1)),.bool true]) rfl Aq (au ?_)));refine P0 0 2 k (.agg #[.slice (dE ao cv (eq s.vs-1) 1) 1 (cv-(eq s.vs-1)),.bool true]) I I Tryz.underlying129 lQ I I hS.1 ?_ fun aq ay=>?_
     ·cases hg:aZ k mv with
      |some u=>rfl
      |none=>exact absurd (aau.2 ⟨_,V,rfl⟩) (gI.1 hg)
     refine aP Q8 I (aI qk 0 I (bl (Bh (bn (x:=(hi,hA,mv,ks)) (aE,aq,cj k _ mv,ks++[k]) ⟨I,I,I,trivial⟩ I I ⟨ay,?_⟩ (DH ad aF)))));dsimp only;rw[<-DK ad an ap];exact hR.set ⟨_,_,I,am⟩
    refine fin 1 I<|th (sq<|bP I (ex<|xt (xt<|xb (acV<|fin 1 I (ac0 (Bh ?_))))))
    have aa:∀x∈D.ar area,x.1∈ks:=fun x hx=>by
     have:x.1∈mv.map (·.1):=by rw[J];exact aau.2 ⟨x,hx,I⟩
     obtain⟨y,hy,aS⟩:=aau.1 this;rw[<-aS];exact ak y hy
    have aO:gP N b {D.Ji with Iz:=D.RF area} (pt b (bY D.Ji O) 126::ho::bI (i1++(area,bi,hA)::i2)):=by
     refine⟨O,ho,i1++(area,bi,hA)::i2,I,?_,?_⟩
     ·rw[g2]at Y;simpa[fe]using Y
     show fH N _ (D.RF area);unfold Dk.RF;rw[aD];dsimp only
     rw[show cj area ((D.ar area).map fun x=>(x.1,jJ x.2)) D.Iz=q1++(area,(D.ar area).map fun x=>(x.1,jJ x.2))::q2 from by
      conv=>lhs;rw[g3]
      exact yl g4]
     rw[MF aa]at hR;exact g5.app ⟨I,⟨_,hJ.map,hR⟩,g6⟩
    refine Bk ?_ (af I I ⟨I,_,I,aO,I⟩);unfold bI;rw[aa1,aay,aaL,aaL,aaH,aaL];exact((aap (pt b (bY D.Ji O) 126) hA _).trans (((aap ho hA _).trans (List.perm_middle.symm.cons ho)).cons _))
end
section
def Ql(i j:Nat)(xs:Af):Af:=(xs.set i (xs.getD j 0)).set j (xs.getD i 0)
def m8(i j xs):eq (Ql i j xs)=eq xs:=by simp[Ql]
def DL{i j xs}(hi:i<eq xs)(hj:j<eq xs)(k):(Ql i j xs)[k]?=if k=j then some (xs.getD i 0)else if k=i then some (xs.getD j 0)else xs[k]?:=by
 unfold Ql;rw[abI]
 by_cases J:j=k
 ·rw[aab J,aab J.symm,aab (by simpa using hj)]
 rw[aaa J,aaa (Ne.symm J),abI]
 by_cases e2:i=k
 ·rw[aab e2,aab e2.symm,aab qo]
 rw[aaa e2,aaa (Ne.symm e2)]
structure bK (a b:Nat) (xs ys:Af):Prop where
 len:eq ys=eq xs
 out:∀i,i<a\/b<=i->ys[i]?=xs[i]?
 perm:ys.Perm xs
theorem bK.refl(a b xs):bK a b xs xs:=⟨rfl,fun _ _=>rfl,List.Perm.refl _⟩
theorem bK.trans{a b xs ys zs}(h:bK a b xs ys)(g:bK a b ys zs):bK a b xs zs:=
 ⟨g.len.trans h.len,fun i hi=>(g.out i hi).trans (h.out i hi),g.perm.trans h.perm⟩
def bK.wide{a b c d xs ys}(h:bK a b xs ys)(J:c<=a)(N:b<=d):bK c d xs ys:=
 ⟨h.len,fun i hi=>h.out i qo,h.perm⟩
def KZ{i j xs}(hi:i<eq xs)(hj:j<eq xs):(Ql i j xs).Perm xs:=by
 rw[List.perm_iff_count];intro v;unfold Ql;have J:xs.getD i 0=xs[i]:=by rw[aaR,aai hi];rfl
 have N:xs.getD j 0=xs[j]:=by rw[aaR,aai hj];rfl
 rw[J,N,List.count_set (by simpa using hj),List.count_set hi]
 by_cases e:i=j
 ·subst e
  simp
  by_cases h:xs[i]=v
  ·have:0<List.count v xs:=List.count_pos_iff.2 (by rw[<-h];exact abx hi);simp[h];omega
  simp[h]
 have O:(xs.set i xs[j])[j]'(by simpa using hj)=xs[j]:=by rw[List.getElem_set_ne (fun h=>e h)]
 rw[O]
 have U:(if(xs[i]==v)=true then 1 else 0)<=List.count v xs:=by
  split
  ·rename_i h;have h:=eq_of_beq h;exact List.count_pos_iff.2 (by rw[<-h];exact abx hi)
  exact aad _
 omega
theorem bK.Ql{a b i j xs}(J:a<=i/\i<b)(N:a<=j/\j<b)(hb:b<=eq xs):bK a b xs (Ql i j xs):=
 ⟨m8 i j xs,fun k O=>by rw[DL qo qo,aaa qo,aaa qo],KZ qo qo⟩
def dz(a b:Nat)(xs:Af):Prop:=∀i j,a<=i->i<j->j<b->xs.getD i 0<=xs.getD j 0
def jd(l:Af):Ad:=l.map fun x=>Value.int .u64 (x:Nat)
abbrev kI(kd:Bool):IntKind:=match kd with|true=>.u64|false=>.i64
abbrev sf(kd:Bool)(a b:Nat):Nat:=match kd with|true=>a|false=>b
def iC(kd:Bool)(l:Af):Ad:=l.map fun x=>Value.int (kI kd) ((x:Nat):Int)
def fG(kd:Bool)(n:Int):Value:=.int (kI kd) n
def kA(kd:Bool)(pre:Ad)(xs:Af)(post:Ad):Ah:=(pre++iC kd xs++post).toArray
def bN{kd pre xs post i}(h:i<eq xs):(kA kd pre xs post)[eq pre+i]?=some (.int (kI kd) ((xs.getD i 0:Nat):Int)):=by
 unfold kA;rw[List.getElem?_toArray,aaH,abc qo,ab0,abE (by simpa[iC]using h)];simp[iC,h,aaR]
def eK{kd pre xs post i v}(h:i<eq xs):(kA kd pre xs post).setIfInBounds (eq pre+i) (.int (kI kd) ((v:Nat):Int))=kA kd pre (xs.set i v) post:=by
 unfold kA;rw[List.setIfInBounds_toArray,aaH,aco _ _ qo,ab0,List.set_append_left _ _ (by simpa[iC]using h)];simp[iC]
def pX{kd g e pre xs post cap}(N:eq xs<=cap):aj (pt g (kA kd pre xs post) e) (some ⟨g,eq pre,none⟩) (eq xs) cap 1 (iC kd xs):=by
 refine⟨by simp[iC],N,fun j u J=>⟨_,I,?_⟩⟩
 have hj:j<eq xs:=by
  have:=(aav.1 J).1;simpa[iC]using this
 rw[bf];refine co.pt ?_;rw[bN hj];simp[iC,hj]at J;rw[<-J];simp[aaR,hj]
end
section
def jY(a i j:Nat)(xs:Af):Prop:=∀p q,a<=p->p<q->q<=i->q≠j->xs.getD p 0<=xs.getD q 0
def jY.start{a i xs}(h:dz a i xs):jY a i i xs:=fun p q J N O U=>h p q J N qo
def jY.done{a i xs}(h:jY a i a xs):dz a (i+1) xs:=fun p q J N O=>h p q J N qo qo
def jY.stop{a i j xs}(h:jY a i j xs)(hj:a<j)(J:xs.getD (j-1) 0<=xs.getD j 0):dz a (i+1) xs:=fun p q N O U=>by
 by_cases e:q=j
 ·subst e
  by_cases e2:p=q-1
  ·subst e2;exact J
  exact aat (h p (q-1) N qo qo qo) J
 exact h p q N O qo e
def kj{i j xs}(hi:i<eq xs)(hj:j<eq xs)(k):(Ql i j xs).getD k 0=if k=j then xs.getD i 0 else if k=i then xs.getD j 0 else xs.getD k 0:=by
 rw[aaR,DL hi hj]
 split
 ·rfl
 split
 ·rfl
 rw[aaR]
def jY.swap{a i j xs}(h:jY a i j xs)(hj:a<j)(hi:j<=i)(hl:i<eq xs)(Y:xs.getD j 0<xs.getD (j-1) 0):jY a i (j-1) (Ql j (j-1) xs):=fun p q U V N X=>by
 rw[kj qo qo,kj qo qo];rw[aaa X]
 by_cases J:q=j
 ·rw[aab J]
  by_cases e2:p=j-1
  ·rw[aab e2];omega
  rw[aaa e2,aaa qo];exact h p (j-1) U qo qo qo
 rw[aaa J]
 by_cases e2:p=j-1
 ·rw[aab e2];exact h j q qo qo N J
 rw[aaa e2]
 by_cases O:p=j
 ·rw[aab O];exact h (j-1) q qo qo N J
 rw[aaa O];exact h p q U V N J
def dz.zero(a xs):dz a (a+1) xs:=fun i j J N O=>by omega
attribute [local irreducible] Code.wp wpList Calls
def PY(kd)(x):ai w0 (sf kd 273 268) [.int (kI kd) ((x:Nat):Int)] K hs (Ap K hs (.bool false)):=by
 cases kd
 let kd:Bool:=false
 rewrite[show sf false=sf kd from rfl]
 try rewrite[show kI false=kI kd from rfl]
 refine enter Tryz.func268 qk I I I ?_
 rotate_left
 let kd:Bool:=true
 rewrite[show sf true=sf kd from rfl]
 try rewrite[show kI true=kI kd from rfl]
 refine enter Tryz.func273 qk I I I ?_
 rotate_left
 all_goals
  exact acY (fin 1 I<|acV (bc 2 I (fun h=>absurd I h) (fun h=>fin 1 I<|ac0<|af I I ⟨I,I,I⟩)))
def jG(kd)(x y):ai w0 (sf kd 260 222) [.int (kI kd) ((x:Nat):Int),.int (kI kd) ((y:Nat):Int)] K hs (Ap K hs (.bool (decide (x<y)))):=by
 cases kd
 let kd:Bool:=false
 rewrite[show sf false=sf kd from rfl]
 try rewrite[show kI false=kI kd from rfl]
 refine enter Tryz.func222 qk I I I ?_
 rotate_left
 let kd:Bool:=true
 rewrite[show sf true=sf kd from rfl]
 try rewrite[show kI true=kI kd from rfl]
 refine enter Tryz.func260 qk I I I ?_
 rotate_left
 all_goals
  refine acY (fin 1 I (acV (cl 1 I (PY kd x) ?_)));rintro U O N ⟨rfl,rfl,rfl⟩
  by_cases h:x<y
  ·refine bc 8 I (fun J=>fin 2 I (ac0 ?_)) (fun J=>absurd qo J);exact af I I ⟨I,I,by rw[decide_eq_true h]⟩
  refine bc 8 I (fun J=>absurd J qo) (fun J=>fin 2 I (ac0 ?_));exact af I I ⟨I,I,by rw[decide_eq_false h]⟩
def P4(kd)(g cap pre post xs a b)(ak:a<=b)(hb:b<=eq xs)(hc:eq xs<=cap)(hl:eq xs<=2^40):
  ai w0 (sf kd 254 216) [.slice (some ⟨g,eq pre,none⟩) (eq xs) cap,.int .i64 (a:Nat),.int .i64 (b:Nat)] K (pt g (kA kd pre xs post) (sf kd 29 3)::hs)
   (fun v K' hs'=>K'=K/\∃ys,hs'=pt g (kA kd pre ys post) (sf kd 29 3)::hs/\bK a b xs ys/\dz a b ys):=by
 cases kd
 let kd:Bool:=false
 rewrite[show sf false=sf kd from rfl]
 try rewrite[show kA false=kA kd from rfl]
 refine enter Tryz.func216 qk I I I ?_
 rotate_left
 let kd:Bool:=true
 rewrite[show sf true=sf kd from rfl]
 try rewrite[show kA true=kA kd from rfl]
 refine enter Tryz.func254 qk I I I ?_
 rotate_left
 all_goals
  refine acY (eP 1 a ?_);refine fin 1 I (th (bk ?_))
  refine loop (σ:=Nat×Af) (fun s=>[(0,.slice (some ⟨g,eq pre,none⟩) (eq xs) cap),(1,.int .i64 (a:Nat)),(2,.int .i64 (b:Nat)),(6,.int .i64 s.1)]) (fun _=>K) (fun s=>pt g (kA kd pre s.2 post) (sf kd 29 3)::hs)
   (fun s=>a+1<=s.1/\(s.1<=b\/s.1=a+1)/\bK a b xs s.2/\dz a s.1 s.2) (fun s=>b-s.1) (a+1,xs) ⟨aac _,.inr rfl,bK.refl _ _ _,dz.zero _ _⟩ ⟨rfl,rfl,rfl,rfl,trivial⟩ rfl rfl ?_
  rintro⟨i,ys⟩ ⟨am,an,hP,hS⟩;dsimp only at *;refine sq (acY (aw 2 I fun ag aa=>fin 0 I (th (ax aa I (fun e2=>?_) (fun e2=>?_)))))
  ·have ap:i<b:=qo
   refine sk<|th (sq<|bk (acY (fin 2 I<|th (bk ?_))))
   refine loop (σ:=Nat×Af) (fun s=>[(0,.slice (some ⟨g,eq pre,none⟩) (eq xs) cap),(1,.int .i64 (a:Nat)),(2,.int .i64 (b:Nat)),(6,.int .i64 i),(7,.int .i64 s.1)]) (fun _=>K) (fun s=>pt g (kA kd pre s.2 post) (sf kd 29 3)::hs)
    (fun s=>a<=s.1/\s.1<=i/\bK a b xs s.2/\jY a i s.1 s.2) (fun s=>s.1) (i,ys) ⟨qo,aac _,hP,jY.start hS⟩ ⟨rfl,rfl,rfl,rfl,rfl,trivial⟩ rfl rfl ?_
   rintro⟨j,J⟩ ⟨aq,ab,Z,hV⟩;dsimp only at *;have av:eq J=eq xs:=Z.len;refine sq (sq (bO [pt g (kA kd pre J post) (sf kd 29 3)] 15 [0,2,4,6,8,10,12,14,16,18,20,22,24,27,28] Q8 qk qk (dP qk 2 (a<j) I Q8 (fun Y=>?_) (fun Y=>?_))))
   ·refine bu qk 3 j I I qo ?_;simp only[bf,aaf];refine bT qk 0 0 I I (bN qo) (bF qk 2 I (iB (j:=j) qo) (bu qk 0 (j-1) I I qo ?_));simp only[bf,aaf];refine bT qk 0 0 I I (bN qo) (aB qk 0 I (cl 0 I (jG kd (J.getD j 0) (J.getD (j-1) 0)) ?_));rintro ay ae ad ⟨rfl,rfl,rfl⟩;refine aP Q8 I ?_
    by_cases O:J.getD j 0<J.getD (j-1) 0
    ·rw[decide_eq_true O];refine aI qk 1 I (th (dk I ?_));have U:(kA kd pre J post)[eq pre+j]?=some (.int (kI kd) ((J.getD j 0:Nat):Int)):=bN qo;have V:(kA kd pre J post)[eq pre+(j-1)]?=some (.int (kI kd) ((J.getD (j-1) 0:Nat):Int)):=bN qo;have X:(kA kd pre (J.set j (J.getD (j-1) 0)) post)[eq pre+(j-1)]?=some (.int (kI kd) (((J.set j (J.getD (j-1) 0)).getD (j-1) 0:Nat):Int)):=bN (by rw[aan];omega);refine sk (th (sq (bk (bO [pt g (kA kd pre J post) (sf kd 29 3)] 15 [0,2,4,6,8,10,12,14,16,18,20,22,24,26,28,31,32,35] Q8 qk qk (bF qk 4 I (iB (j:=j) qo) (bF qk 2 I (iB (j:=j) qo) (bu qk 0 (j-1) I I qo ?_)))))));simp only[bf,aaf];refine bR qk 0 0 I qk I V (bu qk 2 j I I qo ?_)
     simp only[bf,aaf];refine bR qk 0 0 I qk I U (bu qk 0 j I I qo ?_);simp only[bf,aaf];refine aB qk 0 I (Ji 0 0 I I U I (bQ (.inl qk) (bu qk 0 (j-1) I I qo ?_)));simp only[bf,aaf];refine aB qk 0 I ?_;refine Ew (pt g (kA kd pre (J.set j (J.getD (j-1) 0)) post) (sf kd 29 3)::hs) (congrArg (fun z=>pt g z (sf kd 29 3)::hs) (eK qo)) (Ji 0 0 I I X I (bQ (.inl qk) (aI qk 0 I (acW (ar 1 I (iB (j:=j) qo) (fin 1 I ?_))))));exact bn (x:=(j,J)) (j-1,Ql j (j-1) J) ⟨I,I,I,I,I,trivial⟩ I (congrArg (fun z=>pt g z (sf kd 29 3)::hs) (eK (by rw[aan];omega))) ⟨qo,qo,Z.trans (bK.Ql ⟨qo,qo⟩ ⟨qo,qo⟩ qo),hV.swap Y ab qo O⟩ aC
    rw[decide_eq_false O];have N:dz a (i+1) J:=hV.stop Y qo;refine aI qk 1 I (th (bP I (ex (xt (xt (xb (acW (eP 1 i ?_))))))));exact fin 1 I (bn (x:=(i,ys)) (i+1,J) sb I I ⟨qo,.inl qo,Z,N⟩ aC)
   obtain rfl:j=a:=qo
   have N:dz j (i+1) J:=hV.done;refine aB qk 10 I (Bc 1 I (aP Q8 I (aI qk 1 I (th (bP I (ex (xt (xt (xb (acW (eP 1 i ?_)))))))))));exact fin 1 I (bn (x:=(i,ys)) (i+1,J) sb I I ⟨qo,.inl qo,Z,N⟩ aC)
  refine ex (xt (xt (xb (bZ I ⟨I,ys,I,hP,?_⟩))));intro p q h1 h2 Y;exact hS p q h1 h2 qo
end
section
attribute [local irreducible] Code.wp wpList Calls
def y9(kd)(g cap s pre post xs a b n)(V:a<eq xs)(hb:b<eq xs)(Y:eq xs<=cap)(hl:eq xs<=2^40)(hn:n<=1000):
  ai w0 (sf kd 275 274) [.slice (some ⟨g,eq pre,none⟩) (eq xs) cap,.int .i64 (a:Nat),.int .i64 (b:Nat),Rp s] K (pt s #[.int .i64 (n:Nat)] 3::pt g (kA kd pre xs post) (sf kd 29 3)::hs)
   (fun v O hs'=>O=K/\∃x y m:Nat,hs'=pt s #[.int .i64 m] 3::pt g (kA kd pre xs post) (sf kd 29 3)::hs/\v=.tuple #[.int .i64 x,.int .i64 y]/\(x=a/\y=b\/x=b/\y=a)/\n<=m/\m<=n+1):=by
 cases kd
 let kd:Bool:=false
 rewrite[show sf false=sf kd from rfl]
 try rewrite[show kA false=kA kd from rfl]
 refine enter Tryz.func274 qk I I I ?_
 rotate_left
 let kd:Bool:=true
 rewrite[show sf true=sf kd from rfl]
 try rewrite[show kA true=kA kd from rfl]
 refine enter Tryz.func275 qk I I I ?_
 rotate_left
 all_goals
  refine acY (fin 2 I (th (sq (sq (bO [pt g (kA kd pre xs post) (sf kd 29 3)] 9 [0,2,4,6,8,10,12,14,17] Q8 qk qk (bu qk 2 b I I qo ?_))))));simp only[bf,aaf];refine bT qk 0 0 I I (bN hb) (bu qk 2 a I I qo ?_);simp only[bf,aaf];refine bT qk 0 0 I I (bN V) (aB qk 0 I (cl 0 I (jG kd (xs.getD b 0) (xs.getD a 0)) ?_));rintro X U N ⟨rfl,rfl,rfl⟩;refine aP Q8 I ?_
  by_cases J:xs.getD b 0<xs.getD a 0
  ·rw[decide_eq_true J];refine aI qk 0 I (th (dk I (acY (aX 2 0 I I I (eP 0 n ?_)))));exact Ji 1 0 I I I I (fin 0 I (acV (fin 4 I (ac0 (rT (bS I I I ⟨I,b,a,n+1,I,I,.inr ⟨I,I⟩,qo,aac _⟩))))))
  rw[decide_eq_false J];exact aI qk 0 I (th (bP I (sk (acV (fin 4 I (ac0 (bS I I I ⟨I,a,b,n,I,I,.inl ⟨I,I⟩,aac _,aaq _⟩)))))))
def Gz(kd)(g cap s pre post xs a b c lo hi n)(ha:lo<=a/\a<hi)(hb:lo<=b/\b<hi)(aa:lo<=c/\c<hi)(hh:hi<=eq xs)(J:eq xs<=cap)(hl:eq xs<=2^40)(hn:n<=900):
  ai w0 (sf kd 272 267) [.slice (some ⟨g,eq pre,none⟩) (eq xs) cap,.int .i64 (a:Nat),.int .i64 (b:Nat),.int .i64 (c:Nat),Rp s] K (pt s #[.int .i64 (n:Nat)] 3::pt g (kA kd pre xs post) (sf kd 29 3)::hs)
   (fun v V hs'=>V=K/\∃x m:Nat,hs'=pt s #[.int .i64 m] 3::pt g (kA kd pre xs post) (sf kd 29 3)::hs/\v=.int .i64 x/\(lo<=x/\x<hi)/\n<=m/\m<=n+3):=by
 cases kd
 let kd:Bool:=false
 rewrite[show sf false=sf kd from rfl]
 try rewrite[show kA false=kA kd from rfl]
 refine enter Tryz.func267 qk I I I ?_
 rotate_left
 let kd:Bool:=true
 rewrite[show sf true=sf kd from rfl]
 try rewrite[show kA true=kA kd from rfl]
 refine enter Tryz.func272 qk I I I ?_
 rotate_left
 all_goals
  refine acY (fin 1 I (acV (cl 4 I (y9 kd g cap s pre post xs a b n qo qo J hl qo) ?_)));rintro ab X N ⟨rfl,x1,y1,m1,rfl,rfl,h1,h2,h3⟩;refine fin 5 I (acV (cl 4 I (y9 kd g cap s pre post xs y1 c m1 qo qo J hl qo) ?_));rintro ad Y O ⟨rfl,x2,y2,m2,rfl,rfl,h4,h5,h6⟩;refine fin 5 I (acV (cl 4 I (y9 kd g cap s pre post xs x1 x2 m2 qo qo J hl qo) ?_));rintro ae Z U ⟨rfl,x3,y3,m3,rfl,rfl,h7,h8,h9⟩;exact fin 5 I (acV (fin 2 I (ac0 (af I I ⟨I,y3,m3,I,I,qo,qo,qo⟩))))
def zb(kd)(g cap s pre post xs a lo hi n)(ha:lo+1<=a/\a+1<hi)(Z:hi<=eq xs)(Y:eq xs<=cap)(hl:eq xs<=2^40)(hn:n<=900):
  ai w0 (sf kd 271 266) [.slice (some ⟨g,eq pre,none⟩) (eq xs) cap,.int .i64 (a:Nat),Rp s] K (pt s #[.int .i64 (n:Nat)] 3::pt g (kA kd pre xs post) (sf kd 29 3)::hs)
   (fun v N hs'=>N=K/\∃x m:Nat,hs'=pt s #[.int .i64 m] 3::pt g (kA kd pre xs post) (sf kd 29 3)::hs/\v=.int .i64 x/\(lo<=x/\x<hi)/\n<=m/\m<=n+3):=by
 cases kd
 let kd:Bool:=false
 rewrite[show sf false=sf kd from rfl]
 try rewrite[show kA false=kA kd from rfl]
 refine enter Tryz.func266 qk I I I ?_
 rotate_left
 let kd:Bool:=true
 rewrite[show sf true=sf kd from rfl]
 try rewrite[show kA true=kA kd from rfl]
 refine enter Tryz.func271 qk I I I ?_
 rotate_left
 all_goals
  refine acY (fin 1 I (acV (ar 2 I (v':=.int .i64 (a-1:Nat)) (by rw[show((a:Nat):Int)-1=((a-1:Nat):Int)from qo];exact ba qo) (eP 2 a ?_))));refine cl 1 I (Gz kd g cap s pre post xs (a-1) a (a+1) lo hi n qo qo qo Z Y hl hn) ?_;rintro aa O J ⟨rfl,x,m,rfl,rfl,U,V,X⟩;exact fin 1 I (ac0 (af I I ⟨I,x,m,I,I,U,V,X⟩))
end
section
attribute [local irreducible] Code.wp wpList Calls
theorem mF(n m)(h:n<2^63):Value.int .i64 (IntKind.i64.wrap (((n:Nat):Int).tdiv ((m:Nat):Int)))=.int .i64 (n/m:Nat):=by
 have J:((n:Nat):Int).tdiv ((m:Nat):Int)=((n/m:Nat):Int):=by rw[Int.ofNat_tdiv]
 rw[J];have N:n/m<=n:=Nat.div_le_self n m;generalize n/m=z at N⊢;exact ba qo
def PT(kd)(g cap pre post xs a b)(ay:a+8<=b)(hb:b<=eq xs)(U:eq xs<=cap)(hl:eq xs<=2^40):
  ai w0 (sf kd 257 219) [.slice (some ⟨g,eq pre,none⟩) (eq xs) cap,.int .i64 (a:Nat),.int .i64 (b:Nat)] K (pt g (kA kd pre xs post) (sf kd 29 3)::hs)
   (fun v K' hs'=>K'=K/\hs'=pt g (kA kd pre xs post) (sf kd 29 3)::hs/\∃x h:Nat,v=.tuple #[.int .i64 x,.int .i64 h]/\(a<=x/\x<b)/\h<=2):=by
 cases kd
 let kd:Bool:=false
 rewrite[show sf false=sf kd from rfl]
 try rewrite[show kA false=kA kd from rfl]
 refine enter Tryz.func219 qk I I I ?_
 rotate_left
 let kd:Bool:=true
 rewrite[show sf true=sf kd from rfl]
 try rewrite[show kA true=kA kd from rfl]
 refine enter Tryz.func257 qk I I I ?_
 rotate_left
 all_goals
  refine acY (fin 2 I (acV (ar 2 I (v':=.int .i64 (b-a:Nat)) (by rw[show((b:Nat):Int)-((a:Nat):Int)=((b-a:Nat):Int)from qo];exact ba qo) (fin 1 I (acV (al 0 (.int .i64 0) I qk fun J=>fin 0 I (acV ?_)))))));obtain⟨q,Z⟩:=a9 ((b-a)/4);have az:4*q<=b-a/\2<=q:=qo
  refine ar 2 I (v':=.int .i64 q) (by rw[Z];exact mF (b-a) 4 qo) (ar 0 I (ba (x:=((q*1:Nat):Int)) qo) (ar 0 I (ba (x:=((a+q*1:Nat):Int)) qo) (fin 1 I (acV (ar 2 I (v':=.int .i64 q) (by rw[Z];exact mF (b-a) 4 qo) (ar 0 I (ba (x:=((q*2:Nat):Int)) qo) (ar 0 I (ba (x:=((a+q*2:Nat):Int)) qo) (fin 1 I (acV (ar 2 I (v':=.int .i64 q) (by rw[Z];exact mF (b-a) 4 qo) (ar 0 I (ba (x:=((q*3:Nat):Int)) qo) (ar 0 I (ba (x:=((a+q*3:Nat):Int)) qo) (fin 1 I (acU (bc 1 I (fun O=>fin 0 I (th (dk I ?_))) (fun O=>absurd qo O))))))))))))))))
  refine jn (σ:=Nat×Nat×Nat×Nat) (fun s=>[(0,.slice (some ⟨g,eq pre,none⟩) (eq xs) cap),(9,Rp J),(10,.int .i64 s.1),(11,.int .i64 s.2.1),(12,.int .i64 s.2.2.1)])
   (fun s=>pt J #[.int .i64 s.2.2.2] 3::pt g (kA kd pre xs post) (sf kd 29 3)::hs) (fun s=>(a<=s.1/\s.1<b)/\(a<=s.2.1/\s.2.1<b)/\(a<=s.2.2.1/\s.2.2.1<b)/\s.2.2.2<=9) ?_ ?_
  ·refine acY (aw 1 I fun ap V=>fin 0 I<|th (ax V I (fun e4=>?_) (fun e4=>?_)))
   ·refine acY (cl 2 I (zb kd g cap J pre post xs (a+q*1) a b 0 qo hb U hl qo) ?_);rintro aA ag aa ⟨rfl,x1,m1,rfl,rfl,N,h2,h3⟩;refine fin 1 I (acV (cl 2 I (zb kd g cap J pre post xs (a+q*2) a b m1 qo hb U hl qo) ?_));rintro aD ak ab ⟨rfl,x2,m2,rfl,rfl,h4,h5,h6⟩;refine fin 1 I (acX (cl 2 I (zb kd g cap J pre post xs (a+q*3) a b m2 qo hb U hl qo) ?_));rintro aE am ad ⟨rfl,x3,m3,rfl,rfl,h7,h8,h9⟩;exact fin 1 I (jx (x1,x2,x3,m3) ⟨N,h4,h7,aC⟩ sb rfl rfl)
   exact sk (jx (a+q*1,a+q*2,a+q*3,0) ⟨aC,aC,aC,aC⟩ sb rfl rfl)
  rintro⟨i,j,k,n⟩ ⟨hi,hj,hk,hn⟩;dsimp only at *;refine rg (cl 4 I (Gz kd g cap J pre post xs i j k a b n hi hj hk hb U hl qo) ?_);rintro aF an ae ⟨rfl,x,m,rfl,rfl,N,h2,h3⟩;refine fin 1 I (acV (aX 0 0 I I I (fin 0 I (th (bk (acY (aw 0 I fun aq X=>fin 1 I (th (ax X I (fun e6=>?_) (fun e6=>?_))))))))))
  ·exact acY (fin 3 I<|ac0<|rB (Bh<|bS I I I ⟨I,I,x,1,I,N,Q9⟩))
  refine acY (aw 0 I fun av Y=>fin 1 I<|th (ax Y I (fun e8=>?_) (fun e8=>?_)))
  ·exact acY (fin 3 I<|ac0<|rB (Bh<|bS I I I ⟨I,I,x,2,I,N,Q9⟩))
  exact acY (fin 3 I<|ac0<|rB (Bh<|bS I I I ⟨I,I,x,0,I,N,Q9⟩))
end
section
attribute [local irreducible] Code.wp wpList Calls
def Pe(kd)(g cap pre post xs a b)(Z:a<b)(hb:b<=eq xs)(hc:eq xs<=cap)(hl:eq xs<=2^40):
  ai w0 (sf kd 258 220) [.slice (some ⟨g,eq pre,none⟩) (eq xs) cap,.int .i64 (a:Nat),.int .i64 (b:Nat)] K (pt g (kA kd pre xs post) (sf kd 29 3)::hs)
   (fun v X hs'=>X=K/\∃ys,hs'=pt g (kA kd pre ys post) (sf kd 29 3)::hs/\bK a b xs ys):=by
 cases kd
 let kd:Bool:=false
 rewrite[show sf false=sf kd from rfl]
 try rewrite[show kA false=kA kd from rfl]
 refine enter Tryz.func220 qk I I I ?_
 rotate_left
 let kd:Bool:=true
 rewrite[show sf true=sf kd from rfl]
 try rewrite[show kA true=kA kd from rfl]
 refine enter Tryz.func258 qk I I I ?_
 rotate_left
 all_goals
  refine acY (fin 2 I (acV (ar 1 I (v':=.int .i64 (b-1:Nat)) (by rw[show((b:Nat):Int)-1=((b-1:Nat):Int)from qo];exact ba qo) (fin 1 I (th (bk ?_))))))
  refine loop (σ:=Nat×Nat×Af) (fun s=>[(0,.slice (some ⟨g,eq pre,none⟩) (eq xs) cap),(6,.int .i64 s.1),(7,.int .i64 s.2.1)]) (fun _=>K) (fun s=>pt g (kA kd pre s.2.2 post) (sf kd 29 3)::hs)
   (fun s=>a<=s.1/\s.1<=b/\s.2.1<b/\bK a b xs s.2.2) (fun s=>b-s.1) (a,b-1,xs) ⟨aac _,aC,aC,bK.refl _ _ _⟩ ⟨rfl,rfl,rfl,trivial⟩ rfl rfl ?_
  rintro⟨i,j,ys⟩ ⟨aa,ab,hj,U⟩;dsimp only at *;have ae:eq ys=eq xs:=U.len;refine sq (acY (aw 2 I fun Y O=>fin 0 I (th (ax O I (fun e2=>?_) (fun e2=>?_)))))
  ·have ad:i<j:=qo
   have J:(kA kd pre ys post)[eq pre+i]?=some (.int (kI kd) ((ys.getD i 0:Nat):Int)):=bN qo;have V:(kA kd pre ys post)[eq pre+j]?=some (.int (kI kd) ((ys.getD j 0:Nat):Int)):=bN qo;have N:(kA kd pre (ys.set i (ys.getD j 0)) post)[eq pre+j]?=some (.int (kI kd) (((ys.set i (ys.getD j 0)).getD j 0:Nat):Int)):=bN (by rw[aan];omega);refine sk (th (bk (sq (bO [pt g (kA kd pre ys post) (sf kd 29 3)] 13 [0,2,4,6,8,10,12,14,16,18,20,22,24,27,28,31] Q8 qk qk (bu qk 6 j I I qo ?_)))));simp only[bf,aaf];refine bR qk 0 0 I qk I V (bu qk 2 i I I qo ?_);simp only[bf,aaf];refine bR qk 0 0 I qk I J (bu qk 0 i I I qo ?_);simp only[bf,aaf];refine aB qk 0 I (Ji 0 0 I I J I (bQ (.inl qk) (bu qk 0 j I I qo ?_)))
   simp only[bf,aaf];refine aB qk 0 I ?_;refine Ew (pt g (kA kd pre (ys.set i (ys.getD j 0)) post) (sf kd 29 3)::hs) (congrArg (fun z=>pt g z (sf kd 29 3)::hs) (eK qo)) (Ji 0 0 I I N I (bQ (.inl qk) (aI qk 0 I (acV (eP 1 i ?_)))));refine fin 1 I (acX (ar 1 I (iB (j:=j) qo) (fin 1 I (bl ?_))));exact bn (x:=(i,j,ys)) (i+1,j-1,Ql i j ys) ⟨I,I,I,trivial⟩ I (congrArg (fun z=>pt g z (sf kd 29 3)::hs) (eK (by rw[aan];omega))) ⟨aC,aC,aC,U.trans (bK.Ql ⟨qo,qo⟩ ⟨qo,qo⟩ qo)⟩ aC
  exact ex<|xt (xt<|xb (bZ I ⟨I,ys,I,U⟩))
end
section
def iV(f lo hi:Nat)(ex:Nat->Prop)(xs:Af):Prop:=∀i c,lo<=i->¬ex i->(c=2*i+1\/c=2*i+2)->c<hi->xs.getD (f+c) 0<=xs.getD (f+i) 0
def lq(f lo hi r:Nat)(xs:Af):Prop:=
 iV f lo hi (fun i=>i=r) xs/\∀p c,lo<=p->(r=2*p+1\/r=2*p+2)->(c=2*r+1\/c=2*r+2)->c<hi->xs.getD (f+c) 0<=xs.getD (f+p) 0
def lq.start{f lo hi}{xs:Af}(h:iV f (lo+1) hi (fun _=>False) xs):lq f lo hi lo xs:=
 ⟨fun i c J N O U=>h i c qo Q8 O U,fun p c J N=>by omega⟩
def lq.leaf{f lo hi r}{xs:Af}(h:lq f lo hi r xs)(U:hi<=2*r+1):iV f lo hi (fun _=>False) xs:=fun i c J _ N O=>by
 by_cases e:i=r
 ·omega
 exact h.1 i c J e N O
def lq.stop{f lo hi r k}{xs:Af}(h:lq f lo hi r xs)(V:∀c,(c=2*r+1\/c=2*r+2)->c<hi->xs.getD (f+c) 0<=xs.getD (f+k) 0)(J:xs.getD (f+k) 0<=xs.getD (f+r) 0):iV f lo hi (fun _=>False) xs:=fun i c U _ N O=>by
 by_cases e:i=r
 ·subst e;exact aat (V c N O) J
 exact h.1 i c U e N O
def lq.sink{f lo hi r k xs}(h:lq f lo hi r xs)(aa:lo<=r)(U:k=2*r+1\/k=2*r+2)(V:k<hi)(hl:f+hi<=eq xs)(hk:∀c,(c=2*r+1\/c=2*r+2)->c<hi->xs.getD (f+c) 0<=xs.getD (f+k) 0)(ab:xs.getD (f+r) 0<xs.getD (f+k) 0):lq f lo hi k (Ql (f+r) (f+k) xs):=by
 have hg:∀z,(Ql (f+r) (f+k) xs).getD (f+z) 0=if z=k then xs.getD (f+r) 0 else if z=r then xs.getD (f+k) 0 else xs.getD (f+z) 0:=by
  intro z;rw[kj qo qo]
  simp
 constructor
 ·intro i c J Y N O;rw[hg,hg];rw[aaa Y]
  by_cases e2:i=r
  ·grind
  rw[aaa e2]
  by_cases Z:c=k
  ·omega
  rw[aaa Z]
  by_cases X:c=r
  ·rw[aab X];exact h.2 i k J qo U V
  rw[aaa X];exact h.1 i c J e2 N O
 intro p c J Y N O;have hp:p=r:=qo
 subst hp;rw[hg,hg,aaa qo,aaa qo,aaa qo,aab rfl];exact h.1 k c qo qo N O
end
section
attribute [local irreducible] Code.wp wpList Calls
def FS(kd)(g cap)(pre post:Ad)(xs:Af)(lo hi f)(hb:f+hi<=eq xs)(hc:eq xs<=cap)(hl:eq xs<=2^40)(ae:lo<=hi)(hp:iV f (lo+1) hi (fun _=>False) xs):
  ai w0 (sf kd 270 263) [.slice (some ⟨g,eq pre,none⟩) (eq xs) cap,.int .i64 (lo:Nat),.int .i64 (hi:Nat),.int .i64 (f:Nat)] K (pt g (kA kd pre xs post) (sf kd 29 3)::hs)
   (fun v K' hs'=>K'=K/\∃ys,hs'=pt g (kA kd pre ys post) (sf kd 29 3)::hs/\bK (f+lo) (f+hi) xs ys/\iV f lo hi (fun _=>False) ys):=by
 cases kd
 let kd:Bool:=false
 rewrite[show sf false=sf kd from rfl]
 try rewrite[show kA false=kA kd from rfl]
 refine enter Tryz.func263 qk I I I ?_
 rotate_left
 let kd:Bool:=true
 rewrite[show sf true=sf kd from rfl]
 try rewrite[show kA true=kA kd from rfl]
 refine enter Tryz.func270 qk I I I ?_
 rotate_left
 all_goals
  refine acY (fin 2 I<|th (bk ?_))
  refine loop (σ:=Nat×Af) (fun s=>[(0,.slice (some ⟨g,eq pre,none⟩) (eq xs) cap),(2,.int .i64 (hi:Nat)),(3,.int .i64 (f:Nat)),(8,.int .i64 s.1)]) (fun _=>K) (fun s=>pt g (kA kd pre s.2 post) (sf kd 29 3)::hs)
   (fun s=>lo<=s.1/\s.1<=hi/\bK (f+lo) (f+hi) xs s.2/\lq f lo hi s.1 s.2) (fun s=>hi-s.1) (lo,xs) ⟨aac _,ae,bK.refl _ _ _,lq.start hp⟩ ⟨rfl,rfl,rfl,rfl,trivial⟩ rfl rfl ?_
  rintro⟨r,ys⟩ ⟨ag,av,hP,hS⟩;dsimp only at *;have ay:eq ys=eq xs:=hP.len;refine bk (acY (ar 1 I (ba (x:=((2*r:Nat):Int)) qo) (ar 0 I (ba (x:=((2*r+1:Nat):Int)) qo) (fin 1 I (acU (aw 2 I fun aq aa=>fin 0 I (th (ax aa I (fun e2=>?_) (fun e2=>?_)))))))))
  ·exact ex<|xt (xn I<|xt (xb<|bZ I ⟨I,ys,I,hP,hS.leaf qo⟩))
  have U:2*r+1<hi:=qo
  refine sk<|th ?_
  refine jn (σ:=Nat) (fun k=>[(0,.slice (some ⟨g,eq pre,none⟩) (eq xs) cap),(2,.int .i64 (hi:Nat)),(3,.int .i64 (f:Nat)),(8,.int .i64 r),(9,.int .i64 (k:Nat))]) (fun _=>pt g (kA kd pre ys post) (sf kd 29 3)::hs)
   (fun k=>(k=2*r+1\/k=2*r+2)/\k<hi/\∀c,(c=2*r+1\/c=2*r+2)->c<hi->ys.getD (f+c) 0<=ys.getD (f+k) 0) ?_ ?_
  ·refine sq (bO [pt g (kA kd pre ys post) (sf kd 29 3)] 20 [0,2,4,6,8,10,12,14,16,18,20,22,24,26,28,30,32,34,37,38] Q8 qk qk (bF qk 1 I (ba (x:=((2*r+1+1:Nat):Int)) qo) (dP qk 1 (2*r+1+1<hi) I Au (fun h3=>?_) (fun h3=>?_))))
   ·refine bF qk 4 I (ba (x:=((f+(2*r+1):Nat):Int)) qo) (bu qk 0 (f+(2*r+1)) I I qo ?_);simp only[bf,aaf];refine bT qk 0 0 I I (bN qo) (bF qk 3 I (ba (x:=((f+(2*r+1):Nat):Int)) qo) (bF qk 0 I (ba (x:=((f+(2*r+1)+1:Nat):Int)) qo) (bu qk 0 (f+(2*r+1)+1) I I qo ?_)));simp only[bf,aaf];refine bT qk 0 0 I I (bN qo) (aB qk 0 I (cl 0 I (jG kd (ys.getD (f+(2*r+1)) 0) (ys.getD (f+(2*r+1)+1) 0)) ?_));rintro az an ak ⟨rfl,rfl,rfl⟩;refine aP Q8 I ?_
    by_cases J:ys.getD (f+(2*r+1)) 0<ys.getD (f+(2*r+1)+1) 0
    ·rw[decide_eq_true J];refine aI qk 1 I (th (dk I (rg (ar 1 I (ba (x:=((2*r+1+1:Nat):Int)) qo) (fin 1 I (jx (2*r+1+1) ⟨.inr I,h3,fun c h4 h5=>?_⟩ sb I I))))));rcases h4 with rfl|rfl
     ·exact abg J
     exact aac _
    rw[decide_eq_false J];refine aI qk 1 I (th (bP I (sk (jx (2*r+1) ⟨.inl I,U,fun c h4 h5=>?_⟩ sb I I))));rcases h4 with rfl|rfl
    ·exact aac _
    exact abo J
   refine aB qk 14 I (Bc 1 I (aP Q8 I (aI qk 1 I (th (bP I (sk (jx (2*r+1) ⟨.inl I,U,fun c h4 h5=>?_⟩ sb I I)))))));have:c=2*r+1:=qo
   rw[this];exact aac _
  rintro k ⟨ab,ad,Y⟩;have Z:f+r<eq ys:=qo
  have O:f+k<eq ys:=qo
  have N:(kA kd pre ys post)[eq pre+(f+r)]?=some (.int (kI kd) ((ys.getD (f+r) 0:Nat):Int)):=bN Z;have V:(kA kd pre ys post)[eq pre+(f+k)]?=some (.int (kI kd) ((ys.getD (f+k) 0:Nat):Int)):=bN O;have X:(kA kd pre (ys.set (f+r) (ys.getD (f+k) 0)) post)[eq pre+(f+k)]?=some (.int (kI kd) (((ys.set (f+r) (ys.getD (f+k) 0)).getD (f+k) 0:Nat):Int)):=bN (by rw[aan];exact O);refine sq (sq (bO [pt g (kA kd pre ys post) (sf kd 29 3)] 14 [0,2,4,6,8,10,12,14,16,18,20,22,25,26] Q8 qk qk (bF qk 3 I (ba (x:=((f+r:Nat):Int)) qo) (bu qk 0 (f+r) I I qo ?_))));simp only[bf,aaf];refine bT qk 0 0 I I N (bF qk 3 I (ba (x:=((f+k:Nat):Int)) qo) (bu qk 0 (f+k) I I qo ?_));simp only[bf,aaf];refine bT qk 0 0 I I V (aB qk 0 I (cl 0 I (jG kd (ys.getD (f+r) 0) (ys.getD (f+k) 0)) ?_))
  rintro aA ap am ⟨rfl,rfl,rfl⟩;refine aP Q8 I ?_
  by_cases J:ys.getD (f+r) 0<ys.getD (f+k) 0
  ·rw[decide_eq_true J];refine aI qk 1 I (th (bP I (sk (th (sq (bO [pt g (kA kd pre ys post) (sf kd 29 3)] 21 [0,2,4,6,8,10,12,14,16,18,20,22,24,26,28,30,32,34,36,38,40,43,44,47] Q8 qk qk (bF qk 3 I (ba (x:=((f+r:Nat):Int)) qo) (bF qk 3 I (ba (x:=((f+k:Nat):Int)) qo) (bF qk 3 I (ba (x:=((f+k:Nat):Int)) qo) (bu qk 0 (f+k) I I qo ?_))))))))));simp only[bf,aaf];refine bR qk 0 0 I qk I V (bF qk 3 I (ba (x:=((f+r:Nat):Int)) qo) (bu qk 0 (f+r) I I qo ?_));simp only[bf,aaf];refine bR qk 0 0 I qk I N (bu qk 0 (f+r) I I qo ?_);simp only[bf,aaf];refine aB qk 0 I (Ji 0 0 I I N I (bQ (.inl qk) (bu qk 0 (f+k) I I qo ?_)))
   simp only[bf,aaf];refine aB qk 0 I ?_;refine Ew (pt g (kA kd pre (ys.set (f+r) (ys.getD (f+k) 0)) post) (sf kd 29 3)::hs) (congrArg (fun z=>pt g z (sf kd 29 3)::hs) (eK Z)) (Ji 0 0 I I X I (bQ (.inl qk) (aI qk 0 I (acX (fin 2 I (bl ?_))))));exact bn (x:=(r,ys)) (k,Ql (f+r) (f+k) ys) ⟨I,I,I,I,trivial⟩ I (congrArg (fun z=>pt g z (sf kd 29 3)::hs) (eK (by rw[aan];exact O))) ⟨aC,aC,hP.trans (bK.Ql ⟨qo,qo⟩ ⟨qo,qo⟩ qo),hS.sink ag ab ad qo Y J⟩ aC
  rw[decide_eq_false J];exact aI qk 1 I (th (dk I (rt (rT (rB (rT (rB (jK I ⟨I,ys,I,hP,hS.stop Y qo⟩))))))))
end
section
theorem iV.max{f n}{xs:Af}(h:iV f 0 n (fun _=>False) xs):∀c,c<n->xs.getD (f+c) 0<=xs.getD (f+0) 0
 |0,_=>aac _
 |c+1,O=>by
  have hp:c/2<c+1:=qo
  have J:=h (c/2) (c+1) (aad _) Q8 qo O;have N:=iV.max h (c/2) qo;exact aat J N
def iV.none{f lo hi}{xs:Af}(h:hi<=2*lo+1):iV f lo hi (fun _=>False) xs:=fun i c J _ N O=>by omega
theorem Od{a b}(xs:Af)(J:a<=b):xs=xs.take a++((xs.drop a).take (b-a)++xs.drop b):=by
 have N:xs.drop b=(xs.drop a).drop (b-a):=by rw[aaP];congr 1;omega
 grind[List.take_append_drop]
def bK.Rf{a b xs ys}(h:bK a b xs ys)(J:a<=b):((ys.drop a).take (b-a)).Perm ((xs.drop a).take (b-a)):=by
 have N:ys.take a=xs.take a:=by
  apply acd
  intro i
  by_cases hi:i<a
  ·rw[abt hi,abt hi,h.out i (.inl hi)]
  grind
 have e2:ys.drop b=xs.drop b:=by
  apply acd
  intro i;rw[aa0,aa0,h.out (b+i) (.inr qo)]
 have hp:=h.perm
 grind[Od,List.perm_append_right_iff,List.perm_append_left_iff]
def bK.mem{a b xs ys}(h:bK a b xs ys)(hb:b<=eq xs){p}(O:a<=p)(U:p<b):∃q,a<=q/\q<b/\ys.getD p 0=xs.getD q 0:=by
 have hs:=h.Rf qo;have N:=h.len
 have hm:ys.getD p 0∈(ys.drop a).take (b-a):=by
  rw[abe];refine⟨p-a,?_⟩
  grind
 obtain⟨i,hi⟩:=abe.1 (hs.mem_iff.1 hm);have J:=(aav.1 hi).1;simp only[aal,aar]at J;rw[abt qo,aa0]at hi;exact⟨a+i,qo,qo,by simp_all⟩
def ly(f n hi:Nat)(xs:Af):Prop:=iV f 0 n (fun _=>False) xs/\∀p q,n<=q->q<hi->p<q->xs.getD (f+p) 0<=xs.getD (f+q) 0
def ly.swap{f i hi}{xs:Af}(h:ly f (i+1) hi xs)(V:i<hi)(hl:f+hi<=eq xs):iV f (0+1) i (fun _=>False) (Ql f (f+i) xs):=fun j c N O J U=>by
 rw[kj qo qo,kj qo qo,aaa qo,aaa qo,aaa qo,aaa qo];exact h.1 j c (aad _) Q8 J qo
def ly.step{f i hi}{xs V:Af}(h:ly f (i+1) hi xs)(hh:i<hi)(hl:f+hi<=eq xs)(Z:bK (f+0) (f+i) (Ql f (f+i) xs) V)(hz:iV f 0 i (fun _=>False) V):ly f i hi V:=by
 refine⟨hz,fun p q h1 N h3=>?_⟩;have ab:=m8 f (f+i) xs
 have U:∀z,i<=z->z<hi->V.getD (f+z) 0=(Ql f (f+i) xs).getD (f+z) 0:=fun z X Y=>by
  rw[aaR,Z.out (f+z) (.inr qo),aaR]
 have hs:∀z,z<hi->(Ql f (f+i) xs).getD (f+z) 0=if z=i then xs.getD f 0 else if z=0 then xs.getD (f+i) 0 else xs.getD (f+z) 0:=fun z g=>by
  rw[kj qo qo]
  simp
 have O:∀z,z<i->∃y,y<=i/\V.getD (f+z) 0=xs.getD (f+y) 0:=fun z g=>by
  obtain⟨w,w1,w2,w3⟩:=Z.mem qo (p:=f+z) qo qo;rw[w3,show w=f+(w-f)from qo,hs (w-f) qo]
  grind
 have aa:∀y,y<=i->xs.getD (f+y) 0<=xs.getD f 0:=fun y g=>h.1.max y qo;have J:∀y q,y<=i->i<q->q<hi->xs.getD (f+y) 0<=xs.getD (f+q) 0:=fun y q X Y g3=>h.2 y q qo g3 qo;rw[U q h1 N,hs q N]
 by_cases e:q=i
 ·grind
 rw[aaa e,aaa qo]
 by_cases e1:p<i
 ·obtain⟨y,X,Y⟩:=O p e1;rw[Y];exact J y q X qo N
 rw[U p qo qo,hs p qo]
 by_cases e2:p=i
 ·rw[aab e2];exact J 0 q (aad _) qo N
 rw[aaa e2,aaa qo];exact h.2 p q qo N h3
def ly.start{f hi}{xs:Af}(h:iV f 0 hi (fun _=>False) xs):ly f hi hi xs:=⟨h,fun p q J N=>by omega⟩
def ly.done{a b xs}(h:ly a 0 (b-a) xs):dz a b xs:=fun i j J N O=>by
 have:=h.2 (i-a) (j-a) (aad _) qo qo
 grind
end
section
attribute [local irreducible] Code.wp wpList Calls
def Po(kd)(g cap pre post xs a b)(av:a<b)(hb:b<=eq xs)(hc:eq xs<=cap)(hl:eq xs<=2^40):
  ai w0 (sf kd 255 217) [.slice (some ⟨g,eq pre,none⟩) (eq xs) cap,.int .i64 (a:Nat),.int .i64 (b:Nat)] K (pt g (kA kd pre xs post) (sf kd 29 3)::hs)
   (fun v K' hs'=>K'=K/\∃ys,hs'=pt g (kA kd pre ys post) (sf kd 29 3)::hs/\bK a b xs ys/\dz a b ys):=by
 cases kd
 let kd:Bool:=false
 rewrite[show sf false=sf kd from rfl]
 try rewrite[show kA false=kA kd from rfl]
 rotate_left
 let kd:Bool:=true
 rewrite[show sf true=sf kd from rfl]
 try rewrite[show kA true=kA kd from rfl]
 rotate_left
 all_goals
  obtain⟨hi,ab⟩:=a9 (b-a)
 refine enter Tryz.func217 qk I I I ?_
 rotate_left
 refine enter Tryz.func255 qk I I I ?_
 rotate_left
 all_goals
  refine acY (fin 2 I (acV (fin 1 I (acV (ar 2 I (v':=.int .i64 hi) (by rw[show((b:Nat):Int)-((a:Nat):Int)=((hi:Nat):Int)from qo];exact ba qo) (fin 1 I (acU (ar 1 I (v':=.int .i64 (hi-1:Nat)) (by rw[show((hi:Nat):Int)-1=((hi-1:Nat):Int)from qo];exact ba qo) (ar 0 I (v':=.int .i64 ((((hi-1)/2+1:Nat):Int)-1)) (by rw[show((((hi-1)/2+1:Nat):Int)-1)=(((hi-1)/2:Nat):Int)from qo];exact mF (hi-1) 2 qo) (fin 1 I (th (bk ?_))))))))))))
  refine loop (σ:=Nat×Af) (fun s=>[(0,.slice (some ⟨g,eq pre,none⟩) (eq xs) cap),(6,.int .i64 (a:Nat)),(7,.int .i64 0),(8,.int .i64 hi),(9,.int .i64 (((s.1:Nat):Int)-1))]) (fun _=>K) (fun s=>pt g (kA kd pre s.2 post) (sf kd 29 3)::hs)
   (fun s=>s.1<=hi/\bK a b xs s.2/\iV a s.1 hi (fun _=>False) s.2) (fun s=>s.1) ((hi-1)/2+1,xs) ⟨aC,bK.refl _ _ _,iV.none qo⟩ ⟨rfl,rfl,rfl,rfl,rfl,trivial⟩ rfl rfl ?_
  rintro⟨n,ys⟩ ⟨hn,hP,hH⟩;dsimp only at *;have ad:eq ys=eq xs:=hP.len;refine sq (acY (aw 1 I fun ap Y=>fin 0 I (th (ax Y I (fun e2=>?_) (fun e2=>?_)))))
  ·obtain⟨k,rfl⟩:∃k,n=k+1:=⟨n-1,qo⟩;rw[show((k+1:Nat):Int)-1=((k:Nat):Int)from qo];refine sk (th (sq (bk (rg ?_))));have N:=FS kd (w0:=w0) (K:=K) (hs:=hs) g cap pre post ys k hi a qo qo qo qo hH;rw[ad]at N;refine cl 4 I N ?_;rintro az am ag ⟨rfl,J,rfl,U,O⟩;exact fin 0 I (acW (ar 1 I (ba qo) (fin 1 I (bn (x:=(k+1,ys)) (k,J) sb I I ⟨aC,hP.trans (U.wide qo qo),O⟩ aC))))
  obtain rfl:n=0:=qo
  refine ex<|xt (xt<|xb (acV<|ar 1 I (ba qo) (fin 1 I<|th (bk ?_))))
  refine loop (σ:=Nat×Af) (fun s=>[(0,.slice (some ⟨g,eq pre,none⟩) (eq xs) cap),(6,.int .i64 (a:Nat)),(7,.int .i64 0),(10,.int .i64 (((s.1:Nat):Int)-1))]) (fun _=>K) (fun s=>pt g (kA kd pre s.2 post) (sf kd 29 3)::hs)
   (fun s=>s.1<=hi/\bK a b xs s.2/\ly a s.1 hi s.2) (fun s=>s.1) (hi,ys) ⟨aac _,hP,ly.start hH⟩ ⟨rfl,rfl,rfl,rfl,trivial⟩ rfl rfl ?_
  rintro⟨n,J⟩ ⟨ay,U,hI⟩;dsimp only at *;have ae:eq J=eq xs:=U.len;refine sq (acY (aw 1 I fun aq Z=>fin 0 I (th (ax Z I (fun e4=>?_) (fun e4=>?_)))))
  ·obtain⟨k,rfl⟩:∃k,n=k+1:=⟨n-1,qo⟩;rw[show((k+1:Nat):Int)-1=((k:Nat):Int)from qo];have V:(kA kd pre J post)[eq pre+a]?=some (.int (kI kd) ((J.getD a 0:Nat):Int)):=bN qo;have aa:(kA kd pre J post)[eq pre+(a+k)]?=some (.int (kI kd) ((J.getD (a+k) 0:Nat):Int)):=bN qo;have X:(kA kd pre (J.set a (J.getD (a+k) 0)) post)[eq pre+(a+k)]?=some (.int (kI kd) (((J.set a (J.getD (a+k) 0)).getD (a+k) 0:Nat):Int)):=bN (by rw[aan];omega);refine sk (th (sq (bk (sq (bO [pt g (kA kd pre J post) (sf kd 29 3)] 17 [0,2,4,6,8,10,12,14,16,18,20,22,24,26,28,30,32,35,36,39] Q8 qk qk (bF qk 5 I (ba (x:=((a+k:Nat):Int)) qo) (bF qk 3 I (ba (x:=((a+k:Nat):Int)) qo) (bu qk 0 (a+k) I I qo ?_))))))));simp only[bf,aaf]
   refine bR qk 0 0 I qk I aa (bu qk 2 a I I qo ?_);simp only[bf,aaf];refine bR qk 0 0 I qk I V (bu qk 0 a I I qo ?_);simp only[bf,aaf];refine aB qk 0 I (Ji 0 0 I I V I (bQ (.inl qk) (bu qk 0 (a+k) I I qo ?_)));simp only[bf,aaf];refine aB qk 0 I ?_;refine Ew (pt g (kA kd pre (J.set a (J.getD (a+k) 0)) post) (sf kd 29 3)::hs) (congrArg (fun z=>pt g z (sf kd 29 3)::hs) (eK qo)) (Ji 0 0 I I X I ?_);refine Ew (pt g (kA kd pre (Ql a (a+k) J) post) (sf kd 29 3)::hs) (congrArg (fun z=>pt g z (sf kd 29 3)::hs) (eK (by rw[aan];omega))) (bQ (.inl qk) (aI qk 0 rfl (acX ?_)));have N:=FS kd (w0:=w0) (K:=K) (hs:=hs) g cap pre post (Ql a (a+k) J) 0 k a (by rw[m8];omega) (by rw[m8];omega) (by rw[m8];omega) (aad _) (hI.swap qo qo)
   rw[m8,ae]at N;refine cl 4 I N ?_;rintro aA an ak ⟨rfl,us,rfl,hU,O⟩;exact fin 0 I (acW (ar 1 I (ba qo) (fin 1 I (bn (x:=(k+1,J)) (k,us) sb I I ⟨aC,(U.trans (bK.Ql ⟨qo,qo⟩ ⟨qo,qo⟩ qo)).trans (hU.wide qo qo),hI.step qo qo hU O⟩ aC))))
  obtain rfl:n=0:=qo
  refine ex (xt (xt (xb ?_)));subst ab;exact bZ I ⟨I,J,I,U,hI.done⟩
end
section
structure fq (P Q:Nat->Nat->Prop) (a b i j:Nat) (xs:Af):Prop where
 i1:a+1<=i
 ij:i<=j+1
 jb:j+1<=b
 lo:∀p,a+1<=p->p<i->P (xs.getD p 0) (xs.getD a 0)
 hi:∀p,j<p->p<b->Q (xs.getD p 0) (xs.getD a 0)
def fq.start(P Q){a b xs}(h:a<b):fq P Q a b (a+1) (b-1) xs:=
 ⟨aac _,qo,qo,fun p J N=>by omega,fun p J N=>by omega⟩
theorem fq.up{P:Nat->Nat->Prop}{a b i j xs}(h:fq P Q a b i j xs)(N:i<=j)(hp:P (xs.getD i 0) (xs.getD a 0)):fq P Q a b (i+1) j xs:=
 ⟨by have:=h.i1;omega,qo,h.jb,fun p J O=>by
  by_cases e:p=i
  ·rw[e];exact hp
  exact h.lo p J qo,h.hi⟩
def fq.down{P:Nat->Nat->Prop}{a b i j xs}(h:fq P Q a b i j xs)(N:i<=j)(O:Q (xs.getD j 0) (xs.getD a 0)):fq P Q a b i (j-1) xs:=
 ⟨h.i1,qo,by have:=h.jb;omega,h.lo,fun p U J=>by
  by_cases e:p=j
  ·rw[e];exact O
  exact h.hi p qo J⟩
def fq.swap{P:Nat->Nat->Prop}{a b i j xs}(h:fq P Q a b i j xs)(U:i<j)(hl:b<=eq xs)(hp:P (xs.getD j 0) (xs.getD a 0))(V:Q (xs.getD i 0) (xs.getD a 0)):fq P Q a b (i+1) (j-1) (Ql i j xs):=by
 have X:=h.i1;have Y:=h.jb;have hg:∀k,(Ql i j xs).getD k 0=if k=j then xs.getD i 0 else if k=i then xs.getD j 0 else xs.getD k 0:=kj qo qo;have O:(Ql i j xs).getD a 0=xs.getD a 0:=by grind
 refine⟨qo,qo,qo,fun p J N=>?_,fun p J N=>?_⟩
 ·rw[O,hg,aaa qo]
  by_cases e:p=i
  ·rw[aab e];exact hp
  rw[aaa e];exact h.lo p J qo
 rw[O,hg]
 by_cases e:p=j
 ·rw[aab e];exact V
 rw[aaa e,aaa qo];exact h.hi p qo N
theorem fq.last{P:Nat->Nat->Prop}{a b j xs}(h:fq P Q a b (j+1) j xs)(hl:b<=eq xs):
  (∀p,a<=p->p<j->P ((Ql j a xs).getD p 0) ((Ql j a xs).getD j 0))/\∀p,j<p->p<b->Q ((Ql j a xs).getD p 0) ((Ql j a xs).getD j 0):=by
 have O:=h.i1;have U:=h.jb;have hg:∀k,(Ql j a xs).getD k 0=if k=a then xs.getD j 0 else if k=j then xs.getD a 0 else xs.getD k 0:=kj qo qo
 have hj:(Ql j a xs).getD j 0=xs.getD a 0:=by
  simp_all
 refine⟨fun p J N=>?_,fun p J N=>?_⟩
 ·rw[hj,hg]
  by_cases e:p=a
  ·rw[aab e];exact h.lo j qo qo
  rw[aaa e,aaa qo];exact h.lo p qo qo
 rw[hj,hg,aaa qo,aaa qo];exact h.hi p J N
def dz.join{a b m xs}(Z:dz a m xs)(h2:dz (m+1) b xs)(O:∀p,a<=p->p<m->xs.getD p 0<=xs.getD m 0)(N:∀p,m<p->p<b->xs.getD m 0<=xs.getD p 0):dz a b xs:=fun i j U J V=>by
 by_cases X:j<m
 ·exact Z i j U J X
 by_cases e2:j=m
 ·subst e2;exact O i U J
 by_cases Y:i=m
 ·subst Y;exact N j qo V
 by_cases e4:i<m
 ·grind
 exact h2 i j qo J V
end
section
attribute [local irreducible] Code.wp wpList Calls
def Pj(kd)(g cap pre post xs a b J)(ap:a<b)(aL:a<=J/\J<b)(hb:b<=eq xs)(hc:eq xs<=cap)(hl:eq xs<=2^40):
  ai w0 (sf kd 261 223) [.slice (some ⟨g,eq pre,none⟩) (eq xs) cap,.int .i64 (a:Nat),.int .i64 (b:Nat),.int .i64 (J:Nat)] K (pt g (kA kd pre xs post) (sf kd 29 3)::hs)
   (fun v K' hs'=>K'=K/\∃ys,∃i:Nat,hs'=pt g (kA kd pre ys post) (sf kd 29 3)::hs/\v=.int .i64 i/\bK a b xs ys/\a+1<=i/\i<=b/\(∀p,a+1<=p->p<i->ys.getD p 0<=ys.getD a 0)/\(∀p,i<=p->p<b->ys.getD a 0<ys.getD p 0)/\ys.getD a 0=xs.getD J 0):=by
 cases kd
 let kd:Bool:=false
 rewrite[show sf false=sf kd from rfl]
 try rewrite[show kA false=kA kd from rfl]
 refine enter Tryz.func223 qk I I I ?_
 rotate_left
 let kd:Bool:=true
 rewrite[show sf true=sf kd from rfl]
 try rewrite[show kA true=kA kd from rfl]
 refine enter Tryz.func261 qk I I I ?_
 rotate_left
 all_goals
  refine acY ?_;have U:(kA kd pre xs post)[eq pre+a]?=some (.int (kI kd) ((xs.getD a 0:Nat):Int)):=bN qo;have aa:(kA kd pre xs post)[eq pre+J]?=some (.int (kI kd) ((xs.getD J 0:Nat):Int)):=bN qo;have V:(kA kd pre (xs.set a (xs.getD J 0)) post)[eq pre+J]?=some (.int (kI kd) (((xs.set a (xs.getD J 0)).getD J 0:Nat):Int)):=bN (by rw[aan];omega);refine fin 1 I (th (sq (bO [pt g (kA kd pre xs post) (sf kd 29 3)] 13 [0,2,4,6,8,10,12,14,16,18,20,22,24,27,28,31] Q8 qk qk (bu qk 6 J I I qo ?_))));simp only[bf,aaf];refine bR qk 0 0 I qk I aa (bu qk 2 a I I qo ?_);simp only[bf,aaf];refine bR qk 0 0 I qk I U (bu qk 0 a I I qo ?_);simp only[bf,aaf];refine aB qk 0 I (Ji 0 0 I I U I (bQ (.inl qk) (bu qk 0 J I I qo ?_)))
  simp only[bf,aaf];refine aB qk 0 I ?_;refine Ew (pt g (kA kd pre (xs.set a (xs.getD J 0)) post) (sf kd 29 3)::hs) (congrArg (fun z=>pt g z (sf kd 29 3)::hs) (eK qo)) (Ji 0 0 I I V I ?_);refine Ew (pt g (kA kd pre (Ql a J xs) post) (sf kd 29 3)::hs) (congrArg (fun z=>pt g z (sf kd 29 3)::hs) (eK (by rw[aan];omega))) (bQ (.inl qk) (aI qk 0 rfl (acV ?_)));have aA:=m8 a J xs
  have av:(Ql a J xs).getD a 0=xs.getD J 0:=by
   rw[kj qo qo]
   by_cases e:a=J
   ·rw[aab e,e]
   rw[aaa e,aab rfl]
  refine eP 1 a ?_;refine ar 1 I (v':=.int .i64 (b-1:Nat)) (by rw[show((b:Nat):Int)-1=((b-1:Nat):Int)from qo];exact ba qo) (fin 2 I (th (sq (bk ?_))))
  refine loop (σ:=Nat×Nat×Af) (fun s=>[(0,.slice (some ⟨g,eq pre,none⟩) (eq xs) cap),(1,.int .i64 (a:Nat)),(9,.int .i64 s.1),(10,.int .i64 s.2.1)]) (fun _=>K) (fun s=>pt g (kA kd pre s.2.2 post) (sf kd 29 3)::hs)
   (fun s=>bK a b xs s.2.2/\fq (fun x y=>x<=y) (fun x y=>y<x) a b s.1 s.2.1 s.2.2/\s.2.2.getD a 0=xs.getD J 0) (fun s=>s.2.1+1-s.1) (a+1,b-1,Ql a J xs) ⟨bK.Ql ⟨qo,qo⟩ ⟨qo,qo⟩ hb,fq.start _ _ ap,av⟩ ⟨rfl,rfl,rfl,rfl,trivial⟩ rfl rfl ?_
  rintro⟨i0,X,ys⟩ ⟨hP,an,ak⟩;dsimp only at *;have aN:eq ys=eq xs:=hP.len;refine bk (jn (σ:=Nat) (fun i=>[(0,.slice (some ⟨g,eq pre,none⟩) (eq xs) cap),(1,.int .i64 (a:Nat)),(9,.int .i64 (i:Nat)),(10,.int .i64 X)]) (fun _=>pt g (kA kd pre ys post) (sf kd 29 3)::hs) (fun i=>i0<=i/\fq (fun x y=>x<=y) (fun x y=>y<x) a b i X ys/\(i<=X->ys.getD a 0<ys.getD i 0)) ?_ ?_)
  ·refine bk (loop (σ:=Nat) (fun i=>[(0,.slice (some ⟨g,eq pre,none⟩) (eq xs) cap),(1,.int .i64 (a:Nat)),(9,.int .i64 (i:Nat)),(10,.int .i64 X)]) (fun _=>K) (fun _=>pt g (kA kd pre ys post) (sf kd 29 3)::hs) (fun i=>i0<=i/\fq (fun x y=>x<=y) (fun x y=>y<x) a b i X ys) (fun i=>X+1-i) i0 ⟨aac _,an⟩ ⟨I,I,I,I,trivial⟩ I I ?_);rintro i ⟨ab,Z⟩;have q1:=Z.i1;have q2:=Z.ij;have q3:=Z.jb;refine sq (sq (bO [pt g (kA kd pre ys post) (sf kd 29 3)] 15 [0,2,4,6,8,10,12,14,16,18,20,22,25,26,28] Q8 qk qk (dP qk 2 (i<=X) I Q8 (fun Y=>?_) (fun Y=>?_))))
   ·refine bu qk 3 a I I qo ?_;simp only[bf,aaf];refine bT qk 0 0 I I (bN qo) (bu qk 2 i I I qo ?_);simp only[bf,aaf];refine bT qk 0 0 I I (bN qo) (aB qk 0 I (cl 0 I (jG kd (ys.getD a 0) (ys.getD i 0)) ?_));rintro aO aD ay ⟨rfl,rfl,rfl⟩;refine aP Q8 I ?_
    by_cases N:ys.getD a 0<ys.getD i 0
    ·rw[decide_eq_true N];exact aI qk 2 I (th (bP I (ex (xt (xt (xb (jx i ⟨ab,Z,fun _=>N⟩ sb I I)))))))
    rw[decide_eq_false N];refine aI qk 2 I (th (dk I (sk (th (bk (rg (eP 1 i ?_)))))));exact fin 1 I (bl (bn (x:=i) (i+1) sb I I ⟨qo,Z.up Y (abo N)⟩ qo))
   exact aB qk 9 I<|Bc 1 I (aP Q8 I<|aI qk 2 I (th<|bP I (ex<|xt (xt<|xb (jx i ⟨ab,Z,fun h=>absurd h Y⟩ sb I I)))))
  rintro i ⟨ab,Z,hq⟩;refine jn (σ:=Nat) (fun j=>[(0,.slice (some ⟨g,eq pre,none⟩) (eq xs) cap),(1,.int .i64 (a:Nat)),(9,.int .i64 i),(10,.int .i64 (j:Nat))]) (fun _=>pt g (kA kd pre ys post) (sf kd 29 3)::hs) (fun j=>j<=X/\fq (fun x y=>x<=y) (fun x y=>y<x) a b i j ys/\(i<=j->ys.getD a 0<ys.getD i 0)/\(i<=j->ys.getD j 0<=ys.getD a 0)) ?_ ?_
  ·refine bk (loop (σ:=Nat) (fun j=>[(0,.slice (some ⟨g,eq pre,none⟩) (eq xs) cap),(1,.int .i64 (a:Nat)),(9,.int .i64 i),(10,.int .i64 (j:Nat))]) (fun _=>K) (fun _=>pt g (kA kd pre ys post) (sf kd 29 3)::hs) (fun j=>j<=X/\fq (fun x y=>x<=y) (fun x y=>y<x) a b i j ys) (fun j=>j+1-i) X ⟨aac _,Z⟩ ⟨I,I,I,I,trivial⟩ I I ?_);rintro j ⟨ad,O⟩;have q1:=O.i1;have q2:=O.ij;have q3:=O.jb;refine sq (sq (bO [pt g (kA kd pre ys post) (sf kd 29 3)] 14 [0,2,4,6,8,10,12,14,16,18,20,22,25,26] Q8 qk qk (dP qk 2 (i<=j) I Q8 (fun Y=>?_) (fun Y=>?_))))
   ·refine bu qk 3 a I I qo ?_;simp only[bf,aaf];refine bT qk 0 0 I I (bN qo) (bu qk 2 j I I qo ?_);simp only[bf,aaf];refine bT qk 0 0 I I (bN qo) (aB qk 0 I (cl 0 I (jG kd (ys.getD a 0) (ys.getD j 0)) ?_));rintro aR aE az ⟨rfl,rfl,rfl⟩;refine aP Q8 I ?_
    by_cases N:ys.getD a 0<ys.getD j 0
    ·rw[decide_eq_true N];exact aI qk 1 I (th (dk I (sk (th (bk (rg (ar 1 I (iB (j:=j) qo) (fin 1 I (bl (bn (x:=j) (j-1) sb I I ⟨qo,O.down Y N⟩ qo))))))))))
    rw[decide_eq_false N];exact aI qk 1 I (th (bP I (ex (xt (xt (xb (jx j ⟨ad,O,fun h=>hq qo,fun _=>abo N⟩ sb I I)))))))
   exact aB qk 9 I<|Bc 1 I (aP Q8 I<|aI qk 1 I (th<|bP I (ex<|xt (xt<|xb (jx j ⟨ad,O,fun h=>absurd h Y,fun h=>absurd h Y⟩ sb I I)))))
  rintro j ⟨ad,O,ae,ag⟩;have q1:=O.i1;have q2:=O.ij;have q3:=O.jb;refine sq (acY (aw 2 I fun aF am=>fin 0 I (th (ax am I (fun e6=>?_) (fun e6=>?_)))))
  ·obtain rfl:i=j+1:=qo
   exact ex<|xt (xn I<|xt (xb<|acV (fin 2 I<|ac0<|af I I ⟨I,ys,j+1,I,I,hP,qo,qo,O.lo,fun p g1 g2=>O.hi p qo g2,ak⟩)))
  have aq:i<j:=by
   rcases aaz i j with h|h
   ·exact h
   have Y:=ae qo;have h2:=ag qo;have:i=j:=qo
   subst this;omega
  have U:(kA kd pre ys post)[eq pre+i]?=some (.int (kI kd) ((ys.getD i 0:Nat):Int)):=bN qo;have aa:(kA kd pre ys post)[eq pre+j]?=some (.int (kI kd) ((ys.getD j 0:Nat):Int)):=bN qo;have V:(kA kd pre (ys.set i (ys.getD j 0)) post)[eq pre+j]?=some (.int (kI kd) (((ys.set i (ys.getD j 0)).getD j 0:Nat):Int)):=bN (by rw[aan];omega);refine sk (th (sq (bO [pt g (kA kd pre ys post) (sf kd 29 3)] 13 [0,2,4,6,8,10,12,14,16,18,20,22,24,27,28,31] Q8 qk qk (bu qk 6 j I I qo ?_))));simp only[bf,aaf];refine bR qk 0 0 I qk I aa (bu qk 2 i I I qo ?_);simp only[bf,aaf];refine bR qk 0 0 I qk I U (bu qk 0 i I I qo ?_);simp only[bf,aaf];refine aB qk 0 I (Ji 0 0 I I U I (bQ (.inl qk) (bu qk 0 j I I qo ?_)))
  simp only[bf,aaf];refine aB qk 0 I ?_;refine Ew (pt g (kA kd pre (ys.set i (ys.getD j 0)) post) (sf kd 29 3)::hs) (congrArg (fun z=>pt g z (sf kd 29 3)::hs) (eK qo)) (Ji 0 0 I I V I ?_);refine Ew (pt g (kA kd pre (Ql i j ys) post) (sf kd 29 3)::hs) (congrArg (fun z=>pt g z (sf kd 29 3)::hs) (eK (by rw[aan];omega))) (bQ (.inl qk) (aI qk 0 rfl (acV (eP 1 i ?_))));refine fin 1 I (acX (ar 1 I (iB (j:=j) qo) (fin 1 I (bl ?_))));exact bn (x:=(i0,X,ys)) (i+1,j-1,Ql i j ys) sb I I ⟨hP.trans (bK.Ql ⟨qo,qo⟩ ⟨qo,qo⟩ qo),O.swap aq qo (ag qo) (ae qo),by rw[kj qo qo,aaa qo,aaa qo];exact ak⟩ aC
end
section
def iu(a b:Nat)(xs:Af):Prop:=∀p q,p<a->a<=q->q<b->xs.getD p 0<=xs.getD q 0
def bK.R8{a b xs ys}(h:bK a b xs ys){i}(hi:i<a\/b<=i):ys.getD i 0=xs.getD i 0:=by
 rw[aaR,h.out i hi,aaR]
def iu.zero(b xs):iu 0 b xs:=fun p q h=>by omega
theorem iu.perm{a b xs ys}(h:iu a b xs)(N:bK a b xs ys)(hb:b<=eq xs):iu a b ys:=fun p q J O U=>by
 obtain⟨r,V,X,Y⟩:=N.mem hb O U;rw[N.R8 (.inl J),Y];exact h p r J V X
def iu.cut{a b m xs}(h:iu a b xs)(hm:m<=b):iu a m xs:=fun p q J N O=>h p q J N qo
def dz.same{a b xs ys}(h:dz a b xs)(O:∀p,a<=p->p<b->ys.getD p 0=xs.getD p 0):dz a b ys:=fun i j J U N=>by
 rw[O i J qo,O j qo N];exact h i j J U N
def ip(a b c d:Nat)(xs:Af):Prop:=∀J,bK c d xs J->dz c d J->dz a b J
def ip.self(a b xs):ip a b a b xs:=fun _ _ h=>h
def ip.step{a b c d xs ys}(h:ip a b c d xs)(O:bK c d xs ys):ip a b c d ys:=fun U J N=>h U (O.trans J) N
structure lx (c d m:Nat) (ys:Af):Prop where
 m1:c<=m
 m2:m<d
 lo:∀p,c<=p->p<m->ys.getD p 0<=ys.getD m 0
 hi:∀p,m<p->p<d->ys.getD m 0<=ys.getD p 0
def lx.left{c d m ys zs}(h:lx c d m ys)(J:bK c m ys zs)(Y:d<=eq ys):lx c d m zs:=by
 have X:=h.m2;refine⟨h.m1,h.m2,fun p N O=>?_,fun p N O=>?_⟩
 ·obtain⟨q,U,q2,V⟩:=J.mem qo N O;rw[V,J.R8 (.inr (aac _))];exact h.lo q U q2
 rw[J.R8 (.inr (aac _)),J.R8 (i:=p) (.inr qo)];exact h.hi p N O
def lx.right{c d m ys zs}(h:lx c d m ys)(J:bK (m+1) d ys zs)(U:d<=eq ys):lx c d m zs:=by
 have X:=h.m2;refine⟨h.m1,h.m2,fun p O N=>?_,fun p O N=>?_⟩
 ·rw[J.R8 (i:=p) (.inl qo),J.R8 (.inl (acG _))];exact h.lo p O N
 obtain⟨q,Y,q2,V⟩:=J.mem U qo N;rw[V,J.R8 (.inl (acG _))];exact h.hi q qo q2
def lx.Up{c d m ys}(h:lx c d m ys)(hl:iu c d ys):iu (m+1) d ys:=fun p q O U J=>by
 have N:=h.m1
 by_cases e:p<c
 ·exact hl p q e qo J
 by_cases e2:p=m
 ·rw[e2];exact h.hi q qo J
 exact aat (h.lo p qo qo)<|h.hi q qo J
theorem ip.left{a b c d m ys zs}(h:ip a b c d ys)(O:lx c d m ys)(V:d<=eq ys)(U:bK c m ys zs)(Y:dz c m zs):ip a b (m+1) d zs:=fun us N X=>by
 have Z:=O.m1;have g2:=O.m2;have J:=(O.left U V).right N (by rw[U.len];exact V);refine h us ((U.wide (aac _) qo).trans (N.wide qo (aac _))) (dz.join (m:=m) (Y.same fun p p1 p2=>N.R8 (.inl qo)) X J.lo J.hi)
theorem ip.right{a b c d m ys zs}(h:ip a b c d ys)(O:lx c d m ys)(V:d<=eq ys)(U:bK (m+1) d ys zs)(Y:dz (m+1) d zs):ip a b c m zs:=fun us N X=>by
 have Z:=O.m1;have g2:=O.m2;have J:=(O.right U V).left N (by rw[U.len];exact V);refine h us ((U.wide qo (aac _)).trans (N.wide (aac _) qo)) (dz.join (m:=m) X (Y.same fun p p1 p2=>N.R8 (.inr qo)) J.lo J.hi)
def ip.equal{a b c d i ys}(h:ip a b c d ys)(hc:0<c)(aa:c+1<=i)(ab:i<=d)(hd:d<=eq ys)(hl:iu c d ys)(ad:ys.getD c 0<=ys.getD (c-1) 0)(Y:∀p,c+1<=p->p<i->ys.getD p 0<=ys.getD c 0)(Z:∀p,i<=p->p<d->ys.getD c 0<ys.getD p 0):
  ip a b i d ys/\iu i d ys:=by
 have J:∀p,c<=p->p<i->ys.getD p 0=ys.getD c 0:=fun p p1 p2=>by
  by_cases e:p=c
  ·rw[e]
  have:=Y p qo p2;have:=hl (c-1) p qo p1 qo;omega
 refine⟨fun us N X=>h us (N.wide qo<|aac _) fun p q U q2 O=>?_,fun p q U q2 O=>?_⟩
 ·by_cases V:q<i
  ·rw[N.R8 (i:=p) (.inl qo),N.R8 (i:=q) (.inl qo),J p U qo,J q qo V];omega
  by_cases e2:p<i
  ·obtain⟨r,r1,r2,r3⟩:=N.mem hd (by omega:i<=q) O;rw[N.R8 (i:=p) (.inl e2),J p U e2,r3];exact abg (Z r r1 r2)
  exact X p q qo q2 O
 by_cases e:p<c
 ·exact hl p q e qo O
 grind
def dz.one{a b xs}(h:b<=a+1):dz a b xs:=fun i j J N O=>by omega
def dz.snoc{a b xs}(h:dz a b xs)(U:a<b)(J:xs.getD (b-1) 0<=xs.getD b 0):dz a (b+1) xs:=fun i j N O V=>by
 by_cases e:j=b
 ·rw[e]
  by_cases e2:i=b-1
  ·rw[e2];exact J
  exact aat (h i (b-1) N qo qo) J
 exact h i j N O qo
end
section
attribute [local irreducible] Code.wp wpList Calls
def PW(kd)(g cap pre post xs a b pv)(aN:a<b)(aT:a<=pv/\pv<b)(hb:b<=eq xs)(hc:eq xs<=cap)(hl:eq xs<=2^40):
  ai w0 (sf kd 262 224) [.slice (some ⟨g,eq pre,none⟩) (eq xs) cap,.int .i64 (a:Nat),.int .i64 (b:Nat),.int .i64 (pv:Nat)] K (pt g (kA kd pre xs post) (sf kd 29 3)::hs)
   (fun v K' hs'=>K'=K/\∃ys,∃m:Nat,∃t:Bool,hs'=pt g (kA kd pre ys post) (sf kd 29 3)::hs/\v=.tuple #[.int .i64 m,.bool t]/\bK a b xs ys/\lx a b m ys):=by
 cases kd
 let kd:Bool:=false
 rewrite[show sf false=sf kd from rfl]
 try rewrite[show kA false=kA kd from rfl]
 refine enter Tryz.func224 qk I I I ?_
 rotate_left
 let kd:Bool:=true
 rewrite[show sf true=sf kd from rfl]
 try rewrite[show kA true=kA kd from rfl]
 refine enter Tryz.func262 qk I I I ?_
 rotate_left
 all_goals
  refine acY (fin 2 I (th (sq ?_)));have U:(kA kd pre xs post)[eq pre+a]?=some (.int (kI kd) ((xs.getD a 0:Nat):Int)):=bN qo;have V:(kA kd pre xs post)[eq pre+pv]?=some (.int (kI kd) ((xs.getD pv 0:Nat):Int)):=bN qo;have N:(kA kd pre (xs.set a (xs.getD pv 0)) post)[eq pre+pv]?=some (.int (kI kd) (((xs.set a (xs.getD pv 0)).getD pv 0:Nat):Int)):=bN (by rw[aan];omega);refine bO [pt g (kA kd pre xs post) (sf kd 29 3)] 13 [0,2,4,6,8,10,12,14,16,18,20,22,24,27,28,31] Q8 qk qk (bu qk 6 pv I I qo ?_);simp only[bf,aaf];refine bR qk 0 0 I qk I V (bu qk 2 a I I qo ?_);simp only[bf,aaf];refine bR qk 0 0 I qk I U (bu qk 0 a I I qo ?_);simp only[bf,aaf];refine aB qk 0 I (Ji 0 0 I I U I (bQ (.inl qk) (bu qk 0 pv I I qo ?_)))
  simp only[bf,aaf];refine aB qk 0 I ?_;refine Ew (pt g (kA kd pre (xs.set a (xs.getD pv 0)) post) (sf kd 29 3)::hs) (congrArg (fun z=>pt g z (sf kd 29 3)::hs) (eK qo)) (Ji 0 0 I I N I ?_);refine Ew (pt g (kA kd pre (Ql a pv xs) post) (sf kd 29 3)::hs) (congrArg (fun z=>pt g z (sf kd 29 3)::hs) (eK (by rw[aan];omega))) (bQ (.inl qk) (aI qk 0 rfl (acV ?_)));have ae:=m8 a pv xs;have ag:bK a b xs (Ql a pv xs):=bK.Ql ⟨qo,qo⟩ ⟨qo,qo⟩ hb;refine eP 1 a ?_;refine ar 1 I (v':=.int .i64 (b-1:Nat)) (by rw[show((b:Nat):Int)-1=((b-1:Nat):Int)from qo];exact ba qo) ?_;obtain⟨ys,aA⟩:=a9 (Ql a pv xs);rw[<-aA]at ae ag⊢;clear aA;have am:eq ys=eq xs:=ae;refine fin 2 I (th (jn (σ:=Nat) (fun i=>[(0,.slice (some ⟨g,eq pre,none⟩) (eq xs) cap),(1,.int .i64 (a:Nat)),(10,.int .i64 (i:Nat)),(11,.int .i64 (((b-1):Nat):Int))]) (fun _=>pt g (kA kd pre ys post) (sf kd 29 3)::hs) (fun i=>(a+1)<=i/\fq (fun x y=>x<y) (fun x y=>y<=x) a b i (b-1) ys/\(i<=(b-1)->ys.getD a 0<=ys.getD i 0)) ?_ ?_))
  ·refine bk (loop (σ:=Nat) (fun i=>[(0,.slice (some ⟨g,eq pre,none⟩) (eq xs) cap),(1,.int .i64 (a:Nat)),(10,.int .i64 (i:Nat)),(11,.int .i64 (((b-1):Nat):Int))]) (fun _=>K) (fun _=>pt g (kA kd pre ys post) (sf kd 29 3)::hs) (fun i=>(a+1)<=i/\fq (fun x y=>x<y) (fun x y=>y<=x) a b i (b-1) ys) (fun i=>(b-1)+1-i) (a+1) ⟨aac _,fq.start _ _ aN⟩ ⟨I,I,I,I,trivial⟩ I I ?_);rintro i ⟨Z,Y⟩;have q1:=Y.i1;have q2:=Y.ij;have q3:=Y.jb;refine sq (sq (bO [pt g (kA kd pre ys post) (sf kd 29 3)] 14 [0,2,4,6,8,10,12,14,16,18,20,22,25,26] Q8 qk qk (dP qk 2 (i<=(b-1)) I Q8 (fun X=>?_) (fun X=>?_))))
   ·refine bu qk 3 i I I qo ?_;simp only[bf,aaf];refine bT qk 0 0 I I (bN qo) (bu qk 2 a I I qo ?_);simp only[bf,aaf];refine bT qk 0 0 I I (bN qo) (aB qk 0 I (cl 0 I (jG kd (ys.getD i 0) (ys.getD a 0)) ?_));rintro aO aD ay ⟨rfl,rfl,rfl⟩;refine aP Q8 I ?_
    by_cases J:ys.getD i 0<ys.getD a 0
    ·rw[decide_eq_true J];refine aI qk 1 I (th (dk I (sk (th (bk (rg (eP 1 i ?_)))))));exact fin 1 I (bl (bn (x:=i) (i+1) sb I I ⟨qo,Y.up X J⟩ qo))
    rw[decide_eq_false J];exact aI qk 1 I (th (bP I (ex (xt (xt (xb (jx i ⟨Z,Y,fun _=>abo J⟩ sb I I)))))))
   exact aB qk 9 I<|Bc 1 I (aP Q8 I<|aI qk 1 I (th<|bP I (ex<|xt (xt<|xb (jx i ⟨Z,Y,fun h=>absurd h X⟩ sb I I)))))
  rintro i ⟨Z,Y,hq⟩;refine jn (σ:=Nat) (fun j=>[(0,.slice (some ⟨g,eq pre,none⟩) (eq xs) cap),(1,.int .i64 (a:Nat)),(10,.int .i64 i),(11,.int .i64 (j:Nat))]) (fun _=>pt g (kA kd pre ys post) (sf kd 29 3)::hs) (fun j=>j<=(b-1)/\fq (fun x y=>x<y) (fun x y=>y<=x) a b i j ys/\(i<=j->ys.getD a 0<=ys.getD i 0)/\(i<=j->ys.getD j 0<ys.getD a 0)) ?_ ?_
  ·refine bk (loop (σ:=Nat) (fun j=>[(0,.slice (some ⟨g,eq pre,none⟩) (eq xs) cap),(1,.int .i64 (a:Nat)),(10,.int .i64 i),(11,.int .i64 (j:Nat))]) (fun _=>K) (fun _=>pt g (kA kd pre ys post) (sf kd 29 3)::hs) (fun j=>j<=(b-1)/\fq (fun x y=>x<y) (fun x y=>y<=x) a b i j ys) (fun j=>j+1-i) ((b-1)) ⟨aac _,Y⟩ ⟨I,I,I,I,trivial⟩ I I ?_);rintro j ⟨aa,O⟩;have q1:=O.i1;have q2:=O.ij;have q3:=O.jb;refine sq (sq (bO [pt g (kA kd pre ys post) (sf kd 29 3)] 15 [0,2,4,6,8,10,12,14,16,18,20,22,25,26,28] Q8 qk qk (dP qk 2 (i<=j) I Q8 (fun X=>?_) (fun X=>?_))))
   ·refine bu qk 3 j I I qo ?_;simp only[bf,aaf];refine bT qk 0 0 I I (bN qo) (bu qk 2 a I I qo ?_);simp only[bf,aaf];refine bT qk 0 0 I I (bN qo) (aB qk 0 I (cl 0 I (jG kd (ys.getD j 0) (ys.getD a 0)) ?_));rintro aR aE az ⟨rfl,rfl,rfl⟩;refine aP Q8 I ?_
    by_cases J:ys.getD j 0<ys.getD a 0
    ·rw[decide_eq_true J];exact aI qk 2 I (th (bP I (ex (xt (xt (xb (jx j ⟨aa,O,fun h=>hq qo,fun _=>J⟩ sb I I)))))))
    rw[decide_eq_false J];exact aI qk 2 I (th (dk I (sk (th (bk (rg (ar 1 I (iB (j:=j) qo) (fin 1 I (bl (bn (x:=j) (j-1) sb I I ⟨qo,O.down X (abo J)⟩ qo))))))))))
   exact aB qk 9 I<|Bc 1 I (aP Q8 I<|aI qk 2 I (th<|bP I (ex<|xt (xt<|xb (jx j ⟨aa,O,fun h=>absurd h X,fun h=>absurd h X⟩ sb I I)))))
  rintro j ⟨aa,O,ab,ad⟩;have q1:=O.i1;have q2:=O.ij;have q3:=O.jb;refine sq (acY (aw 2 I fun aF ap=>fin 0 I (th (ax ap I (fun e6=>?_) (fun e6=>?_)))))
  ·obtain rfl:i=j+1:=qo
   have U:(kA kd pre ys post)[eq pre+j]?=some (.int (kI kd) ((ys.getD j 0:Nat):Int)):=bN qo;have V:(kA kd pre ys post)[eq pre+a]?=some (.int (kI kd) ((ys.getD a 0:Nat):Int)):=bN qo;have N:(kA kd pre (ys.set j (ys.getD a 0)) post)[eq pre+a]?=some (.int (kI kd) (((ys.set j (ys.getD a 0)).getD a 0:Nat):Int)):=bN (by rw[aan];omega);refine sq (bO [pt g (kA kd pre ys post) (sf kd 29 3)] 13 [0,2,4,6,8,10,12,14,16,18,20,22,24,27,28,31] Q8 qk qk (bu qk 6 a I I qo ?_));simp only[bf,aaf];refine bR qk 0 0 I qk I V (bu qk 2 j I I qo ?_);simp only[bf,aaf];refine bR qk 0 0 I qk I U (bu qk 0 j I I qo ?_);simp only[bf,aaf];refine aB qk 0 I (Ji 0 0 I I U I (bQ (.inl qk) (bu qk 0 a I I qo ?_)))
   simp only[bf,aaf];refine aB qk 0 I ?_;refine Ew (pt g (kA kd pre (ys.set j (ys.getD a 0)) post) (sf kd 29 3)::hs) (congrArg (fun z=>pt g z (sf kd 29 3)::hs) (eK qo)) (Ji 0 0 I I N I ?_);refine Ew (pt g (kA kd pre (Ql j a ys) post) (sf kd 29 3)::hs) (congrArg (fun z=>pt g z (sf kd 29 3)::hs) (eK (by rw[aan];omega))) (bQ (.inl qk) (aI qk 0 rfl (acV (fin 3 rfl (ac0 ?_)))));have hA:=O.last qo;exact bS I I I ⟨I,Ql j a ys,j,true,I,I,ag.trans (bK.Ql ⟨qo,qo⟩ ⟨qo,qo⟩ qo),⟨qo,qo,fun p p1 p2=>abg (hA.1 p p1 p2),hA.2⟩⟩
  have ak:i<j:=by
   rcases aaz i j with h|h
   ·exact h
   have X:=ab qo;have h2:=ad qo;have:i=j:=qo
   subst this;omega
  have U:(kA kd pre ys post)[eq pre+i]?=some (.int (kI kd) ((ys.getD i 0:Nat):Int)):=bN qo;have V:(kA kd pre ys post)[eq pre+j]?=some (.int (kI kd) ((ys.getD j 0:Nat):Int)):=bN qo;have N:(kA kd pre (ys.set i (ys.getD j 0)) post)[eq pre+j]?=some (.int (kI kd) (((ys.set i (ys.getD j 0)).getD j 0:Nat):Int)):=bN (by rw[aan];omega);refine sk (th (sq (bO [pt g (kA kd pre ys post) (sf kd 29 3)] 13 [0,2,4,6,8,10,12,14,16,18,20,22,24,27,28,31] Q8 qk qk (bu qk 6 j I I qo ?_))));simp only[bf,aaf];refine bR qk 0 0 I qk I V (bu qk 2 i I I qo ?_);simp only[bf,aaf];refine bR qk 0 0 I qk I U (bu qk 0 i I I qo ?_);simp only[bf,aaf];refine aB qk 0 I (Ji 0 0 I I U I (bQ (.inl qk) (bu qk 0 j I I qo ?_)))
  simp only[bf,aaf];refine aB qk 0 I ?_;refine Ew (pt g (kA kd pre (ys.set i (ys.getD j 0)) post) (sf kd 29 3)::hs) (congrArg (fun z=>pt g z (sf kd 29 3)::hs) (eK qo)) (Ji 0 0 I I N I ?_);refine Ew (pt g (kA kd pre (Ql i j ys) post) (sf kd 29 3)::hs) (congrArg (fun z=>pt g z (sf kd 29 3)::hs) (eK (by rw[aan];omega))) (bQ (.inl qk) (aI qk 0 rfl (acV (eP 1 i ?_))));refine fin 1 I (acV (ar 1 I (iB (j:=j) qo) ?_));have aq:=O.swap ak qo (ad qo) (ab qo);have av:bK a b xs (Ql i j ys):=ag.trans (bK.Ql ⟨qo,qo⟩ ⟨qo,qo⟩ qo);refine fin 1 I (th (jn (σ:=Nat×Af) (fun s=>[(0,.slice (some ⟨g,eq pre,none⟩) (eq xs) cap),(1,.int .i64 (a:Nat)),(10,.int .i64 (s.1+1:Nat)),(11,.int .i64 s.1)]) (fun s=>pt g (kA kd pre s.2 post) (sf kd 29 3)::hs) (fun s=>bK a b xs s.2/\fq (fun x y=>x<y) (fun x y=>y<=x) a b (s.1+1) s.1 s.2) ?_ ?_))
  ·refine bk ?_
   refine loop (σ:=Nat×Nat×Af) (fun s=>[(0,.slice (some ⟨g,eq pre,none⟩) (eq xs) cap),(1,.int .i64 (a:Nat)),(10,.int .i64 s.1),(11,.int .i64 s.2.1)]) (fun _=>K) (fun s=>pt g (kA kd pre s.2.2 post) (sf kd 29 3)::hs)
    (fun s=>bK a b xs s.2.2/\fq (fun x y=>x<y) (fun x y=>y<=x) a b s.1 s.2.1 s.2.2) (fun s=>s.2.1+1-s.1) (i+1,j-1,Ql i j ys) ⟨av,aq⟩ sb rfl rfl ?_
   clear aq av ak N V U e6 ad ab q3 q2 q1 O aa hq Y Z;clear ap aF j i am ag ae ys;rintro⟨i0,j0,ys⟩ ⟨hP,aL⟩;dsimp only at *;have am:eq ys=eq xs:=hP.len;refine bk (jn (σ:=Nat) (fun i=>[(0,.slice (some ⟨g,eq pre,none⟩) (eq xs) cap),(1,.int .i64 (a:Nat)),(10,.int .i64 (i:Nat)),(11,.int .i64 j0)]) (fun _=>pt g (kA kd pre ys post) (sf kd 29 3)::hs) (fun i=>i0<=i/\fq (fun x y=>x<y) (fun x y=>y<=x) a b i j0 ys/\(i<=j0->ys.getD a 0<=ys.getD i 0)) ?_ ?_)
   ·refine bk (loop (σ:=Nat) (fun i=>[(0,.slice (some ⟨g,eq pre,none⟩) (eq xs) cap),(1,.int .i64 (a:Nat)),(10,.int .i64 (i:Nat)),(11,.int .i64 j0)]) (fun _=>K) (fun _=>pt g (kA kd pre ys post) (sf kd 29 3)::hs) (fun i=>i0<=i/\fq (fun x y=>x<y) (fun x y=>y<=x) a b i j0 ys) (fun i=>j0+1-i) i0 ⟨aac _,aL⟩ ⟨I,I,I,I,trivial⟩ I I ?_);rintro i ⟨Z,Y⟩;have q1:=Y.i1;have q2:=Y.ij;have q3:=Y.jb;refine sq (sq (bO [pt g (kA kd pre ys post) (sf kd 29 3)] 14 [0,2,4,6,8,10,12,14,16,18,20,22,25,26] Q8 qk qk (dP qk 2 (i<=j0) I Q8 (fun X=>?_) (fun X=>?_))))
    ·refine bu qk 3 i I I qo ?_;simp only[bf,aaf];refine bT qk 0 0 I I (bN qo) (bu qk 2 a I I qo ?_);simp only[bf,aaf];refine bT qk 0 0 I I (bN qo) (aB qk 0 I (cl 0 I (jG kd (ys.getD i 0) (ys.getD a 0)) ?_));rintro aO aD ay ⟨rfl,rfl,rfl⟩;refine aP Q8 I ?_
     by_cases J:ys.getD i 0<ys.getD a 0
     ·rw[decide_eq_true J];refine aI qk 1 I (th (dk I (sk (th (bk (rg (eP 1 i ?_)))))));exact fin 1 I (bl (bn (x:=i) (i+1) sb I I ⟨qo,Y.up X J⟩ qo))
     rw[decide_eq_false J];exact aI qk 1 I (th (bP I (ex (xt (xt (xb (jx i ⟨Z,Y,fun _=>abo J⟩ sb I I)))))))
    exact aB qk 9 I<|Bc 1 I (aP Q8 I<|aI qk 1 I (th<|bP I (ex<|xt (xt<|xb (jx i ⟨Z,Y,fun h=>absurd h X⟩ sb I I)))))
   rintro i ⟨Z,Y,hq⟩;refine jn (σ:=Nat) (fun j=>[(0,.slice (some ⟨g,eq pre,none⟩) (eq xs) cap),(1,.int .i64 (a:Nat)),(10,.int .i64 i),(11,.int .i64 (j:Nat))]) (fun _=>pt g (kA kd pre ys post) (sf kd 29 3)::hs) (fun j=>j<=j0/\fq (fun x y=>x<y) (fun x y=>y<=x) a b i j ys/\(i<=j->ys.getD a 0<=ys.getD i 0)/\(i<=j->ys.getD j 0<ys.getD a 0)) ?_ ?_
   ·refine bk (loop (σ:=Nat) (fun j=>[(0,.slice (some ⟨g,eq pre,none⟩) (eq xs) cap),(1,.int .i64 (a:Nat)),(10,.int .i64 i),(11,.int .i64 (j:Nat))]) (fun _=>K) (fun _=>pt g (kA kd pre ys post) (sf kd 29 3)::hs) (fun j=>j<=j0/\fq (fun x y=>x<y) (fun x y=>y<=x) a b i j ys) (fun j=>j+1-i) (j0) ⟨aac _,Y⟩ ⟨I,I,I,I,trivial⟩ I I ?_);rintro j ⟨aa,O⟩;have q1:=O.i1;have q2:=O.ij;have q3:=O.jb;refine sq (sq (bO [pt g (kA kd pre ys post) (sf kd 29 3)] 15 [0,2,4,6,8,10,12,14,16,18,20,22,25,26,28] Q8 qk qk (dP qk 2 (i<=j) I Q8 (fun X=>?_) (fun X=>?_))))
    ·refine bu qk 3 j I I qo ?_;simp only[bf,aaf];refine bT qk 0 0 I I (bN qo) (bu qk 2 a I I qo ?_);simp only[bf,aaf];refine bT qk 0 0 I I (bN qo) (aB qk 0 I (cl 0 I (jG kd (ys.getD j 0) (ys.getD a 0)) ?_));rintro aR aE az ⟨rfl,rfl,rfl⟩;refine aP Q8 I ?_
     by_cases J:ys.getD j 0<ys.getD a 0
     ·rw[decide_eq_true J];exact aI qk 2 I (th (bP I (ex (xt (xt (xb (jx j ⟨aa,O,fun h=>hq qo,fun _=>J⟩ sb I I)))))))
     rw[decide_eq_false J];exact aI qk 2 I (th (dk I (sk (th (bk (rg (ar 1 I (iB (j:=j) qo) (fin 1 I (bl (bn (x:=j) (j-1) sb I I ⟨qo,O.down X (abo J)⟩ qo))))))))))
    exact aB qk 9 I<|Bc 1 I (aP Q8 I<|aI qk 2 I (th<|bP I (ex<|xt (xt<|xb (jx j ⟨aa,O,fun h=>absurd h X,fun h=>absurd h X⟩ sb I I)))))
   rintro j ⟨aa,O,ab,ad⟩;have q1:=O.i1;have q2:=O.ij;have q3:=O.jb;refine sq (acY (aw 2 I fun aS an=>fin 0 I (th (ax an I (fun e6=>?_) (fun e6=>?_)))))
   ·obtain rfl:i=j+1:=qo
    exact ex<|xt (xn I<|xt (xb<|jx (j,ys) ⟨hP,O⟩ sb I I))
   have ak:i<j:=by
    rcases aaz i j with h|h
    ·exact h
    have X:=ab qo;have h2:=ad qo;have:i=j:=qo
    subst this;omega
   have U:(kA kd pre ys post)[eq pre+i]?=some (.int (kI kd) ((ys.getD i 0:Nat):Int)):=bN qo;have V:(kA kd pre ys post)[eq pre+j]?=some (.int (kI kd) ((ys.getD j 0:Nat):Int)):=bN qo;have N:(kA kd pre (ys.set i (ys.getD j 0)) post)[eq pre+j]?=some (.int (kI kd) (((ys.set i (ys.getD j 0)).getD j 0:Nat):Int)):=bN (by rw[aan];omega);refine sk (th (sq (bO [pt g (kA kd pre ys post) (sf kd 29 3)] 13 [0,2,4,6,8,10,12,14,16,18,20,22,24,27,28,31] Q8 qk qk (bu qk 6 j I I qo ?_))));simp only[bf,aaf];refine bR qk 0 0 I qk I V (bu qk 2 i I I qo ?_);simp only[bf,aaf];refine bR qk 0 0 I qk I U (bu qk 0 i I I qo ?_);simp only[bf,aaf];refine aB qk 0 I (Ji 0 0 I I U I (bQ (.inl qk) (bu qk 0 j I I qo ?_)))
   simp only[bf,aaf];refine aB qk 0 I ?_;refine Ew (pt g (kA kd pre (ys.set i (ys.getD j 0)) post) (sf kd 29 3)::hs) (congrArg (fun z=>pt g z (sf kd 29 3)::hs) (eK qo)) (Ji 0 0 I I N I ?_);refine Ew (pt g (kA kd pre (Ql i j ys) post) (sf kd 29 3)::hs) (congrArg (fun z=>pt g z (sf kd 29 3)::hs) (eK (by rw[aan];omega))) (bQ (.inl qk) (aI qk 0 rfl (acV (eP 1 i ?_))));exact fin 1 I (acX (ar 1 I (iB (j:=j) qo) (fin 1 I (bl (bn (x:=(i0,j0,ys)) (i+1,j-1,Ql i j ys) sb I I ⟨hP.trans (bK.Ql ⟨qo,qo⟩ ⟨qo,qo⟩ qo),O.swap ak qo (ad qo) (ab qo)⟩ aC)))))
  rintro⟨j,ys⟩ ⟨hP,O⟩;dsimp only at *;have am:eq ys=eq xs:=hP.len;have q1:=O.i1;have q2:=O.ij;have q3:=O.jb;have U:(kA kd pre ys post)[eq pre+j]?=some (.int (kI kd) ((ys.getD j 0:Nat):Int)):=bN qo;have V:(kA kd pre ys post)[eq pre+a]?=some (.int (kI kd) ((ys.getD a 0:Nat):Int)):=bN qo;have N:(kA kd pre (ys.set j (ys.getD a 0)) post)[eq pre+a]?=some (.int (kI kd) (((ys.set j (ys.getD a 0)).getD a 0:Nat):Int)):=bN (by rw[aan];omega);refine sq (bO [pt g (kA kd pre ys post) (sf kd 29 3)] 13 [0,2,4,6,8,10,12,14,16,18,20,22,24,27,28,31] Q8 qk qk (bu qk 6 a I I qo ?_));simp only[bf,aaf];refine bR qk 0 0 I qk I V (bu qk 2 j I I qo ?_);simp only[bf,aaf];refine bR qk 0 0 I qk I U (bu qk 0 j I I qo ?_)
  simp only[bf,aaf];refine aB qk 0 I (Ji 0 0 I I U I (bQ (.inl qk) (bu qk 0 a I I qo ?_)));simp only[bf,aaf];refine aB qk 0 I ?_;refine Ew (pt g (kA kd pre (ys.set j (ys.getD a 0)) post) (sf kd 29 3)::hs) (congrArg (fun z=>pt g z (sf kd 29 3)::hs) (eK qo)) (Ji 0 0 I I N I ?_);refine Ew (pt g (kA kd pre (Ql j a ys) post) (sf kd 29 3)::hs) (congrArg (fun z=>pt g z (sf kd 29 3)::hs) (eK (by rw[aan];omega))) (bQ (.inl qk) (aI qk 0 rfl (acV (fin 3 rfl (ac0 ?_)))));have hA:=O.last qo;exact bS I I I ⟨I,Ql j a ys,j,false,I,I,hP.trans (bK.Ql ⟨qo,qo⟩ ⟨qo,qo⟩ qo),⟨qo,qo,fun p p1 p2=>abg (hA.1 p p1 p2),hA.2⟩⟩
end
end Go.En
