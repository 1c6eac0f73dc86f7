/-
  Part 7.
-/
import Derived.Test.YtaifbolghjccjaaGreatSo6
set_option linter.defProp false
set_option linter.unusedSectionVars false
set_option linter.unusedSimpArgs false
set_option linter.unusedVariables false
set_option maxRecDepth 4000
namespace Go.En
open Go.Proofs Go.Proofs.YtaifbolghjccjaaGreat
open List renaming length -> eq
attribute [local irreducible] Code.wp wpList Calls
variable {w0:World}{K:PH}{hs:Ac}
section
structure Sx where
 kind:Int
 n:Int
 m:Int
 draw:Nat
 ps:Ae
def da(x:Sx)(ap:Ab)(cp:Nat):Ah:=#[.int .i64 x.kind,.int .i64 x.n,.int .i64 x.m,.int .u64 x.draw,.slice ap (eq x.ps) cp]
def jf(r:pq):Ad:=[.int .i64 r.n,.int .u64 r.t,.int .u64 r.Jn,.int .u64 r.idx,.int .u64 r.lead,.int .u64 r.Je]
abbrev lP:Nat:=83
abbrev dM:Nat:=80
def r9(U i:Nat)(ps:Ae)(R:Nd)(L:Lg)(D:Dk)(R':Nd)(N:Lg)(J:Dk)(Je lead:Nat)(rd rd':List pq):Prop:=
 (rd'=rd/\((∃d,R'=(R.tick L D d).1/\N=(R.tick L D d).2.1/\J=(R.tick L D d).2.2.1)\/(∃b,R'=(R.Jk L D b).1/\N=(R.Jk L D b).2.1/\J=(R.Jk L D b).2.2.1) \/
  (∃a u,R'=(R.change L D a u).1/\N=(R.change L D a u).2.1/\J=(R.change L D a u).2.2.1)\/(∃b,eq b<=3/\R'=(R.save L D R.Je b).1/\N=(R.save L D R.Je b).2.1/\J=(R.save L D R.Je b).2.2.1) \/
  (∃m:Int,m<=9223372036854775807/\R'=R/\N=L/\J=D.arm m)\/(R'=R/\N=L/\J=D)\/(∃O E,eZ (D.Ke ps) (dO U)=(some O,E,0)/\R'=Nd.new (i:Int) O/\N=O/\J=E))) \/
 (R'=(R.read L).1/\N=L/\J=D/\(rd'=rd\/((R.read L).2.2.2=0/\rd'=rd++[⟨i,L.kt,(R.read L).2.1,(R.read L).2.2.1,lead,Je⟩])))
def dR.TO{vn j g ns W i R R' L O D N ps rd'}(hv:1<=vn/\vn<=7)(hj:j<=100000)(x:dR (dO vn) j g ns W)(hi:ns[i]?=some ⟨R,L,D⟩)(c:r9 vn i ps R L D R' O N W.Je W.lead W.rd rd'):
  ∃h,dR (dO vn) (j+1) h (ns.set i ⟨R',O,N⟩) {W with rd:=rd'}:=by
 have y:=x.n i _ hi;have J:=uy hv;have aa:=(aav.1 hi).1;have hl:=x.l
 have k:∀(R':Nd) (O:Lg) (N:Dk),Sc (dO vn) j g (i:Int) R' O N->∃h,dR (dO vn) (j+1) h (ns.set i ⟨R',O,N⟩) W:=fun R' O N c=>by
  obtain⟨h,_,w⟩:=x.call hi (s':=⟨R',O,N⟩) c;exact⟨h,w⟩
 rcases c with⟨rfl,⟨d,rfl,rfl,rfl⟩|⟨b,rfl,rfl,rfl⟩|⟨a,u,rfl,rfl,rfl⟩|⟨b,hb,rfl,rfl,rfl⟩|⟨m,hm,rfl,rfl,rfl⟩|⟨rfl,rfl,rfl⟩|⟨L2,E,V,rfl,rfl,rfl⟩⟩|⟨rfl,rfl,rfl,h⟩
 ·exact k _ _ _<|y.tick J hj x.G d
 ·exact k _ _ _<|y.Jk J hj x.G b
 ·exact k _ _ _<|y.change J hj x.G a u
 ·exact k _ _ _<|y.save J hj x.G _ b hb
 ·exact k _ _ _ ⟨g,Cw _ g,x.G,(y.arm J hj m hm).up (aaq j)⟩
 ·exact k _ _ _<|Sc.same y x.G
 ·obtain⟨_,L3,E3,Y,Z⟩:=y.Ti J hj qo ps;rw[Y]at V;cases V;exact k _ _ _ ⟨g,Cw _ g,x.G,Z⟩
 obtain⟨X,w,r⟩:=x.read hj hi;refine⟨X,?_⟩;rcases h with rfl|⟨hz,rfl⟩
 ·exact w
 refine w.seen ⟨w.s.fl,w.s.ld,w.s.vt,fun q U=>?_,w.s.Je,w.s.lead⟩;rcases aao.1 U with U|U
 ·exact w.s.rd q U
 simp_all
theorem qW{s t}(h:t.Ra=s.Ra):∀(l:List bH) (i:Nat),l[i]?=some s->(l.set i t).flatMap bH.Ra=l.flatMap bH.Ra
 |[],i,hi=>by simp at hi
 |u::r,0,hi=>by simp_all
 |u::r,i+1,hi=>by rw[acA,abM,abM,qW h r i (by simpa using hi)]
end
section
def mB(m:Int):UInt8:=UInt8.ofNat (m%256).toNat
def PM(m):Value.int .u8 (IntKind.u8.wrap m)=.int .u8 (((mB m).toNat:Nat):Int):=by
 have h:IntKind.u8.wrap m=m%256:=by rfl
 grind[UInt8.toNat_ofNat',mB]
def O0{lh g gN gR:PH}{rb lb db c q z k R L D s}(iN:cX K rb lb db R L D s lh g)(o:NI c q z k R L D)(hc:c<=499800000)(hk:k<=3200000)
  {wb vn bm Je lead cN cR aN aR F Ls V bad} {ss:List bH} {i st} (hi:ss[i]?=some st) (aD:st.db=db) (ca:st.lb=lb) (cg:st.rb=rb) (ow:aJ gN aN (eq ss) cN d9 3 (ss.flatMap bH.Ra)) (ck:vn<=7)
  {rd} (oR:aJ gR aR (eq rd) cR lP 6 (rd.flatMap jf)) (dr:eq rd<=100000000) (x) (hd:x.draw<2^64) (hm : -9223372036854775808<=x.m/\x.m<=9223372036854775807)
  (ap cp) (xp:aj K ap (eq x.ps) cp 1 (iv x.ps)) (ce:∀p∈x.ps,-9223372036854775808<=p/\p<=9223372036854775807) (cd:eq x.ps<2^40)
  {cc c2} (oC:aW cc (D.Ke x.ps)) (b8:cc<=199000000) {L2 E} (hf:eZ (D.Ke x.ps) (dO vn)=(some L2,E,0)) (b7:bh c2 L2):
  ai w0 65 [Rp wb,.int .i64 (i:Nat),.agg (da x ap cp)] K (pt rb (aH lb R s) RT::lh::g::pt wb (cw (.slice aN (eq ss) cN) vn F Ls V bm (.slice aR (eq rd) cR) Je lead bad) bw::gN::gR::hs)
   (fun v K' hs'=>∃J U rd' aR' cR' gR',hs'=pt J.rb (aH J.lb J.R J.s) RT::J.lh::J.g::pt wb (cw (.slice aN (eq ss) cN) vn F Ls V bm (.slice aR' (eq rd') cR') Je lead bad) bw::U::gR'::hs/\Le K K'/\bH.ok K' J/\r9 vn i x.ps R L D J.R J.L J.D Je lead rd rd'/\eq rd'<=eq rd+1 /\
    aJ U aN (eq (ss.set i J)) cN d9 3 ((ss.set i J).flatMap bH.Ra)/\aJ gR' aR' (eq rd') cR' lP 6 (rd'.flatMap jf)):=by
 have b9:=(aav.1 hi).1;have aA:=o.rb.Je
 have O:∀{K':PH} {R':Nd} {L':Lg} {Z:Dk} {s':NS} {Y g':PH} {rd':List pq} {aR':Ab} {cR':Nat} {gR':PH},Le K K'->cX K' rb lb db R' L' Z s' Y g'->r9 vn i x.ps R L D R' L' Z Je lead rd rd'->eq rd'<=eq rd+1->aJ gR' aR' (eq rd') cR' lP 6 (rd'.flatMap jf) ->
   ∃J U aa ak aq ay,pt rb (aH lb R' s') RT::Y::g'::pt wb (cw (.slice aN (eq ss) cN) vn F Ls V bm (.slice aR' (eq rd') cR') Je lead bad) bw::gN::gR'::hs=pt J.rb (aH J.lb J.R J.s) RT::J.lh::J.g::pt wb (cw (.slice aN (eq ss) cN) vn F Ls V bm (.slice ak (eq aa) aq) Je lead bad) bw::U::ay::hs/\Le K K'/\bH.ok K' J/\r9 vn i x.ps R L D J.R J.L J.D Je lead rd aa/\eq aa<=eq rd+1 /\
    aJ U aN (eq (ss.set i J)) cN d9 3 ((ss.set i J).flatMap bH.Ra)/\aJ ay ak (eq aa) aq lP 6 (aa.flatMap jf):=fun {K' R' L' Z s' Y g' rd' aR' cR' gR'} le I' a3 hn cq=>
  ⟨⟨db,lb,rb,R',L',Z,s',Y,g'⟩,gN,rd',aR',cR',gR',rfl,le,I',a3,hn,by rw[qW (by simp[bH.Ra]) ss i hi,aan];exact ow,cq⟩
 have aS:=ow.Ni;obtain⟨a,rfl,c0,c1,a1⟩:=nJ aS hi;rw[cg]at a1;rw[ca]at c1;rw[aD]at c0
 have az:∀(j:Nat) v,([Rp db,Rp lb,Rp rb]:Ad)[j]?=some v->co gN ((a.add (i*3)).add j) v:=fun j v hv=>by
  grind[Addr.add]
 have he:∀(R':Nd) (L':Lg) (Z:Dk),((∃d,R'=(R.tick L D d).1/\L'=(R.tick L D d).2.1/\Z=(R.tick L D d).2.2.1)\/(∃b,R'=(R.Jk L D b).1/\L'=(R.Jk L D b).2.1/\Z=(R.Jk L D b).2.2.1) \/
  (∃a u,R'=(R.change L D a u).1/\L'=(R.change L D a u).2.1/\Z=(R.change L D a u).2.2.1)\/(∃b,eq b<=3/\R'=(R.save L D R.Je b).1/\L'=(R.save L D R.Je b).2.1/\Z=(R.save L D R.Je b).2.2.1) \/
  (∃m:Int,m<=9223372036854775807/\R'=R/\L'=L/\Z=D.arm m)\/(R'=R/\L'=L/\Z=D)\/(∃L2 E,eZ (D.Ke x.ps) (dO vn)=(some L2,E,0)/\R'=Nd.new (i:Int) L2/\L'=L2/\Z=E))->r9 vn i x.ps R L D R' L' Z Je lead rd rd:=fun R' L' Z h=>.inl ⟨rfl,h⟩
 refine ent Tryz.func65 ?_;refine acY ?_;refine bx 0 I fun b5=>?_;refine Ez 0 (pt b5 (da x ap cp) dM) ?_;refine au ?_;refine dZ 1 i I I aS b9 Q9 fun c3 bi=>?_;cases bi;refine fu 0 [Rp db,Rp lb,Rp rb] I qk (.inr ⟨5,I⟩) az ?_;refine al 0 (.agg Ir) I qk fun b6=>?_;refine bA 0 0 I I qk I I ?_;refine Ew (pt b6 #[Rp db,Rp lb,Rp rb] d9::pt b5 (da x ap cp) dM::pt rb (aH lb R s) RT::lh::g::pt wb (cw (.slice (some a) (eq ss) cN) vn F Ls V bm (.slice aR (eq rd) cR) Je lead bad) bw::gN::gR::hs) I ?_;refine au ?_;refine cG 0 (x.kind=3) I Q8 fun c4 bo=>?_;refine fin 1 I (th (ax bo I (fun e2=>?_) (fun e2=>?_)))
 ·refine au ?_;refine cl 0 I (Ek [_,_] (EZ iN o qo qo x.draw hd)) ?_;rintro dv cO cy ⟨_,_,_,rfl,⟨s2,rfl,N,X⟩,rfl⟩;refine fin 0 I (bl (Bh (Bh ?_)));exact bZ I (O N X (he _ _ _ (.inl ⟨_,I,I,I⟩)) qo oR)
 refine acY ?_;refine cG 0 (x.kind=4) I Q8 fun c5 bp=>?_;refine fin 1 I (th (ax bp I (fun e4=>?_) (fun e4=>?_)))
 ·refine au ?_;refine bd 0 (.agg (d8.mk 2 1 x.draw [97] 0).v) I Aq ?_;refine cl 0 I (J1 ⟨2,1,x.draw,[97],0⟩ Q8 hd) ?_;rintro dS cQ cz ⟨rfl,dq,a0,a2,rfl,rfl,cm⟩;refine Eg fun K1 le lg=>?_;refine au ?_
  have aE:eq (ob (kW ⟨2,1,x.draw,[97],0⟩))<2^40:=by
   have h1:=dI hd;have h2:eq (aK 1)<=10:=dI qo;have h3:eq (aK 0)<=10:=dI qo;have h5:eq (aK 1)<=10:=dI qo
   have h4:eq (d8.bytes ⟨2,1,x.draw,[97],0⟩)<2^40:=by
    unfold d8.bytes cJ
    grind
   unfold kW
   split
   ·exact h4
   exact(by decide:eq ([]:Aa)<2^40)
  refine cl 1 I (Ek [_,_] (J2 (iN.le le) o qo qo (ob (kW ⟨2,1,x.draw,[97],0⟩)) (.inl I) a0 a2 (cm.Ni.le lg) aE)) ?_;rintro d0 cS cA ⟨_,_,_,rfl,⟨s2,rfl,N,X⟩,rfl⟩;refine fin 0 I (bl (Bh (Bh ?_)));exact bZ I (O (le.trans N) X (he _ _ _ (.inr (.inl ⟨_,I,I,I⟩))) qo oR)
 refine acY ?_;refine cG 0 (x.kind=5) I Q8 fun c6 bq=>?_;refine fin 1 I (th (ax bq I (fun e6=>?_) (fun e6=>?_)))
 ·refine au ?_;refine Bi (hs':=pt rb (aH lb R s) RT::lh::g::pt wb (cw (.slice (some a) (eq ss) cN) vn F Ls V bm (.slice aR (eq rd) cR) Je lead bad) bw::gN::pt b6 #[Rp db,Rp lb,Rp rb] d9::pt b5 (da x ap cp) dM::gR::hs) (aak [_,_] [_,_,_,_,_] _) ?_;refine cl 0 I (Oh iN o qo hi aD ow ck ap cp x.ps xp ce cd oC b8 hf b7) ?_;rintro d1 cT cB ⟨J,U,rfl,N,cr,b4,ad,b3,cs⟩;refine fin 0 I (bl (Bk (hs':=pt b6 #[Rp db,Rp lb,Rp rb] d9::pt b5 (da x ap cp) dM::pt J.rb (aH J.lb J.R J.s) RT::J.lh::J.g::pt wb (cw (.slice (some a) (eq ss) cN) vn F Ls V bm (.slice aR (eq rd) cR) Je lead bad) bw::U::gR::hs) (aak [_,_,_,_,_] [_,_] _) (Bh (Bh ?_))));exact bZ I ⟨J,U,rd,aR,cR,gR,I,N,cr,he _ _ _ (.inr (.inr (.inr (.inr (.inr (.inr ⟨L2,E,hf,b4,ad,b3⟩)))))),qo,cs,oR⟩
 refine acY ?_;refine cG 0 (x.kind=6) I Q8 fun c7 bs=>?_;refine fin 1 I (th (ax bs I (fun e8=>?_) (fun e8=>?_)))
 ·refine au ?_;refine cl 0 I (Ek [_,_] (Di iN o qo qo true x.m)) ?_;rintro ct aT aF ⟨_,_,_,rfl,⟨s2,rfl,N,X⟩,rfl⟩;refine fin 0 I (bl (Bh (Bh ?_)));exact bZ I (O N X (he _ _ _ (.inr (.inr (.inl ⟨_,_,I,I,I⟩)))) qo oR)
 refine acY ?_;refine cG 0 (x.kind=7) I Q8 fun c8 bB=>?_;refine fin 1 I (th (ax bB I (fun a4=>?_) (fun a4=>?_)))
 ·refine au ?_;refine cl 0 I (Ek [_,_] (Di iN o qo qo false x.m)) ?_;rintro ct aT aF ⟨_,_,_,rfl,⟨s2,rfl,N,X⟩,rfl⟩;refine fin 0 I (bl (Bh (Bh ?_)));exact bZ I (O N X (he _ _ _ (.inr (.inr (.inl ⟨_,_,I,I,I⟩)))) qo oR)
 refine acY ?_;refine cG 0 (x.kind=8) I Q8 fun dd bV=>?_;refine fin 1 I (th (ax bV I (fun a5=>?_) (fun a5=>?_)))
 ·refine bC [0,1] 10 [0,2,4,6,10,12,14,9,17,19] ?_;refine au ?_;refine bF qk 0 I (v':=.int .u8 (((mB x.m).toNat:Nat):Int)) (PM x.m) ?_;refine rX 8 qk 0 [9,19] I qk ?_ ?_
  ·refine cl 0 I (Ck 2 I tT) ?_;rintro cu aV aL ⟨rfl,rfl,rfl⟩;refine aP Q8 I ?_;refine aB qk 0 I ?_;refine lit 0 #[.int .u8 (((mB x.m).toNat:Nat):Int),.int .u8 1,.int .u8 2] I Q9 qk fun ab=>?_;refine Eg fun K1 le lg=>?_;refine dX Q8 le ?_;refine au ?_;refine cl 0 I (Ek [_,_] (Fc (iN.le le) o qo R.Je (by unfold ac at aA;omega) [mB x.m,1,2] Q8 (some ⟨ab,0,none⟩) 3 ((Et rfl rfl).le lg))) ?_;rintro cv aY aO ⟨_,_,_,rfl,⟨s2,rfl,N,X⟩,rfl⟩;refine dX Q8 N ?_;refine aI qk 0 I (bl (Bh (Bh ?_)));exact bZ I (O (le.trans N) X (he _ _ _ (.inr (.inr (.inr (.inl ⟨[mB x.m,1,2],aac 3,I,I,I⟩))))) qo oR)
  refine lit 0 #[.int .u8 (((mB x.m).toNat:Nat):Int),.int .u8 1,.int .u8 2] I Q9 qk fun ab=>?_;refine Eg fun K1 le lg=>?_;refine dX Q8 le ?_;refine au ?_;refine cl 0 I (Ck 2 I tT) ?_;rintro cu aV aL ⟨rfl,rfl,rfl⟩;refine aP Q8 I ?_;refine aB qk 0 I ?_;refine cl 0 I (Ek [_,_] (Fc (iN.le le) o qo R.Je (by unfold ac at aA;omega) [mB x.m,1,2] Q8 (some ⟨ab,0,none⟩) 3 ((Et rfl rfl).le lg))) ?_;rintro cv aY aO ⟨_,_,_,rfl,⟨s2,rfl,N,X⟩,rfl⟩;refine dX Q8 N ?_;refine aI qk 0 I (bl (Bh (Bh ?_)));exact bZ I (O (le.trans N) X (he _ _ _ (.inr (.inr (.inr (.inl ⟨[mB x.m,1,2],aac 3,I,I,I⟩))))) qo oR)
 refine acY ?_;refine cG 0 (x.kind=9) I Q8 fun dh b0=>?_;refine fin 1 I (th (ax b0 I (fun a6=>?_) (fun a6=>?_)))
 ·refine au ?_;refine cl 0 I (Er 3 I (Qn iN.l x.m hm)) ?_;rintro d3 cY cE ⟨Y,rfl,N,ad,rfl⟩;refine Ew (pt b6 #[Rp db,Rp lb,Rp rb] d9::pt b5 (da x ap cp) dM::pt rb (aH lb R s) RT::Y::g::pt wb (cw (.slice (some a) (eq ss) cN) vn F Ls V bm (.slice aR (eq rd) cR) Je lead bad) bw::gN::gR::hs) I ?_;refine fin 0 I (bl (Bh (Bh ?_)));exact bZ I (O N ⟨ad,iN.g.le N⟩ (he _ _ _ (.inr (.inr (.inr (.inr (.inl ⟨x.m,hm.2,I,I,I⟩)))))) qo oR)
 refine acY ?_;refine cG 0 (x.kind=10) I Q8 fun dj b1=>?_;refine fin 1 I (th (ax b1 I (fun bb=>?_) (fun bb=>?_)))
 ·refine au ?_;refine cl 0 I (Ek [_,_] (Om iN o qo qo)) ?_;rintro d2 cV cD ⟨_,Y,g',rfl,⟨s2,rfl,N,X⟩,rfl⟩;obtain⟨R1,ae⟩:=a9 ((R.read L).1);obtain⟨rn,ix,e0,ag⟩:∃rn ix e0,(R.read L).2=(rn,ix,e0):=⟨_,_,_,rfl⟩;rw[<-ae]at X⊢;rw[ag];refine au ?_;refine cG 1 (e0=0) I Q8 fun dl b2=>?_;refine fin 0 I (th (ax b2 I (fun av=>?_) (fun av=>?_)))
  ·refine bC [5,0] 24 [0,2,4,6,8,10,12,14,18,20,22,24,26,28,30,32,34,36,17,38,41,43,44,46,49] ?_;refine au ?_;refine cl 0 I (Cp [_,_] (iI X.l)) ?_;rintro cL cx ch ⟨_,cF,rfl,rfl,rfl,rfl,rfl⟩;refine aP Q8 I ?_;refine jh qk 0 (.agg (jf ⟨i,L.kt,rn,ix,lead,Je⟩).toArray) I Aq ?_;refine aB qk 0 I ?_;refine lit 0 (jf ⟨i,L.kt,rn,ix,lead,Je⟩).toArray I Q9 qk fun am=>?_;refine aP Q8 I ?_;refine aB qk 0 I ?_;refine app 0 8 I I oR (.inr ⟨0,I⟩) (aJ.Re (b:=am) (c:=(jf ⟨i,L.kt,rn,ix,lead,Je⟩).toArray) (e:=lP) (n:=1) (size:=6) I Q9).Ni I Q9 (by intro u hu;simp[jf]at hu;rcases hu with rfl|rfl|rfl|rfl|rfl|rfl<;>rfl) (by show(eq rd+1)*48<=_;omega) (by simp[maxLen];omega) fun an cn gn on=>?_;refine aP Q8 I ?_;refine aB qk 2 I ?_
   refine Ji 0 6 I I I I ?_;refine bQ (.inl qk) ?_;refine aI qk 0 I (bl (Bh (Bh (Bh ?_))));have h:=(O (rd':=rd++[⟨i,L.kt,rn,ix,lead,Je⟩]) (aR':=an) (cR':=cn) (gR':=gn) N X (.inr ⟨ae,rfl,rfl,.inr ⟨by rw[ag];exact av,by rw[ag]⟩⟩) Q8 (by rw[aaj,acP];exact on));rw[show eq (rd++[(⟨i,L.kt,rn,ix,lead,Je⟩:pq)])=eq rd+1 from by simp]at h;exact bZ I h
  refine sk (bl (Bh (Bh ?_)));exact bZ I (O N X (.inr ⟨ae,I,I,.inl I⟩) qo oR)
 refine sk (bl (Bh (Bh ?_)));exact bZ I (O (Cg _) iN (he _ _ _ (.inr (.inr (.inr (.inr (.inr (.inl ⟨I,I,I⟩))))))) qo oR)
end
section
def N8{w0:World}{K gF:PH}{hs:Ac}{wb vn bm Je lead cF aF N Ls V Rs bad fl}(oF:kQ K gF aF (eq fl) cF fl)(a1:eq fl<=1000)(n):
  ai w0 62 [Rp wb,.int .i64 n] K (pt wb (cw N vn (.slice aF (eq fl) cF) Ls V bm Rs Je lead bad) bw::gF::hs)
   (fun v K' hs'=>∃U ad ag an,hs'=pt wb (cw N vn (.slice ad (eq U) ag) Ls V bm Rs Je lead bad) bw::an::hs/\Le K K'/\kQ K' an ad (eq U) ag U/\(∀x∈U,x∈fl)/\eq U<=eq fl /\
    ∃m O,dF K' m O/\((m∈fl/\v=.tuple #[.agg (mv m O),.bool true])\/v=.tuple #[.agg (mv m O),.bool false])):=by
 refine ent Tryz.func62 ?_;refine acY ?_;refine al 0 (.agg Ip) I qk fun b4=>?_;refine au ?_;refine cG 1 (n<0) I Q8 fun b8 h8=>?_
 refine' dB (q:=(eq fl:Int)<=n) 1 8 17 [8,9] h8 I I I I I I I (fun _=>?x2) (fun aV aA=>?_)
 case x2=>
  refine au ?_;refine cG 1 ((eq fl:Int)<=n) I Q8 fun aT az=>?_;exact fin 1 I (bJ az I I I)
 refine fin 0 I<|th (ax aA I (fun e4=>?_) (fun e4=>?_))
 ·refine acY ?_;refine bd 0 (.agg (mv bg.zero ⟨none,0,none,0,none,0⟩)) I Aq ?_;refine au ?_;exact gk 0 1 I I I I qk ⟨fl,aF,cF,gF,I,Cg _,oF,fun _ h=>h,aac _,bg.zero,⟨none,0,none,0,none,0⟩,⟨fE.nil _ _ _,aj.nil _ _ _ _,aj.nil _ _ _ _⟩,.inr I⟩
 obtain⟨j,rfl⟩:∃j:Nat,n=(j:Int):=⟨n.toNat,qo⟩;have aq:j<eq fl:=qo
 obtain⟨m,hm⟩:∃m,fl[j]?=some m:=⟨_,aai aq⟩;refine Bj (hs':=gF::pt b4 Ip gU::pt wb (cw N vn (.slice aF (eq fl) cF) Ls V bm Rs Je lead bad) bw::hs) (aak [_,_] [_] _) (WC.SK fun K1 le lg=>?_)
 have xs:dn 14 (jv K1) K1 aF (eq fl) cF fl:=by
  rcases oF with x|⟨_,rfl,x⟩
  ·exact x.SL.le lg fun _ _ h=>h.le le
  exact x.le le fun _ _ h=>h.le le
 obtain⟨am,O,rfl,ap,aE⟩:=C4 xs hm;obtain⟨css,q1,q2,q3,q4⟩:=xs;refine au ?_;refine dZ 1 j I I q2 aq Q9 fun aS aD=>?_;cases aD;refine fu 0 (mv m O).toList I qk (.inl I) aE ?_;refine al 0 (.agg Ip) I qk fun b6=>?_;refine bA 0 0 I I qk I I ?_;refine Ew (pt b6 (mv m O) gU::pt b4 Ip gU::pt wb (cw N vn (.slice (some am) (eq fl) cF) Ls V bm Rs Je lead bad) bw::hs) I ?_;have aO:=q2.2.1;have X:eq css.flatten=eq fl*14:=q2.1
 have ay:aj K1 (some am) j j 14 ((css.take j).flatten):=by
  have e:(css.take j).flatten=css.flatten.take (j*14):=(wR j q4).symm;rw[e];refine⟨by rw[aal,X];omega,aac _,fun i u hu=>q2.2.2 i u ?_⟩
  grind
 obtain⟨r,hr⟩:=a9 (eq fl-(j+1))
 have aR:eq ((css.drop (j+1)).flatten)=r*14:=by
  rw[<-q9 (j+1) q4,aar,X];omega
 refine au ?_;refine bC [2] 18 [0,2,4,6,8,10,12,16,18,20,22,24,26,28,15,31,32,34,37] ?_;refine au ?_
 first|refine bF qk 0 rfl (ba (x:=((j+1:Nat):Int)) qo) ?_|refine bF qk 1 rfl (ba (x:=((j+1:Nat):Int)) qo) ?_|refine bF qk 2 rfl (ba (x:=((j+1:Nat):Int)) qo) ?_
 refine zW qk 0 (j+1) r I I q2 I (by show((eq fl:Nat):Int)=_;omega) qo (ys:=(css.drop (j+1)).flatten) (by simp_all[q9,aaA]) fun aN aY ab=>?_;refine au ?_;refine uO 0 0 j j I I Q8 I qo qo ?_;rw[pZ,abT];refine aP Q8 I ?_;refine aB qk 0 I ?_;have a0:eq css=eq fl:=q3.len;have J:eq (fl.take j++fl.drop (j+1))=j+r:=by grind
 have aa:∀x∈fl.take j++fl.drop (j+1),x∈fl:=fun x hx=>by
  grind
 have hR:∀d∈css.take j++css.drop (j+1),eq d=14:=fun d hd=>by
  grind
 have Y:eG (jv K1) (css.take j++css.drop (j+1)) (fl.take j++fl.drop (j+1)):=(q3.take j).append (q3.drop (j+1));rcases aa7 r with h0|a2
 ·subst h0;have av:css.drop (j+1)=[]:=aaY (by rw[aar];omega);rw[av]at ab Y hR;rw[aaw]at Y hR;refine GW 0 I (aac _) (.inl I) ab ?_;refine WL.em ?_;refine aP Q8 I ?_;refine aB qk 2 I ?_;refine Ji 0 3 I I I I ?_;refine bQ (.inl qk) ?_;refine aI qk 0 I (acV ?_);refine fI 0 1 I I qk ?_;refine bA 0 2 I I qk I I ?_;refine fin 1 I (ac0 ?_);refine Bk (hs':=pt b4 (mv m O) gU::pt b6 (mv m O) gU::pt wb (cw N vn (.slice (some am) j j) Ls V bm Rs Je lead bad) bw::em::hs) ((aak [_] [_,_,_] _).trans (aap _ _ _)) ?_;exact gk 0 2 I I I I qk ⟨fl.take j++fl.drop (j+1),some am,j,em,by rw[J];rfl,le,.inr ⟨rfl,by rw[J];rfl,by rw[J];exact⟨css.take j,by rw[J],ay,Y,hR⟩⟩,aa,qo,m,O,ap,.inl ⟨aam hm,I⟩⟩
 refine qn 0 I (.inl I) ay (fun h=>by cases h) (.inl I) ab I Q9 qo (by show(j+r)*160<=_;omega) As fun Z ae ak aL=>?_;refine aP Q8 I ?_;refine aB qk 2 I ?_;refine Ji 0 3 I I I I ?_;refine bQ (.inl qk) ?_;refine aI qk 0 I (acV ?_);refine fI 0 1 I I qk ?_;refine bA 0 2 I I qk I I ?_;refine fin 1 I (ac0 ?_);refine Bk (hs':=pt b4 (mv m O) gU::pt b6 (mv m O) gU::pt wb (cw N vn (.slice Z (j+r) ae) Ls V bm Rs Je lead bad) bw::ak::hs) ((aak [_] [_,_,_] _).trans (aap _ _ _)) ?_;exact gk 0 2 I I I I qk ⟨fl.take j++fl.drop (j+1),Z,ae,ak,by rw[J];rfl,le,.inl ⟨css.take j++css.drop (j+1),by rw[J],by rw[J,List.flatten_append];exact .inl aL,Y,hR⟩,aa,qo,m,O,ap,.inl ⟨aam hm,I⟩⟩
end
section
def Ct.Su{P:Program}{f args}{hs2:Ac}{S S'}(p:hs.Perm hs2)(c:Ct P w0 f args K hs2 S)(h:∀v N hs',S v N hs'->∃J,hs'.Perm J/\S' v N J):Ct P w0 f args K hs S':=by
 refine⟨c.1,fun w X=>(c.2 w (X.perm p)).mono ?_⟩;rintro e w' ⟨v,N,hs',rfl,V,U⟩;obtain⟨J,Y,O⟩:=h v N hs' V;exact⟨v,N,J,I,O,U.perm Y⟩
def Kn{ss i st}(h:ss[i]?=some st):(dQ ss).Perm (bH.hp st++dQ (ss.eraseIdx i)):=(iE ss i st h).flatMap_right bH.hp
def nm{A B C D E F G}{ss i st}(h:ss[i]?=some st):(A::B::C::D::E::F::G::(dQ ss++hs)).Perm (pt st.rb (aH st.lb st.R st.s) RT::st.lh::st.g::A::B::C::D::E::G::F::(dQ (ss.eraseIdx i)++hs)):=by
 have J:(dQ ss++hs).Perm ([pt st.rb (aH st.lb st.R st.s) RT,st.lh,st.g]++(dQ (ss.eraseIdx i)++hs)):=by
  rw[<-aaH];exact(Kn h).append_right hs
 have N:=(J.append_left [A,B,C,D,E,F,G]).trans (aak [A,B,C,D,E,F,G] [pt st.rb (aH st.lb st.R st.s) RT,st.lh,st.g] (dQ (ss.eraseIdx i)++hs));exact N.trans (((((((((aap _ _ _).cons _).cons _).cons _).cons _).cons _).cons _).cons _).cons _)
def dR.looked{v0:Ae}{j g}{ns:List qH}{W}{i:Nat}{s}(w:dR v0 j g ns W)(hi:ns[i]?=some s){N:List bg}{J:List (Nat×Nat)}{O:List (Nat×Int×Nat)}{com' lead'}(U:Hi s.R s.L i W.fl N W.ld J W.vt O W.Je com' W.lead lead'){R'}(Y:R'=s.R\/R'={s.R with out:=[]}):
  dR v0 j g (ns.set i ⟨R',s.L,s.D⟩) ⟨N,J,O,W.rd,com',lead'⟩:=by
 have ws:WS v0 g (eq ns) ⟨N,J,O,W.rd,com',lead'⟩:={
  fl:=fun m hm=>by
   rcases U.Ux m hm with h|h
   ·exact w.s.fl m h
   exact⟨(w.out hi m h).1,(w.out hi m h).2.1⟩
  ld:=fun p hp=>by
   rcases U.Uu p hp with h|⟨h,rfl⟩
   ·exact w.s.ld p h
   exact w.lead hi h
  vt:=fun p hp=>by
   rcases U.UC p hp with h|⟨m,hm,k1,k2,rfl⟩
   ·exact w.s.vt p h
   obtain⟨V,_,X⟩:=w.out hi m hm;have:=V.Sb k1 k2;rw[X]at this;exact this
  rd:=w.s.rd
  Je:=by
   show ∃t F,dC g t F com';rcases U.Ub with h|h
   ·rw[h];exact w.s.Je
   rcases ab4 W.Je s.R.Je with hle|hle
   ·rw[h,ab5 hle];exact w.Je hi
   rw[h,acu hle];exact w.s.Je
  lead:=by
   show lead'=0\/g.E lead';rcases U.TR with h|⟨Z,h⟩
   ·rw[h];exact w.s.lead
   rcases ab4 W.lead s.L.kt with hle|hle
   ·rw[h,ab5 hle];exact .inr (w.lead hi Z).1
   rw[h,acu hle];exact w.s.lead}
 have w':=w.seen ws;rcases Y with rfl|rfl
 ·have e:ns.set i ⟨s.R,s.L,s.D⟩=ns:=by
   obtain⟨V,h2⟩:=aav.1 hi;show ns.set i s=ns
   grind[List.set_getElem_self]
  rw[e];exact w'
 exact w'.told hi
theorem qY{α:Type}:∀(l:List α) (i:Nat) (a:α),(l.set i a).eraseIdx i=l.eraseIdx i
 |[],i,a=>by simp
 |b::r,0,a=>by simp
 |b::r,i+1,a=>by simp[qY]
structure Wm where
 ss:List bH
 W:Wp
 bad:Bool
 m:List (Int×Value)
 aN:Ab
 cN:Nat
 gN:PH
 aF:Ab
 cF:Nat
 gF:PH
 aL:Ab
 cL:Nat
 gL:PH
 aV:Ab
 cV:Nat
 gV:PH
 aR:Ab
 cR:Nat
 gR:PH
 hm:PH
def Wm.A(N J:Nat)(x:Wm):Ah:=cw (.slice x.aN (eq x.ss) x.cN) N (.slice x.aF (eq x.W.fl) x.cF) (.slice x.aL (eq x.W.ld) x.cL) (.slice x.aV (eq x.W.vt) x.cV) J (.slice x.aR (eq x.W.rd) x.cR) x.W.Je x.W.lead x.bad
def Wm.hp(wb N J:Nat)(x:Wm)(hs:Ac):Ac:=pt wb (x.A N J) bw::x.gN::x.gF::x.gL::x.gV::x.gR::x.hm::(dQ x.ss++hs)
structure fR (K:PH) (vn bm j q:Nat) (x:Wm):Prop where
 st:∀s∈x.ss,bH.ok K s
 n:aJ x.gN x.aN (eq x.ss) x.cN d9 3 (x.ss.flatMap bH.Ra)
 f:kQ K x.gF x.aF (eq x.W.fl) x.cF x.W.fl
 l:aJ x.gL x.aL (eq x.W.ld) x.cL iP 2 (x.W.ld.flatMap gW)
 v:aJ x.gV x.aV (eq x.W.vt) x.cV lO 3 (x.W.vt.flatMap jZ)
 r:aJ x.gR x.aR (eq x.W.rd) x.cR lP 6 (x.W.rd.flatMap jf)
 m:dH kD id x.hm bm x.m
 a:jA K x.m
 fN:eq x.W.fl<=300
 lN:eq x.W.ld<=q
 vN:eq x.W.vt<=3000000*q
 rN:eq x.W.rd<=j
 w:∃g,dR (dO vn) j g (x.ss.map bH.nd) x.W
def zc{wb vn bm j q x}(o:fR K vn bm j q x)(hj:j<=100000)(hq:q<=300000){i}(hi:i<eq x.ss):
  ai w0 64 [Rp wb,.int .i64 (i:Nat)] K (x.hp wb vn bm hs) (fun v K' hs'=>∃x',hs'=x'.hp wb vn bm hs/\Le K K'/\eq x'.ss=eq x.ss/\fR K' vn bm j (q+1) x'):=by
 obtain⟨Y,on,of,ol,ov,ay,om,oa,fN,lN,vN,rN,g,w⟩:=o;obtain⟨ss,W,bad,m,aN,cN,gN,aF,cF,gF,aL,cL,gL,aV,cV,gV,aR,cR,gR,hm⟩:=x;dsimp only at Y on of ol ov ay om oa fN lN vN rN w hi;obtain⟨st,N⟩:∃st,ss[i]?=some st:=⟨_,aai hi⟩;have hn:(ss.map bH.nd)[i]?=some (bH.nd st):=by rw[abf,N];rfl
 have iN:cX K st.rb st.lb st.db st.R st.L st.D st.s st.lh st.g:=Y st (aam N);have y:=w.n i _ hn;have o:=y.sb.ni;have a0:eq st.R.out<=25*j:=o.rb.out;have aD:jC j<=900000000:=by unfold jC;omega
 refine Ct.Su (hs2:=pt st.rb (aH st.lb st.R st.s) RT::st.lh::st.g::pt wb (cw (.slice aN (eq ss) cN) vn (.slice aF (eq W.fl) cF) (.slice aL (eq W.ld) cL) (.slice aV (eq W.vt) cV) bm (.slice aR (eq W.rd) cR) W.Je W.lead bad) bw::gN::gF::gL::gV::hm::gR::(dQ (ss.eraseIdx i)++hs)) (nm N)
  (OK iN o aD qo N rfl rfl rfl on.Ni of qo ol qo ov qo om oa) ?_
 rintro v K' hs' ⟨R',s',g',am,ak,az,m',X,O,V,Z,ad,an,aa,ae,ap,ab,ag,aq,av,rfl,le,I',hR,aE,aO,aS,aY,aT,lk⟩;obtain⟨U,J⟩:∃U:bH,U={st with R:=R',s:=s',g:=g'}:=⟨_,rfl⟩;have aA:(ss.set i U)[i]?=some U:=by simp_all
 have p2:=nm (A:=pt wb (cw (.slice aN (eq ss) cN) vn (.slice Z (eq am) ad) (.slice aa (eq ak) ae) (.slice ab (eq az) ag) bm (.slice aR (eq W.rd) cR) X O V) bw) (B:=gN) (C:=an) (D:=ap) (E:=aq) (F:=gR) (G:=av) (hs:=hs) aA;rw[qY,J]at p2;refine⟨_,p2.symm,⟨ss.set i U,⟨am,ak,az,W.rd,X,O⟩,V,m',aN,cN,gN,Z,ad,an,aa,ae,ap,ab,ag,aq,aR,cR,gR,av⟩,by simp_all[Wm.hp,Wm.A],le,by dsimp only;rw[aan],?_⟩;refine⟨fun u hu=>?_,?_,aE,aO,aS,ay,aY,aT,?_,?_,?_,?_,g,?_⟩
 ·rcases acv hu with hu|rfl
  ·exact(Y u hu).le le
  rw[J];exact I'
 ·dsimp only;rw[qW (s:=st) (by rw[J];rfl) ss i N,aan];exact on
 ·have:=lk.Uy;dsimp only;omega
 ·have:=lk.Uv;dsimp only;omega
 ·have:=lk.UD;dsimp only;omega
 ·omega
 dsimp only;rw[ab3];have hw:=dR.looked w hn lk hR;rw[J];exact hw
end
section
def Gi{wb vn bm j q x}(hv:1<=vn/\vn<=7)(o:fR K vn bm j q x)(hj:j<=99999){i}(hi:i<eq x.ss)(y)(hd:y.draw<2^64)(hm : -9223372036854775808<=y.m/\y.m<=9223372036854775807)
  (ap cp) (xp:aj K ap (eq y.ps) cp 1 (iv y.ps)) (ag:∀p∈y.ps,-9223372036854775808<=p/\p<=9223372036854775807) (ae:eq y.ps<2^40):
  ai w0 65 [Rp wb,.int .i64 (i:Nat),.agg (da y ap cp)] K (x.hp wb vn bm hs) (fun v Z hs'=>∃x',hs'=x'.hp wb vn bm hs/\Le K Z/\eq x'.ss=eq x.ss/\fR Z vn bm (j+1) q x'):=by
 obtain⟨U,on,of,ol,ov,X,om,oa,fN,lN,vN,rN,g,w⟩:=o;obtain⟨ss,W,bad,m,aN,cN,gN,aF,cF,gF,aL,cL,gL,aV,cV,gV,aR,cR,gR,J⟩:=x;dsimp only at U on of ol ov X om oa fN lN vN rN w hi;obtain⟨st,N⟩:∃st,ss[i]?=some st:=⟨_,aai hi⟩;have hn:(ss.map bH.nd)[i]?=some (bH.nd st):=by rw[abf,N];rfl
 have iN:cX K st.rb st.lb st.db st.R st.L st.D st.s st.lh st.g:=U st (aam N);have ad:=w.l;rw[aaM]at ad;have z:=w.n i _ hn;have o:=z.sb.ni;have an:jC j<=30100000:=by unfold jC;omega
 obtain⟨oC,L2,E,hf,z2⟩:=z.Ti (uy hv) qo qo y.ps
 refine Ct.Su (hs2:=pt st.rb (aH st.lb st.R st.s) RT::st.lh::st.g::pt wb (cw (.slice aN (eq ss) cN) vn (.slice aF (eq W.fl) cF) (.slice aL (eq W.ld) cL) (.slice aV (eq W.vt) cV) bm (.slice aR (eq W.rd) cR) W.Je W.lead bad) bw::gN::gR::gF::gL::gV::J::(dQ (ss.eraseIdx i)++hs)) ((nm N).trans ((aak [gF,gL,gV,J] [gR] (dQ (ss.eraseIdx i)++hs)).append_left [_,_,_,_,_]))
  (O0 iN o qo qo N rfl rfl rfl on hv.2 X qo y hd hm ap cp xp ag ae oC qo hf z2.sb.ni.rn.lb) ?_
 rintro v Z hs' ⟨O,V,rd',aR',cR',gR',rfl,le,ak,aa,aq,am,Y⟩;have ab:(ss.set i O)[i]?=some O:=by simp_all
 have p2:=(nm (A:=pt wb (cw (.slice aN (eq ss) cN) vn (.slice aF (eq W.fl) cF) (.slice aL (eq W.ld) cL) (.slice aV (eq W.vt) cV) bm (.slice aR' (eq rd') cR') W.Je W.lead bad) bw) (B:=V) (C:=gF) (D:=gL) (E:=gV) (F:=gR') (G:=J) (hs:=hs) ab).trans ((aak [gF,gL,gV,J] [gR'] (dQ ((ss.set i O).eraseIdx i)++hs)).append_left [_,_,_,_,_]);rw[qY]at p2;refine⟨_,p2.symm,⟨ss.set i O,{W with rd:=rd'},bad,m,aN,cN,V,aF,cF,gF,aL,cL,gL,aV,cV,gV,aR',cR',gR',J⟩,by simp[Wm.hp,Wm.A],le,by dsimp only;rw[aan],?_⟩;refine⟨fun u hu=>?_,am,of.le le,ol,ov,Y,om,oa.le le,fN,?_,?_,?_,?_⟩
 ·rcases acv hu with hu|rfl
  ·exact(U u hu).le le
  exact ak
 ·exact lN
 ·exact vN
 ·dsimp only;omega
 obtain⟨h,hw⟩:=dR.TO hv qo w hn aa;refine⟨h,?_⟩;dsimp only;rw[ab3];exact hw
end
section
def MC{wb vn bm j q x}(hv:1<=vn/\vn<=7)(o:fR K vn bm j q x)(hj:j<=99999){i:Nat}{st}(N:x.ss[i]?=some st)(m)(hb:m.bd)(pm)(hS:dF K m pm){g}(w:dR (dO vn) j g (x.ss.map bH.nd) x.W)(X:MG (dO vn) g m):
  ai w0 32 [.pointer (some ⟨st.rb,0,none⟩),.agg (mv m pm)] K (x.hp wb vn bm hs) (fun v K' hs'=>∃Z,hs'=Z.hp wb vn bm hs/\Le K K'/\eq Z.ss=eq x.ss/\(Z.A vn bm=x.A vn bm/\Z.gN=x.gN)/\fR K' vn bm (j+1) q Z):=by
 obtain⟨V,on,of,ol,ov,Y,om,oa,fN,lN,vN,rN,_⟩:=o;obtain⟨ss,W,bad,mm,aN,cN,gN,aF,cF,gF,aL,cL,gL,aV,cV,gV,aR,cR,gR,U⟩:=x;dsimp only at V on of ol ov Y om oa fN lN vN rN w N X;have hi:=(aav.1 N).1;have hn:(ss.map bH.nd)[i]?=some (bH.nd st):=by rw[abf,N];rfl
 have iN:cX K st.rb st.lb st.db st.R st.L st.D st.s st.lh st.g:=V st (aam N);have z:=w.n i _ hn;have o:=z.sb.ni;have ad:jC j<=30100000:=by unfold jC;omega
 have sc:=z.take (uy hv) qo w.G hb X
 refine Ct.Su (hs2:=pt st.rb (aH st.lb st.R st.s) RT::st.lh::st.g::pt wb (cw (.slice aN (eq ss) cN) vn (.slice aF (eq W.fl) cF) (.slice aL (eq W.ld) cL) (.slice aV (eq W.vt) cV) bm (.slice aR (eq W.rd) cR) W.Je W.lead bad) bw::gN::gF::gL::gV::U::gR::(dQ (ss.eraseIdx i)++hs)) (nm N)
  (N9 iN o qo qo qo m hb pm hS) ?_
 rintro v K' hs' ⟨_,ab,g',rfl,⟨s',rfl,le,I'⟩,_⟩;obtain⟨O,J⟩:∃O:bH,O=⟨st.db,st.lb,st.rb,(st.R.take st.L st.D m).1,(st.R.take st.L st.D m).2.1,(st.R.take st.L st.D m).2.2.1,s',ab,g'⟩:=⟨_,rfl⟩;have aa:(ss.set i O)[i]?=some O:=by simp_all
 have p2:=nm (A:=pt wb (cw (.slice aN (eq ss) cN) vn (.slice aF (eq W.fl) cF) (.slice aL (eq W.ld) cL) (.slice aV (eq W.vt) cV) bm (.slice aR (eq W.rd) cR) W.Je W.lead bad) bw) (B:=gN) (C:=gF) (D:=gL) (E:=gV) (F:=gR) (G:=U) (hs:=hs) aa;rw[qY,J]at p2;refine⟨_,p2.symm,⟨ss.set i O,W,bad,mm,aN,cN,gN,aF,cF,gF,aL,cL,gL,aV,cV,gV,aR,cR,gR,U⟩,by unfold Wm.hp Wm.A;dsimp only;rw[aan,J],le,Q8,⟨by unfold Wm.A;dsimp only;rw[aan],rfl⟩,?_⟩;refine⟨fun u hu=>?_,?_,of.le le,ol,ov,Y,om,oa.le le,fN,?_,?_,?_,?_⟩
 ·rcases acv hu with hu|rfl
  ·exact(V u hu).le le
  rw[J];exact I'
 ·dsimp only;rw[qW (s:=st) (by rw[J];rfl) ss i N,aan];exact on
 ·exact lN
 ·exact vN
 ·dsimp only;omega
 obtain⟨h,_,hw⟩:=w.call hn (s':=⟨(st.R.take st.L st.D m).1,(st.R.take st.L st.D m).2.1,(st.R.take st.L st.D m).2.2.1⟩) sc;refine⟨h,?_⟩;dsimp only;rw[ab3,J];exact hw
def FR{wb vn bm j q x}(o:fR K vn bm j q x)(n):
  ai w0 62 [Rp wb,.int .i64 n] K (x.hp wb vn bm hs) (fun v Z hs'=>∃Y,hs'=Y.hp wb vn bm hs/\Le K Z/\Y.ss=x.ss/\fR Z vn bm j q Y /\
   ∃m X,dF Z m X/\((m.bd/\(∃g,dR (dO vn) j g (Y.ss.map bH.nd) Y.W/\MG (dO vn) g m)/\v=.tuple #[.agg (mv m X),.bool true])\/v=.tuple #[.agg (mv m X),.bool false])):=by
 obtain⟨V,on,of,ol,ov,U,om,oa,fN,lN,vN,rN,g,w⟩:=o;obtain⟨ss,W,bad,mm,aN,cN,gN,aF,cF,gF,aL,cL,gL,aV,cV,gV,aR,cR,gR,N⟩:=x;dsimp only at V on of ol ov U om oa fN lN vN rN w;refine Ct.Su (hs2:=pt wb (cw (.slice aN (eq ss) cN) vn (.slice aF (eq W.fl) cF) (.slice aL (eq W.ld) cL) (.slice aV (eq W.vt) cV) bm (.slice aR (eq W.rd) cR) W.Je W.lead bad) bw::gF::gN::gL::gV::gR::N::(dQ ss++hs)) ((aap _ _ _).cons _) (N8 of qo n) ?_;rintro v Z hs' ⟨J,aa,ab,ad,rfl,le,ae,O,ag,m,X,hS,hv⟩;have w':dR (dO vn) j g (ss.map bH.nd) {W with fl:=J}:=w.seen {w.s with fl:=fun y hy=>w.s.fl y (O y hy)};refine⟨_,(aap _ _ _).cons _,⟨ss,{W with fl:=J},bad,mm,aN,cN,gN,aa,ab,ad,aL,cL,gL,aV,cV,gV,aR,cR,gR,N⟩,I,le,I,⟨fun u hu=>(V u hu).le le,on,ae,ol,ov,U,om,oa.le le,aC,lN,vN,rN,g,w'⟩,m,X,hS,?_⟩
 rcases hv with⟨hm,hv⟩|hv
 ·exact .inl ⟨(w.s.fl m hm).2,⟨g,w',(w.s.fl m hm).1⟩,hv⟩
 exact .inr hv
end
section
theorem OP(x:Wm)(wb vn bm hs):x.hp wb vn bm hs=x.hp wb vn bm []++hs:=by simp[Wm.hp]
def gm(x:Wm)(wb vn bm l hs):(l++x.hp wb vn bm hs).Perm (x.hp wb vn bm (l++hs)):=by
 grind[OP,List.perm_append_comm_assoc]
theorem fR.up{K:PH}{vn bm j q j' q' x}(o:fR K vn bm j q x)(h:j<=j')(J:q<=q'):fR K vn bm j' q' x:=
 {o with lN:=aat o.lN J,vN:=by have:=o.vN;omega,rN:=aat o.rN h,w:=let⟨g,w⟩:=o.w;⟨g,w.up h⟩}
def FD{wb vn bm j q x}(hv:1<=vn/\vn<=7)(o:fR K vn bm j q x)(hj:j<=99999)(hq:q<=300000)(y)(h0:y.kind=0)(ap cp):
  ai w0 27 [Rp wb,.agg (da y ap cp)] K (x.hp wb vn bm hs) (fun v K' hs'=>∃x',hs'=x'.hp wb vn bm hs/\Le K K'/\eq x'.ss=eq x.ss/\fR K' vn bm (j+1) (q+1) x'):=by
 refine ent Tryz.func27 ?_;refine acY ?_;refine bx 0 I fun N=>?_;refine Ez 0 (pt N (da y ap cp) dM) ?_;refine au ?_;refine cG 0 (y.kind=0) I Q8 fun aL ab=>?_;refine fin 1 I (th (ax ab I (fun e2=>?_) (fun e2=>absurd h0 e2)));refine acY ?_;refine aX 2 0 I I I ?_;refine Bi (gm x wb vn bm [_] hs) ?_;refine cl 0 I (FR o y.n) ?_;rintro aS aA aq ⟨J,rfl,X,V,o1,m,O,hS,hm⟩;refine Bi (gm J wb vn bm [pt N (da y ap cp) dM] hs).symm ?_;rcases hm with⟨ag,⟨g,w,mg⟩,rfl⟩|rfl
 ·refine al 3 (.agg Ip) I qk fun U=>?_;refine bA 0 0 I I qk I I ?_;refine Ew (pt U (mv m O) gU::pt N (da y ap cp) dM::J.hp wb vn bm hs) I ?_;refine au ?_;have hN:J.hp wb vn bm hs=pt wb (J.A vn bm) bw::J.gN::J.gF::J.gL::J.gV::J.gR::J.hm::(dQ J.ss++hs):=rfl;refine Bi (hs':=pt wb (J.A vn bm) bw::pt U (mv m O) gU::pt N (da y ap cp) dM::J.gN::J.gF::J.gL::J.gV::J.gR::J.hm::(dQ J.ss++hs)) (by rw[hN];exact aak [_,_] [_] _) ?_
  first|refine cl 0 rfl (tO m.to) ?_|refine cl 1 rfl (tO m.to) ?_|refine cl 2 rfl (tO m.to) ?_
  rintro aT aD av ⟨rfl,rfl,rfl⟩;have o2:=o1;obtain⟨aR,on,of,ol,ov,aO,om,oa,fN,lN,vN,rN,_⟩:=o2;refine bc 0 I (fun e5=>?_) (fun e5=>?_)
  ·have aN:¬(m.to<0\/(eq J.ss:Int)<=m.to):=fun h=>by omega
   obtain⟨i,hi⟩:∃i:Nat,m.to=(i:Int):=⟨m.to.toNat,qo⟩;have Y:i<eq J.ss:=qo
   obtain⟨st,Z⟩:∃st,J.ss[i]?=some st:=⟨_,aai Y⟩;obtain⟨a,ha,c0,c1,c2⟩:=nJ on.Ni Z;have hA:(J.A vn bm)[0]?=some (.slice (some a) (eq J.ss) J.cN):=by rw[<-ha];rfl
   have an:=on.Ni;rw[ha]at an;refine au ?_;refine bC [0,1,3] 11 [0,2,4,6,8,10,12,14,16,18,21] ?_;refine bT qk 3 0 I I hA ?_;have hM:(mv m O)[2]?=some (.int .i64 i):=by rw[<-hi];rfl
   refine bT qk 1 1 I I hM ?_;refine bu qk 0 i I I Y ?_;refine ph qk 1 I (.inr ⟨2,I⟩) c2 ?_;refine ln qk 0 1 I qk I qk ?_;refine aB qk 0 I ?_;refine Bi (hs':=J.hp wb vn bm (pt U (mv m O) gU::pt N (da y ap cp) dM::hs)) ((aak [_] [_,_] _).trans (gm J wb vn bm [_,_] hs)) ?_;refine cl 0 I (MC hv o1 hj Z m ag O hS w mg) ?_;rintro aV aE ay ⟨x2,rfl,aa,hs2,⟨ad,ae⟩,o2⟩;refine dX (fun h hh=>?_) aa ?_
   ·simp only[aaB,acQ,or_false]at hh;unfold Wm.hp;rw[ad,ae];rcases hh with rfl|rfl|rfl
    ·exact abp
    all_goals simp
   refine aI qk 0 I (acX ?_);refine Bi (gm x2 wb vn bm [pt U (mv m O) gU,pt N (da y ap cp) dM] hs).symm ?_;refine aX 2 0 I I hM ?_;refine Bi (gm x2 wb vn bm [pt U (mv m O) gU,pt N (da y ap cp) dM] hs) ?_;refine cl 0 I (zc o2 qo hq (i:=i) qo) ?_;rintro aY aF az ⟨x3,rfl,am,ak,o3⟩;refine fin 0 I (bl (Bk (gm x3 wb vn bm [pt U (mv m O) gU,pt N (da y ap cp) dM] hs).symm (Bh (Bh ?_))));exact bZ I ⟨x3,I,(X.trans aa).trans am,by rw[ak,hs2,V],o3⟩
  refine au ?_;refine Bk (hs':=pt U (mv m O) gU::pt N (da y ap cp) dM::J.hp wb vn bm hs) (aak [_] [_,_] _) (Bh (Bh ?_));exact bZ I ⟨J,I,X,by rw[V],o1.up (aaq _) (aaq _)⟩
 refine al 3 (.agg Ip) I qk fun U=>?_;refine bA 0 0 I I qk I I ?_;refine Ew (pt U (mv m O) gU::pt N (da y ap cp) dM::J.hp wb vn bm hs) I ?_;refine au ?_;refine Bh (Bh ?_);exact bZ I ⟨J,I,X,by rw[V],o1.up (aaq _) (aaq _)⟩
end
section
def vh(j:Nat):Sx:=⟨3,0,0,3*j,[]⟩
def Px{P:Program}{T:be}{ops:Ai}{Q:An}{plan plan' z listed listed' n l l'}{K0:PH}{A:Ac}(ys)
  [hT:a8 P T] (J:Region.noSelect ops=true) (k) {p d t a h} (cs:Ad) (h0:mu T ops n z k plan listed l=some (p,d,t,a,plan',listed',l')) (Z:nh ops z ys (p/2)=true)
  (hm:i7 P t (eq cs)=true) (O:In K0 A h) (hc:∀(j:Nat) v,cs[j]?=some v->co h (a.add j) v) (hk:WA P w0 ops Q K0 A z plan' listed' n ((d,.agg cs.toArray)::l') K hs):WA P w0 ops Q K0 A z plan listed n l K hs:=by
 unfold mu at h0
 split at h0
 ·rename_i p' o r L' l2 hh
  split at h0
  ·rename_i dd t' x hp hz hg hd U
   split at h0
   ·rename_i a' hb hx;simp only[aae,aah]at h0;obtain⟨rfl,rfl,rfl,rfl,rfl,rfl,rfl⟩:=h0;obtain⟨g1,g2⟩:=ki hh;refine Bd J k g1 ?_;have V:p'=2*(p' / 2):=by have:=aaF hp;omega
    rw[V];refine Bm g2 J hz hd hb (fun A' ha=>.inl ⟨gQ ha hg,fun w hw=>?_⟩) hk;obtain⟨L,N,Y,X⟩:=hw;have h2:=pC (P:=P) (w:=w) (t:=t') (a:=a') (cs:=cs) hm rfl (fun j v hv=>(X (vE N ys Y Z)).cell O (hc j v hv));simp only[execOp,U,ha.ev hx];simp[h2]
   simp at h0
  simp at h0
 simp at h0
theorem kQ.cells{K h:PH}{ao n cap xs}(o:kQ K h ao n cap xs){i m}(hm:xs[i]?=some m):
  ∃a p H,ao=some a/\(H=K\/H=h)/\dF K m p/\∀(j:Nat) v,(mv m p).toList[j]?=some v->co H ((a.add (i*14)).add j) v:=by
 have key:∀{H:PH} {c:Nat},dn 14 (jv K) H ao n c xs->(H=K\/H=h)->∃a p H,ao=some a/\(H=K\/H=h)/\dF K m p/\∀(j:Nat) v,(mv m p).toList[j]?=some v->co H ((a.add (i*14)).add j) v:=fun {H c} x J=>by
  have hl:=(aav.1 hm).1;have hn:=x.len;obtain⟨a,rfl⟩:=x.addr qo Q9;obtain⟨c,⟨p,rfl,y⟩,_,N⟩:=x.cells hm;exact⟨a,p,H,I,J,y,N⟩
 rcases o with x|⟨_,_,x⟩
 ·exact key x.SL (.inr I)
 exact key x (.inl I)
def He{wb vn bm j q x}(hv:1<=vn/\vn<=7)(o:fR K vn bm j q x)(hj:j<=99700)(hq:q<=299700)(y)(hd:y.draw<2^64)(hm : -9223372036854775808<=y.m/\y.m<=9223372036854775807)
  (ap cp) (xp:aj K ap (eq y.ps) cp 1 (iv y.ps)) (bi:∀p∈y.ps,-9223372036854775808<=p/\p<=9223372036854775807) (bb:eq y.ps<2^40):
  ai w0 27 [Rp wb,.agg (da y ap cp)] K (x.hp wb vn bm hs) (fun v K' hs'=>∃x',hs'=x'.hp wb vn bm hs/\Le K K'/\eq x'.ss=eq x.ss/\fR K' vn bm (j+207) (q+207) x'):=by
 by_cases h0:y.kind=0
 ·refine(FD hv o qo qo y h0 ap cp).Su (List.Perm.refl _) ?_;rintro v K' hs' ⟨x',rfl,le,hl,o'⟩;exact⟨_,List.Perm.refl _,x',I,le,hl,o'.up qo qo⟩
 have a6:eq x.ss<=7:=by
  obtain⟨_,_,_,_,_,_,_,_,_,_,_,_,g,w⟩:=o;have:=w.l
  rwa[aaM]at this
 refine ent Tryz.func27 ?_;refine acY ?_;refine bx 0 I fun J=>?_;refine Ez 0 (pt J (da y ap cp) dM) ?_;refine au ?_;refine cG 0 (y.kind=0) I Q8 fun ck aT=>?_;refine fin 1 I (th (ax aT I (fun e2=>absurd e2 h0) (fun e2=>?_)));refine acY ?_;refine cG 0 (y.kind=1) I Q8 fun cm aY=>?_;refine fin 1 I (th (ax aY I (fun e7=>?_) (fun e7=>?_)))
 ·refine rg ?_;refine aX 2 0 I I I ?_;refine Bi (gm x wb vn bm [_] hs) ?_;refine cl 0 I (FR o y.n) ?_;rintro cA ch b8 ⟨X,rfl,O,U,o1,_⟩;refine fin 0 I (bl (Bk (gm X wb vn bm [pt J (da y ap cp) dM] hs).symm (Bh ?_)));exact bZ I ⟨X,I,O,by rw[U],o1.up qo qo⟩
 refine acY ?_;refine cG 0 (y.kind=2) I Q8 fun cq a0=>?_;refine fin 1 I (th (ax a0 I (fun e9=>?_) (fun e9=>?_)))
 ·have o':=o;obtain⟨b1,on,of,ol,ov,b0,om,oa,fN,lN,vN,rN,g,w⟩:=o';obtain⟨ss,W,bad,mm,aN,cN,gN,aF,cF,gF,aL,cL,gL,aV,cV,gV,aR,cR,gR,Z⟩:=x;dsimp only at b1 on of ol ov b0 om oa fN lN vN rN w a6;have V:fR K vn bm (j+207) (q+207) ⟨ss,W,bad,mm,aN,cN,gN,aF,cF,gF,aL,cL,gL,aV,cV,gV,aR,cR,gR,Z⟩:=o.up qo qo;refine Bj (hs':=pt J (da y ap cp) dM::pt wb (cw (.slice aN (eq ss) cN) vn (.slice aF (eq W.fl) cF) (.slice aL (eq W.ld) cL) (.slice aV (eq W.vt) cV) bm (.slice aR (eq W.rd) cR) W.Je W.lead bad) bw::gN::gF::gL::gV::gR::Z::(dQ ss++hs)) (List.Perm.refl _) ?_;refine sq (bC [0,1] 21 [0,2,4,6,8,10,12,14,16,18,20,22,24,26,28,30,32,34,36,38,40] ?_);refine au ?_;refine dP qk 0 (0<=y.n) I Q8 (fun aO=>?_) (fun aO=>?_)
  ·refine au ?_;refine dP qk 1 (y.n<(eq W.fl:Int)) I Q8 (fun aS=>?_) (fun aS=>?_)
   ·refine au ?_;refine dU qk 1 (eq W.fl<200) I Au fun cr a1=>?_;refine au ?_;refine ax a1 I (fun az=>?_) (fun az=>?_)
    ·obtain⟨i,hi⟩:∃i:Nat,y.n=(i:Int):=⟨y.n.toNat,qo⟩;have ak:i<eq W.fl:=qo
     obtain⟨m,aq⟩:∃m,W.fl[i]?=some m:=⟨_,aai ak⟩;obtain⟨am,pm,H,rfl,hH,a3,a4⟩:=of.cells aq;have hY:(da y ap cp)[1]?=some (.int .i64 i):=by rw[<-hi];rfl
     refine bC [0,1,3] 14 [0,2,4,6,8,10,12,14,16,18,20,22,24,27,29,30,32,35] ?_;refine bR qk 4 1 I qk I I ?_;refine dA [13,12,11] qk 3 1 I qk I I ?_;refine dA [13,12,11] qk 1 0 I qk I hY ?_;refine bu qk 0 i I I ak ?_;refine Px [13] qk 0 (mv m pm).toList I qk qk (hH.imp id fun h=>⟨2,by rw[h];rfl⟩) a4 ?_;refine au ?_;refine lit 0 (mv m pm) I Q9 qk fun cs=>?_;refine aP Q8 I ?_;refine aB qk 0 I ?_;refine GV 0 4 (mv m pm).toList m I I I of I I ⟨pm,I,a3⟩ I (yO _ _) I (by show(eq W.fl+1)*160<=_;omega) As fun an cn gn bV=>?_;refine bQ (.inl qk) ?_;refine aB qk 2 I ?_;refine Ji 0 2 I I I I ?_;refine bQ (.inl qk) ?_;refine aI qk 0 I (bl (Bh (Bh ?_)))
     have Y:eq (W.fl++[m])=eq W.fl+1:=by simp
     have hf:∀z∈W.fl++[m],MG (dO vn) g z/\z.bd:=fun z hz=>by
      rcases aao.1 hz with hz|hz
      ·exact w.s.fl z hz
      rw[aaC.1 hz];exact w.s.fl m (aam aq)
     have bs:=(w.up (show j<=j+207 by omega)).seen (W':={W with fl:=W.fl++[m]}) {w.s with fl:=hf}
     exact bZ I ⟨⟨ss,{W with fl:=W.fl++[m]},bad,mm,aN,cN,gN,an,cn,gn,aL,cL,gL,aV,cV,gV,aR,cR,gR,Z⟩,by unfold Wm.hp Wm.A;dsimp only;rw[Y];rfl,Cg _,rfl,
      {V with f:=.inl (by dsimp only;rw[Y];exact bV),fN:=by dsimp only;omega,w:=⟨g,bs⟩}⟩
    refine sk (bl (Bh ?_));exact bZ I ⟨_,I,Cg _,I,V⟩
   refine aI qk 9 I (th (bP I (sk (bl (Bh ?_)))));exact bZ I ⟨_,I,Cg _,I,V⟩
  refine aI qk 18 I (th (bP I (sk (bl (Bh ?_)))));exact bZ I ⟨_,I,Cg _,I,V⟩
 refine acY ?_;refine cG 0 (y.kind=11) I Q8 fun b4 ag=>?_;refine fin 1 I (th (ax ag I (fun aA=>?_) (fun aA=>?_)))
 ·refine Bj (hs':=pt J (da y ap cp) dM::pt wb (x.A vn bm) bw::x.gN::x.gF::x.gL::x.gV::x.gR::x.hm::(dQ x.ss++hs)) (List.Perm.refl _) ?_;refine au ?_
  refine loop (σ:=Nat×PH×Wm) (fun t=>[(0,Rp wb),(3,Rp J),(107,.int .i64 (eq x.ss)),(108,.int .i64 t.1)]) (fun t=>t.2.1) (fun t=>pt J (da y ap cp) dM::t.2.2.hp wb vn bm hs)
   (fun t=>t.1<=eq x.ss/\Le K t.2.1/\eq t.2.2.ss=eq x.ss/\fR t.2.1 vn bm (j+t.1) (q+t.1) t.2.2) (fun t=>eq x.ss-t.1) (0,K,x) ⟨aad _,Cg _,rfl,o⟩ ⟨rfl,rfl,rfl,rfl,trivial⟩ rfl rfl ?_
  rintro⟨i,K1,X⟩ ⟨hi,O,U,o1⟩;dsimp only at hi O U o1⊢;refine acY ?_;refine bc 0 I (fun aD=>?_) (fun aD=>?_)
  ·refine au ?_;refine ar 3 I (ba (x:=((3*i:Nat):Int)) qo) ?_;refine ar 0 I (bL (x:=3*i) qo) ?_;refine bd 0 (.agg (da (vh i) none 0)) I Aq ?_;refine Bi (gm X wb vn bm [_] hs) ?_;refine cl 0 I (Gi hv o1 qo qo (vh i) (by unfold vh;dsimp only;omega) (by simp[vh]) none 0 (aj.nil _ _ _ _) (fun p hp=>by cases hp) (by show 0<2^40;omega)) ?_;rintro b9 b2 bo ⟨x2,rfl,aa,hs2,o2⟩;refine au ?_;refine cl 2 I (zc o2 qo qo qo) ?_;rintro ca ad bp ⟨x3,rfl,ab,av,o3⟩;refine Bi (gm x3 wb vn bm [pt J (da y ap cp) dM] hs).symm ?_;refine au ?_;refine cZ i ?_;exact bn (x:=(i,K1,X)) (i+1,ad,x3) sb I I ⟨qo,(O.trans aa).trans ab,aC,o3.up qo qo⟩ aC
  obtain rfl:i=eq x.ss:=qo
  refine au ?_;have ct:=o1.fN;obtain⟨N,hN⟩:∃N:Nat,N=min (eq X.W.fl) 200:=⟨_,rfl⟩
  have a2:some (Value.int .i64 (if(200:Int)<(eq X.W.fl:Int)then 200 else(eq X.W.fl:Int)))=some (.int .i64 N):=by
   grind
  refine loop (σ:=Nat×PH×Wm) (fun t=>[(0,Rp wb),(3,Rp J),(127,.int .i64 N),(128,.int .i64 t.1)]) (fun t=>t.2.1) (fun t=>pt J (da y ap cp) dM::t.2.2.hp wb vn bm hs)
   (fun t=>t.1<=N/\Le K t.2.1/\eq t.2.2.ss=eq x.ss/\fR t.2.1 vn bm (j+7+t.1) (q+7+t.1) t.2.2) (fun t=>N-t.1) (0,K1,X) ⟨aad _,O,U,o1.up qo qo⟩ ⟨rfl,rfl,a2,rfl,trivial⟩ rfl rfl ?_
  rintro⟨i,K4,x4⟩ ⟨a5,cU,ay,o4⟩;dsimp only at a5 cU ay o4⊢;refine acY ?_;refine bc 0 I (fun aE=>?_) (fun aE=>?_)
  ·refine au ?_;refine bd 1 (.agg (da ⟨0,0,0,0,[]⟩ none 0)) I Aq ?_;refine Bi (gm x4 wb vn bm [_] hs) ?_;refine cl 0 I (FD hv o4 qo qo ⟨0,0,0,0,[]⟩ I none 0) ?_;rintro cc ae bq ⟨x5,rfl,bB,cu,o5⟩;refine Bi (gm x5 wb vn bm [pt J (da y ap cp) dM] hs).symm ?_;refine au ?_;refine cZ i ?_;exact bn (x:=(i,K4,x4)) (i+1,ae,x5) sb I I ⟨aC,cU.trans bB,aC,o5.up qo qo⟩ qo
  refine au ?_;refine Bh ?_;exact bZ I ⟨x4,I,cU,ay,o4.up qo qo⟩
 refine acY ?_;refine aX 2 0 I I I ?_;refine Ew (pt J (da y ap cp) dM::pt wb (x.A vn bm) bw::x.gN::x.gF::x.gL::x.gV::x.gR::x.hm::(dQ x.ss++hs)) I ?_;refine Bi (hs':=pt wb (x.A vn bm) bw::pt J (da y ap cp) dM::x.gN::x.gF::x.gL::x.gV::x.gR::x.hm::(dQ x.ss++hs)) (aap _ _ _) ?_;refine cl 0 I (tO y.n) ?_;rintro cx cd b5 ⟨rfl,rfl,rfl⟩;refine bc 0 I (fun e5=>?_) (fun e5=>?_)
 ·have cv:¬(y.n<0\/(eq x.ss:Int)<=y.n):=fun h=>by omega
  obtain⟨i,hi⟩:∃i:Nat,y.n=(i:Int):=⟨y.n.toNat,qo⟩;have hc:=fun(hs:Ac)=>Gi (w0:=w0) (wb:=wb) (hs:=hs) hv o qo (i:=i) qo y hd hm ap cp xp bi bb;rw[<-hi]at hc;refine au ?_;refine Bi (hs':=x.hp wb vn bm (pt J (da y ap cp) dM::hs)) ((aap _ _ _).trans (gm x wb vn bm [_] hs)) ?_;refine cl 0 I (hc _) ?_;rintro cy ce b6 ⟨x2,rfl,aa,hs2,o2⟩;refine Bi (gm x2 wb vn bm [pt J (da y ap cp) dM] hs).symm ?_;have hk:=fun(hs:Ac)=>zc (w0:=w0) (wb:=wb) (hs:=hs) o2 qo qo (i:=i) qo;rw[<-hi]at hk;refine au ?_;refine Bi (gm x2 wb vn bm [pt J (da y ap cp) dM] hs) ?_;refine cl 0 I (hk _) ?_;rintro cz cg b7 ⟨x3,rfl,ab,av,o3⟩;refine fin 0 I (bl (Bk (gm x3 wb vn bm [pt J (da y ap cp) dM] hs).symm (Bh ?_)));exact bZ I ⟨x3,I,aa.trans ab,by rw[av,hs2],o3.up qo qo⟩
 refine au ?_;refine Bk (hs':=pt J (da y ap cp) dM::x.hp wb vn bm hs) (aap _ _ _) (Bh ?_);exact bZ I ⟨x,I,Cg _,I,o.up qo qo⟩
end
section
def j8(K:PH)(c:Ad)(y:Sx):Prop:=∃ap cp,c=(da y ap cp).toList/\aj K ap (eq y.ps) cp 1 (iv y.ps)
def po(y:Sx):Prop:=y.draw<2^64/\(-9223372036854775808<=y.m/\y.m<=9223372036854775807)/\(∀p∈y.ps,-9223372036854775808<=p/\p<=9223372036854775807)/\eq y.ps<2^40
theorem j8.le{K J:PH}{c y}(x:j8 K c y)(l:Le K J):j8 J c y:=let⟨a,p,h,s⟩:=x;⟨a,p,h,s.le l⟩
def CH{ao cap cs}(J:dn 5 (j8 K) K ao (eq cs) cap cs){k x}(N:cs[k]?=some x):
  ∃a ap cp,ao=some a/\aj K ap (eq x.ps) cp 1 (iv x.ps)/\∀(j:Nat) v,(da x ap cp).toList[j]?=some v->co K ((a.add (k*5)).add j) v:=by
 have U:k<eq cs:=(aav.1 N).1;obtain⟨a,rfl⟩:=J.addr qo Q9;obtain⟨c,⟨ap,cp,rfl,x⟩,_,O⟩:=J.cells N;exact⟨a,ap,cp,I,x,O⟩
theorem Fy{α:Type}{f:α->Ad}{s}(J:∀x,eq (f x)=s):∀(l:List α) (i:Nat) (p:α),l[i]?=some p->∀(k:Nat) v,(f p)[k]?=some v->(l.flatMap f)[i*s+k]?=some v
 |[],i,p,h,_,_,_=>by simp at h
 |q::r,0,p,h,k,v,hv=>by
  grind
 |q::r,i+1,p,h,k,v,hv=>by
  rw[abM,abQ,abc (by rw[J];omega),J,show i*s+s+k-s=i*s+k by omega]
  simp_all[Fy]
theorem yr{α:Type}{f:α->Ad}{s}(J:∀x,eq (f x)=s):∀(l:List α) (i:Nat),(l.flatMap f).take (i*s)=(l.take i).flatMap f
 |[],i=>by simp
 |q::r,0=>by simp
 |q::r,i+1=>by
  simp_all[ace,abQ,yr,aaA]
def ru{α:Type}{f s}(J:∀x,eq (f x)=s)(h0:0<s){H ao n cap}{l:List α}(x:aj H ao n cap s (l.flatMap f)){i p}(hn:i<n)(hi:l[i]?=some p):
  ∃a,ao=some a/\∀j v,(f p)[j]?=some v->co H ((a.add (i*s)).add j) v:=by
 obtain⟨a,rfl⟩:=x.addr (j:=i) hn h0;exact⟨a,I,BN x (Fy J l i p hi)⟩
def Ct.Uw{P:Program}{f args}{S S'}(c:Ct P w0 f args K hs S)(h:∀v N hs',S v N hs'->∃J,(em::em::em::em::hs').Perm J/\S' v N J):Ct P w0 f args K hs S':=by
 refine⟨c.1,fun w X=>(c.2 w X).mono ?_⟩;rintro e w' ⟨v,N,hs',rfl,V,U⟩;obtain⟨J,Y,O⟩:=h v N hs' V;exact⟨v,N,J,I,O,U.RU.RU.RU.RU.perm Y⟩
abbrev kH:Nat:=62
def yX{w0:World}{K:PH}{hs:Ac}(n v)(h:¬(1<=v/\v<=n/\n<=7)):ai w0 25 [.int .i64 n,.int .i64 v] K hs (fun u X hs'=>X=K/\hs'=hs/\u=.pointer none):=by
 refine ent Tryz.func25 ?_;refine au ?_;refine cG 1 (v<1) I Q8 fun Y J=>?_
 refine' dB (q:=n<v) 1 4 16 [11,12] J I I I I I I I (fun _=>?x2) (fun aa O=>?_)
 case x2=>
  refine cG 2 (n<v) I Q8 fun Z N=>?_;exact fin 1 I (bJ N I I I)
 refine' dB (q:=7<n) 1 3 20 [16,17] O I I I I I I I (fun _=>?x4) (fun ad V=>?_)
 case x4=>
  refine cG 1 (7<n) I Q8 fun ab U=>?_;exact fin 1 I (bJ U I I I)
 refine fin 0 I (th (ax V I (fun e6=>?_) (fun e6=>absurd ⟨qo,qo,qo⟩ h)));refine au ?_;exact af I I ⟨I,I,I⟩
def yz(n v)(hv:1<=v/\v<=n/\n<=7):ai w0 25 [.int .i64 (n:Nat),.int .i64 (v:Nat)] K hs
  (fun u N hs'=>∃wb J x,hs'=x.hp wb v J hs/\Le K N/\fR N v J 0 0 x/\u=Rp wb):=by
 refine(EN n v hv).Uw ?_;rintro u N hs' ⟨wb,J,ss,g,ao,cap,rfl,le,O,V,X,rfl⟩;have U:=O.1;subst U;refine⟨_,?_,wb,J,⟨ss,⟨[],[],[],[],0,0⟩,false,[],ao,cap,g,none,0,em,none,0,em,none,0,em,none,0,em,sg J (.map #[] 0)⟩,I,le,?_,I⟩
 ·unfold Wm.hp;exact(aak [_,_,_,_] [_,_] _).trans (aap _ _ _)
 exact⟨V,X,.inl (dD.nil _ _),aJ.nil _ _,aJ.nil _ _,aJ.nil _ _,dH.empty _ _,⟨List.nodup_nil,fun x h=>by cases h⟩,aad _,aac _,aac _,aac _,g0,Qt hv O⟩
def Gt{w0:World}{K:PH}{hs:Ac}{wb vn bm x}(hv:1<=vn/\vn<=7)(o:fR K vn bm 0 0 x)(ao cap cs)(xs:dn 5 (j8 K) K ao (eq cs) cap cs)(hb:∀y∈cs,po y)(hn:eq cs<2^40):
  ai w0 26 [Rp wb,.slice ao (eq cs) cap] K (x.hp wb vn bm hs) (fun v K' hs'=>∃x',hs'=x'.hp wb vn bm hs/\Le K K'/\fR K' vn bm 83007 83007 x'):=by
 refine ent Tryz.func26 ?_;refine au ?_
 refine loop (σ:=Nat×PH×Wm) (fun t=>[(0,Rp wb),(6,.slice ao (eq cs) cap),(7,.int .i64 (eq cs)),(8,.int .i64 t.1)]) (fun t=>t.2.1) (fun t=>t.2.2.hp wb vn bm hs)
  (fun t=>t.1<=eq cs/\t.1<=401/\Le K t.2.1/\fR t.2.1 vn bm (207*t.1) (207*t.1) t.2.2) (fun t=>eq cs-t.1) (0,K,x) ⟨aad _,aad _,Cg _,o⟩ ⟨rfl,rfl,rfl,rfl,trivial⟩ rfl rfl ?_
 rintro⟨i,V,J⟩ ⟨hi,ae,le,U⟩;dsimp only at hi ae le U⊢;refine acY ?_;refine bc 0 I (fun e2=>?_) (fun e2=>?_)
 ·refine au ?_;have N:i<eq cs:=qo
  obtain⟨y,hy⟩:∃y,cs[i]?=some y:=⟨_,aai N⟩;obtain⟨b1,b2,b3,b4⟩:=hb y (aam hy);have O:dn 5 (j8 V) V ao (eq cs) cap cs:=xs.le le fun _ _ h=>h.le le;obtain⟨a,ap,cp,rfl,xp,hc⟩:=CH O hy;obtain⟨vs,ag⟩:=O.Ni;refine dZ 1 i I I ag N Q9 fun an Z=>?_;cases Z;refine fu 0 (da y ap cp).toList I qk (.inl I) hc ?_;refine al 0 (.agg Iv) I qk fun Y=>?_;refine bA 1 0 I I qk I I ?_;refine Ew (pt Y (da y ap cp) dM::pt wb (J.A vn bm) bw::J.gN::J.gF::J.gL::J.gV::J.gR::J.hm::(dQ J.ss++hs)) I ?_;refine fin 0 I (acU ?_);refine aX 3 1 I I (v:=.bool J.bad) I ?_;refine mI fun aq aa=>?_
  refine' dB (q:=400<i) 1 3 20 [16,17] aa I I I I I I I (fun _=>?x3) (fun ay ad=>?_)
  case x3=>
   refine cG 1 (400<i) I Au fun av ab=>?_;exact fin 1 I (bJ ab I I I)
  refine fin 0 I<|th (ax ad I (fun e5=>?_) (fun e5=>?_))
  ·refine rt (rT (rB (rT (rT (rB (Bh ?_))))));exact jK I ⟨J,I,le,U.up qo qo⟩
  have az:¬400<i:=fun h=>e5 (.inr h);refine sk (acX ?_);refine fI 1 0 I I qk ?_;refine Bi (gm J wb vn bm [pt Y (da y ap cp) dM] hs) ?_;refine cl 0 I (He hv U qo qo y b1 b2 ap cp xp b3 b4) ?_;rintro aA X am ⟨x2,rfl,ak,_,o2⟩;refine Bi (gm x2 wb vn bm [pt Y (da y ap cp) dM] hs).symm ?_;refine au ?_;refine cZ i (Bh ?_);exact bn (x:=(i,V,J)) (i+1,X,x2) sb I I ⟨aC,aC,le.trans ak,o2.up aC qo⟩ aC
 refine au ?_;exact bZ I ⟨J,I,le,U.up qo qo⟩
end
section
open Go.En Go.ChangeShapes Go.WideShapes Go.ChangeAt Go.RowKit Go.Deep
set_option maxRecDepth 100000
section opens
variable {H:Type}{enc:TypeId×Value->H}{W:World}
abbrev Q4:Type:=Int×Int×Unit
def QE:Q4->Nat:=mS (mP mU (mP mU mZ))
def NM:gJ enc Tryz.prog W 62 2 (RP (RI .i64) (RP (RI .i64) R0)) QE:=by
 exact DO Tryz.underlying62 qk<|oq (off:=0) (sz1:=1) (sz2:=1) I (oM Tryz.underlying3 qk) (oq (off:=1) (sz1:=1) (sz2:=0) I (oM Tryz.underlying3 qk) Gw)
def yf{base v}{d:DataW H}{ps:List MemPlace}(J:Value.okWide Tryz.prog W .any base 62 v)(h:DataW.Trod enc Tryz.prog W 0 (fun _=>true) true 62 v d ps):
  ∃n m:Int,v=.agg #[.int .i64 n,.int .i64 m]:=by
 obtain⟨cs,rfl,Y⟩:=okWide_struct Tryz.underlying62 J;obtain⟨⟨n,m,u⟩,X,hm⟩:=(NM (enc:=enc) (W:=W)).arg h;obtain⟨c1,r1,N,O,c2,Z,e2,U,V⟩:=X;obtain⟨rfl,_⟩:=pU O;obtain⟨rfl,_⟩:=pU U;obtain rfl:Z=[]:=V;refine⟨n,m,?_⟩;dsimp only at N e2;have e:cs.toList=(#[.int .i64 n,.int .i64 m]:Ah).toList:=by rw[show cs.toList=_ from N,e2];rfl
 rw[<-Array.toList_inj.1 e]
abbrev vr:Type:=Int×Int×Int×Int×Ae×Unit
abbrev vu(W:World):=RP (RI .i64) (RP (RI .i64) (RP (RI .i64) (RP (RI .u64) (RP (sK W 1 (RI .i64)) R0))))
def pa:vr->Nat:=mS (mP mU (mP mU (mP mU (mP mU (mP (mL mU) mZ)))))
def MH:gJ enc Tryz.prog W 80 5 (vu W) pa:=by
 refine DO Tryz.underlying80 qk ?_
 exact oq (off:=0) (sz1:=1) (sz2:=4) I (oM Tryz.underlying3 qk) (oq (off:=1) (sz1:=1) (sz2:=3) I (oM Tryz.underlying3 qk) (oq (off:=2) (sz1:=1) (sz2:=2) I (oM Tryz.underlying3 qk) (oq (off:=3) (sz1:=1) (sz2:=1) I (oM Tryz.underlying29 qk)
  (oq (off:=4) (sz1:=1) (sz2:=0) rfl (E8 Tryz.underlying31 qk (oM Tryz.underlying3 qk)) Gw))))
def qg(x:vr):Sx:=⟨x.1,x.2.1,x.2.2.1,x.2.2.2.1.toNat,x.2.2.2.2.1⟩
def Pb{cs}{x:vr}(hR:vu W cs x)(hm:pa x<=1048576):j8 (hp W) cs (qg x)/\po (qg x):=by
 obtain⟨k,n,m,d,p,u⟩:=x;obtain⟨c1,r1,O,h1,c2,r2,e2,h2,c3,r3,U,h3,c4,r4,V,h4,c5,r5,X,h5,h6⟩:=hR;obtain⟨rfl,_⟩:=pU h1;obtain⟨rfl,_⟩:=pU h2;obtain⟨rfl,J⟩:=pU h3;obtain⟨rfl,Z⟩:=Oi h4;obtain⟨ap,cp,rfl,Y,N⟩:=Ln h5;obtain rfl:r5=[]:=h6;simp only[pa,mS,mP,mL,mU,mZ,Ob]at hm;have aa:ac=18446744073709551615:=rfl;dsimp only at O e2 U V X J Z Y N;refine⟨⟨ap,cp,?_,Y⟩,by show d.toNat<_;omega,J,N,by show eq p<_;omega⟩;rw[O,e2,U,V,X,aaw]
 rfl
theorem Do:∀{css:List (Ad)} {xs:List vr},fg (vu W) css xs->gK pa xs<=1048576->fg (j8 (hp W)) css (xs.map qg)/\∀x∈xs.map qg,po x
 |[],[],_,_=>⟨trivial,Q8⟩
 |c::cs,x::xs,⟨U,V⟩,X=>by
  simp only[gK]at X;obtain⟨N,O⟩:=Pb U qo;obtain⟨Y,Z⟩:=Do V qo;refine⟨⟨N,Y⟩,fun y J=>?_⟩;rw[aay]at J;rcases aaB.1 J with rfl|J
  ·exact O
  exact Z y J
 |[],_::_,g,_=>g.elim
 |_::_,[],g,_=>g.elim
def KY:gJ enc Tryz.prog W 63 1 (sK W 5 (vu W)) (mL pa):=E8 Tryz.underlying63 qk MH
def xz{base v}{d:DataW H}{ps:List MemPlace}(N:Value.okWide Tryz.prog W .any base 63 v)(h:DataW.Trod enc Tryz.prog W 0 (fun _=>true) true 63 v d ps)(hB:Rows.uptoBulk d<=1048576):
  ∃ao cap,∃cs:List Sx,v=.slice ao (eq cs) cap/\dn 5 (j8 (hp W)) (hp W) ao (eq cs) cap cs/\(∀x∈cs,po x)/\eq cs<2^40:=by
 obtain⟨U,len,J,rfl⟩:=okWide_slice Tryz.underlying63 N;obtain⟨xs,Y,hm⟩:=(KY (enc:=enc) (W:=W)).arg h;simp only[mL]at hm;have aa:=DM pa (fun _=>by simp only[pa,mS,mP,mU];omega) xs;obtain⟨ao,cap,css,e,x,X⟩:=Y;obtain⟨O,V⟩:=Do X qo;simp[Value.cells]at e;obtain⟨rfl,rfl,rfl⟩:=e;have el:eq xs=eq (xs.map qg):=by simp
 rw[el]at x⊢;exact⟨U,J,xs.map qg,I,⟨css,I,x,EQ O,Bz (fun c x Z=>by obtain⟨_,_,rfl,_⟩:=Z;rfl) O⟩,V,qo⟩
end opens
end
section
def LK{w0:World}{K:PH}{hs:Ac}(n v)(ao:Ab)(cap)(cs:List Sx)(xs:dn 5 (j8 K) K ao (eq cs) cap cs)(hb:∀y∈cs,po y)(hn:eq cs<2^40):
  ai w0 6 [.agg #[.int .i64 n,.int .i64 v],.slice ao (eq cs) cap] K hs (fun v K' _=>K'=K/\v=.bool true):=by
 refine Ct.TB ?_;refine ent Tryz.func6 ?_;refine acY ?_;refine bx 0 I fun b2=>?_;refine Ez 0 (pt b2 #[.int .i64 n,.int .i64 v] kH) ?_;refine au ?_
 by_cases h:1<=v/\v<=n/\n<=7
 case neg=>
  refine cl 0 I (yX n v h) ?_;rintro aO ak ae ⟨rfl,rfl,rfl⟩;refine au ?_;refine cG 1 True I Q8 fun am X=>?_;refine fin 0 I (th (ax X I (fun e2=>?_) (fun e2=>absurd trivial e2)));refine au ?_;refine cl 0 I nU ?_;rintro a6 aV aR ⟨rfl,rfl,rfl⟩;refine au ?_;exact af I I ⟨Cg _,I⟩
 obtain⟨v,rfl⟩:∃u:Nat,v=(u:Int):=⟨v.toNat,qo⟩;obtain⟨n,rfl⟩:∃u:Nat,n=(u:Int):=⟨n.toNat,qo⟩;refine cl 0 I (yz n v qo) ?_;rintro aO ak ae ⟨wb,bm,x,rfl,le,o,rfl⟩;refine au ?_;refine cG 1 False I Q8 fun am X=>?_;refine fin 0 I (th (ax X I (fun e2=>e2.elim) (fun _=>?_)));refine au ?_;refine cl 2 I (Gt qo o ao cap cs (xs.le le fun _ _ h=>h.le le) hb hn) ?_;rintro bb aa aS ⟨J,rfl,aN,o1⟩;obtain⟨_,_,_,ol,ov,_,_,_,_,lN,vN,_,g,w⟩:=o1;refine Ew (pt wb (J.A v bm) bw::J.gN::J.gF::J.gL::J.gV::J.gR::J.hm::(dQ J.ss++(pt b2 #[.int .i64 (n:Nat),.int .i64 (v:Nat)] kH::hs))) I ?_;have hA:(J.A v bm)[3]?=some (.slice J.aL (eq J.W.ld) J.cL):=rfl;have N:=ol.Ni;have ad:eq J.W.ld<=1000000000000:=qo
 have U:∀(p q:Nat×Nat),p∈J.W.ld->q∈J.W.ld->p.1=q.1->p.2=q.2:=fun p q hp hq e=>w.leads hp hq e;have Y:∀x,eq (gW x)=2:=fun _=>rfl;have e7:J.hp wb v bm (pt b2 #[.int .i64 (n:Nat),.int .i64 (v:Nat)] kH::hs)=pt wb (J.A v bm) bw::J.gN::J.gF::J.gL::J.gV::J.gR::J.hm::(dQ J.ss++(pt b2 #[.int .i64 (n:Nat),.int .i64 (v:Nat)] kH::hs)):=rfl;generalize J.A v bm=A at hA⊢;generalize J.aL=aL at hA N⊢;generalize J.cL=cL at hA N⊢;generalize J.W.ld=O at hA N ad U⊢;generalize dQ J.ss++(pt b2 #[.int .i64 (n:Nat),.int .i64 (v:Nat)] kH::hs)=H at⊢;refine au ?_;refine aX 3 0 I I hA ?_;refine au ?_
 refine loop (σ:=Nat) (fun i=>[(5,Rp wb),(24,.slice aL (eq O) cL),(25,.int .i64 (eq O)),(26,.int .i64 (i:Nat))]) (fun _=>aa) (fun _=>pt wb A bw::J.gN::J.gF::J.gL::J.gV::J.gR::J.hm::H)
  (fun i=>i<=eq O) (fun i=>eq O-i) 0 (aad _) ⟨rfl,rfl,rfl,rfl,trivial⟩ rfl rfl ?_
 intro i hi;refine acY ?_;refine bc 0 I (fun e4=>?_) (fun e4=>?_)
 ·refine au ?_;have Z:i<eq O:=qo
  obtain⟨p,hp⟩:∃p,O[i]?=some p:=⟨_,aai Z⟩;obtain⟨a,rfl,aA⟩:=ru Y Q9 N Z hp;refine dZ 1 i I I N Z Q9 fun a0 ap=>?_;cases ap;refine fu 0 (gW p) I qk (.inr ⟨3,I⟩) aA ?_;refine al 0 (.agg Im) I qk fun b7=>?_;refine bA 1 0 I I qk I I ?_;refine Ew (pt b7 (gW p).toArray iP::pt wb A bw::J.gN::J.gF::J.gL::J.gV::J.gR::J.hm::H) I ?_;refine au ?_;refine aX 3 1 I I hA ?_;refine sl 1 0 i I N I Q8 qo (ys:=(O.take i).flatMap gW) (by rw[<-yr Y];simp) fun ab an ag=>?_;have a5:eq (O.take i)=i:=by rw[aal];omega
  refine au ?_
  refine loop (σ:=Nat) (fun k=>[(5,Rp wb),(24,.slice (some a) (eq O) cL),(25,.int .i64 (eq O)),(26,.int .i64 i),(7,Rp b7),(36,.slice ab i an),(37,.int .i64 i),(38,.int .i64 (k:Nat))]) (fun _=>aa) (fun _=>pt b7 (gW p).toArray iP::pt wb A bw::J.gN::J.gF::J.gL::J.gV::J.gR::J.hm::H)
   (fun k=>k<=i) (fun k=>i-k) 0 (aad _) ⟨rfl,rfl,rfl,rfl,rfl,rfl,rfl,rfl,trivial⟩ rfl rfl ?_
  intro k hk;refine acY ?_;refine bc 0 I (fun e6=>?_) (fun e6=>?_)
  ·refine au ?_;obtain⟨q,hq⟩:∃q,(O.take i)[k]?=some q:=⟨_,aai qo⟩;obtain⟨a',rfl,aD⟩:=ru Y Q9 ag (show k<i by omega) hq;refine dZ 0 k I I ag qo Q9 fun a1 aq=>?_;cases aq;refine fu 0 (gW q) I qk (.inr ⟨3+1,I⟩) aD ?_;refine al 0 (.agg Im) I qk fun b9=>?_;refine bA 0 0 I I qk I I ?_;refine Ew (pt b9 (gW q).toArray iP::pt b7 (gW p).toArray iP::pt wb A bw::J.gN::J.gF::J.gL::J.gV::J.gR::J.hm::H) I ?_;have aE:=aam hp;have aF:=aaS (aam hq);have ho:=U q p aF aE;refine au ?_;refine cG 0 (q.1=p.1) I Au fun a2 av=>?_
   refine' eQ (q:=q.2≠p.2) 1 6 53 [46,47] av I I I I I I I (fun _=>?x8) (fun a4 az=>?_)
   case x8=>
    refine au ?_;refine cG 0 (q.2≠p.2) I Au fun a3 ay=>?_;exact fin 1 I (bJ ay I I I)
   refine fin 0 I<|th (ax az I (fun V=>absurd (ho V.1) V.2) (fun V=>?_))
   refine sk (acW ?_);refine cZ k (Bh ?_);exact bn (x:=k) (k+1) sb I I qo qo
  refine au ?_;refine cZ i (Bh ?_);exact bn (x:=i) (i+1) sb I I qo qo
 refine au ?_;refine cl 0 I nU ?_;rintro bi aY aT ⟨rfl,rfl,rfl⟩;refine au ?_;exact af I I ⟨le.trans aN,I⟩
def LJ{w0:World}{K:PH}{hs:Ac}(n v)(ao:Ab)(cap)(cs:List Sx)(xs:dn 5 (j8 K) K ao (eq cs) cap cs)(hb:∀y∈cs,po y)(hn:eq cs<2^40):
  ai w0 7 [.agg #[.int .i64 n,.int .i64 v],.slice ao (eq cs) cap] K hs (fun v K' _=>K'=K/\v=.bool true):=by
 refine Ct.TB ?_;refine ent Tryz.func7 ?_;refine acY ?_;refine bx 0 I fun b2=>?_;refine Ez 0 (pt b2 #[.int .i64 n,.int .i64 v] kH) ?_;refine au ?_
 by_cases h:1<=v/\v<=n/\n<=7
 case neg=>
  refine cl 0 I (yX n v h) ?_;rintro aS ak ae ⟨rfl,rfl,rfl⟩;refine au ?_;refine cG 1 True I Q8 fun am X=>?_;refine fin 0 I (th (ax X I (fun e2=>?_) (fun e2=>absurd trivial e2)));refine au ?_;refine cl 0 I nU ?_;rintro bp a0 aT ⟨rfl,rfl,rfl⟩;refine au ?_;exact af I I ⟨Cg _,I⟩
 obtain⟨v,rfl⟩:∃u:Nat,v=(u:Int):=⟨v.toNat,qo⟩;obtain⟨n,rfl⟩:∃u:Nat,n=(u:Int):=⟨n.toNat,qo⟩;refine cl 0 I (yz n v qo) ?_;rintro aS ak ae ⟨wb,bm,x,rfl,le,o,rfl⟩;refine au ?_;refine cG 1 False I Q8 fun am X=>?_;refine fin 0 I (th (ax X I (fun e2=>e2.elim) (fun _=>?_)));refine au ?_;refine cl 2 I (Gt qo o ao cap cs (xs.le le fun _ _ h=>h.le le) hb hn) ?_;rintro bq aa aV ⟨J,rfl,aR,o1⟩;obtain⟨_,_,_,ol,ov,_,_,_,_,lN,vN,_,g,w⟩:=o1;refine Ew (pt wb (J.A v bm) bw::J.gN::J.gF::J.gL::J.gV::J.gR::J.hm::(dQ J.ss++(pt b2 #[.int .i64 (n:Nat),.int .i64 (v:Nat)] kH::hs))) I ?_;have hA:(J.A v bm)[4]?=some (.slice J.aV (eq J.W.vt) J.cV):=rfl;have N:=ov.Ni;have ad:eq J.W.vt<=1000000000000:=qo
 have V:∀(p q:Nat×Int×Nat),p∈J.W.vt->q∈J.W.vt->p.1=q.1->p.2.2=q.2.2->p.2.1=q.2.1:=fun p q hp hq e=>fun e2=>w.T4 hp hq e e2;have Y:∀x,eq (jZ x)=3:=fun _=>rfl;have e7:J.hp wb v bm (pt b2 #[.int .i64 (n:Nat),.int .i64 (v:Nat)] kH::hs)=pt wb (J.A v bm) bw::J.gN::J.gF::J.gL::J.gV::J.gR::J.hm::(dQ J.ss++(pt b2 #[.int .i64 (n:Nat),.int .i64 (v:Nat)] kH::hs)):=rfl;generalize J.A v bm=A at hA⊢;generalize J.aV=aL at hA N⊢;generalize J.cV=cL at hA N⊢;generalize J.W.vt=O at hA N ad V⊢;generalize dQ J.ss++(pt b2 #[.int .i64 (n:Nat),.int .i64 (v:Nat)] kH::hs)=H at⊢;refine au ?_;refine aX 3 0 I I hA ?_;refine au ?_
 refine loop (σ:=Nat) (fun i=>[(5,Rp wb),(24,.slice aL (eq O) cL),(25,.int .i64 (eq O)),(26,.int .i64 (i:Nat))]) (fun _=>aa) (fun _=>pt wb A bw::J.gN::J.gF::J.gL::J.gV::J.gR::J.hm::H)
  (fun i=>i<=eq O) (fun i=>eq O-i) 0 (aad _) ⟨rfl,rfl,rfl,rfl,trivial⟩ rfl rfl ?_
 intro i hi;refine acY ?_;refine bc 0 I (fun e4=>?_) (fun e4=>?_)
 ·refine au ?_;have Z:i<eq O:=qo
  obtain⟨p,hp⟩:∃p,O[i]?=some p:=⟨_,aai Z⟩;obtain⟨a,rfl,aE⟩:=ru Y Q9 N Z hp;refine dZ 1 i I I N Z Q9 fun a2 ap=>?_;cases ap;refine fu 0 (jZ p) I qk (.inr ⟨4,I⟩) aE ?_;refine al 0 (.agg Iw) I qk fun b7=>?_;refine bA 1 0 I I qk I I ?_;refine Ew (pt b7 (jZ p).toArray lO::pt wb A bw::J.gN::J.gF::J.gL::J.gV::J.gR::J.hm::H) I ?_;refine au ?_;refine aX 3 1 I I hA ?_;refine sl 1 0 i I N I Q8 qo (ys:=(O.take i).flatMap jZ) (by rw[<-yr Y];simp) fun ab an ag=>?_;have bo:eq (O.take i)=i:=by rw[aal];omega
  refine au ?_
  refine loop (σ:=Nat) (fun k=>[(5,Rp wb),(24,.slice (some a) (eq O) cL),(25,.int .i64 (eq O)),(26,.int .i64 i),(7,Rp b7),(36,.slice ab i an),(37,.int .i64 i),(38,.int .i64 (k:Nat))]) (fun _=>aa) (fun _=>pt b7 (jZ p).toArray lO::pt wb A bw::J.gN::J.gF::J.gL::J.gV::J.gR::J.hm::H)
   (fun k=>k<=i) (fun k=>i-k) 0 (aad _) ⟨rfl,rfl,rfl,rfl,rfl,rfl,rfl,rfl,trivial⟩ rfl rfl ?_
  intro k hk;refine acY ?_;refine bc 0 I (fun e6=>?_) (fun e6=>?_)
  ·refine au ?_;obtain⟨q,hq⟩:∃q,(O.take i)[k]?=some q:=⟨_,aai qo⟩;obtain⟨a',rfl,aF⟩:=ru Y Q9 ag (show k<i by omega) hq;refine dZ 0 k I I ag qo Q9 fun a3 aq=>?_;cases aq;refine fu 0 (jZ q) I qk (.inr ⟨4+1,I⟩) aF ?_;refine al 0 (.agg Iw) I qk fun b9=>?_;refine bA 0 0 I I qk I I ?_;refine Ew (pt b9 (jZ q).toArray lO::pt b7 (jZ p).toArray lO::pt wb A bw::J.gN::J.gF::J.gL::J.gV::J.gR::J.hm::H) I ?_;have aN:=aam hp;have aO:=aaS (aam hq);have ho:=V q p aO aN;refine au ?_;refine cG 0 (q.1=p.1) I Au fun a4 av=>?_
   refine' eQ (q:=q.2.2=p.2.2) 1 6 53 [46,47] av I I I I I I I (fun _=>?x8) (fun a6 az=>?_)
   case x8=>
    refine au ?_;refine cG 0 (q.2.2=p.2.2) I Au fun a5 ay=>?_;exact fin 1 I (bJ ay I I I)
   refine' eQ (q:=q.2.1≠p.2.1) 1 6 60 [53,54] az I I I I I I I (fun _=>?x10) (fun bi aD=>?_)
   case x10=>
    refine au ?_;refine cG 0 (q.2.1≠p.2.1) I Q8 fun bb aA=>?_;exact fin 1 I (bJ aA I I I)
   refine fin 0 I<|th (ax aD I (fun U=>absurd (ho U.1.1 U.1.2) U.2) (fun U=>?_))
   refine sk (acW ?_);refine cZ k (Bh ?_);exact bn (x:=k) (k+1) sb I I qo qo
  refine au ?_;refine cZ i (Bh ?_);exact bn (x:=i) (i+1) sb I I qo qo
 refine au ?_;refine cl 0 I nU ?_;rintro bs a1 aY ⟨rfl,rfl,rfl⟩;refine au ?_;exact af I I ⟨le.trans aR,I⟩
end
section
def OQ{wb V U j q:Nat}{x:Wm}(o:fR K V U j q x)(hj:j<=100000){r:pq}(hr:r∈x.W.rd){st:bH}(N:x.ss[r.n]?=some st):
  ai w0 28 [.pointer (some ⟨st.rb,0,none⟩),.int .u64 r.t,.int .u64 r.Jn] K (x.hp wb V U hs) (fun v K' hs'=>∃Z b,hs'=Z.hp wb V U hs/\Le K K'/\eq Z.ss=eq x.ss/\(Z.A V U=x.A V U/\Z.gN=x.gN/\Z.gR=x.gR/\Z.W=x.W)/\fR K' V U j q Z/\v=.bool b/\(b=true->r.lead<=r.t/\r.Je<=r.idx)):=by
 obtain⟨Y,on,of,ol,ov,aa,om,oa,fN,lN,vN,rN,g,w⟩:=o;obtain⟨ss,W,bad,mm,aN,cN,gN,aF,cF,gF,aL,cL,gL,aV,cV,gV,aR,cR,gR,X⟩:=x;dsimp only at Y on of ol ov aa om oa fN lN vN rN w N hr;have hi:=(aav.1 N).1;have hn:(ss.map bH.nd)[r.n]?=some (bH.nd st):=by rw[abf,N];rfl
 have iN:cX K st.rb st.lb st.db st.R st.L st.D st.s st.lh st.g:=Y st (aam N);have o:=(w.n r.n _ hn).sb.ni;have ae:jC j<=30100000:=by unfold jC;omega
 have hw:=w.heard hr hn
 refine Ct.Su (hs2:=pt st.rb (aH st.lb st.R st.s) RT::st.lh::st.g::pt wb (cw (.slice aN (eq ss) cN) V (.slice aF (eq W.fl) cF) (.slice aL (eq W.ld) cL) (.slice aV (eq W.vt) cV) U (.slice aR (eq W.rd) cR) W.Je W.lead bad) bw::gN::gF::gL::gV::X::gR::(dQ (ss.eraseIdx r.n)++hs)) (nm N)
  (Nk iN o qo r.t r.Jn) ?_
 rintro v K' hs' ⟨_,ad,g',rfl,⟨s',rfl,le,I'⟩,hv⟩;obtain⟨O,J⟩:∃O:bH,O=⟨st.db,st.lb,st.rb,st.R,st.L,st.D,s',ad,g'⟩:=⟨_,rfl⟩;have ab:(ss.set r.n O)[r.n]?=some O:=by rw[abI,aab rfl,aab hi]
 have p2:=nm (A:=pt wb (cw (.slice aN (eq ss) cN) V (.slice aF (eq W.fl) cF) (.slice aL (eq W.ld) cL) (.slice aV (eq W.vt) cV) U (.slice aR (eq W.rd) cR) W.Je W.lead bad) bw) (B:=gN) (C:=gF) (D:=gL) (E:=gV) (F:=gR) (G:=X) (hs:=hs) ab;rw[qY,J]at p2;refine⟨_,p2.symm,⟨ss.set r.n O,W,bad,mm,aN,cN,gN,aF,cF,gF,aL,cL,gL,aV,cV,gV,aR,cR,gR,X⟩,_,by unfold Wm.hp Wm.A;dsimp only;rw[aan,J],le,by dsimp only;rw[aan],⟨by unfold Wm.A;dsimp only;rw[aan],rfl,rfl,rfl⟩,?_,hv,hw⟩;refine⟨fun u hu=>?_,?_,of.le le,ol,ov,aa,om,oa.le le,fN,lN,vN,rN,g,?_⟩
 ·rcases acv hu with hu|rfl
  ·exact(Y u hu).le le
  rw[J];exact I'
 ·dsimp only;rw[qW (s:=st) (by rw[J];rfl) ss r.n N,aan];exact on
 dsimp only
 have e:(ss.set r.n O).map bH.nd=ss.map bH.nd:=by
  rw[ab3,J];obtain⟨h1,h2⟩:=aav.1 hn;show(ss.map bH.nd).set r.n (bH.nd st)=_;rw[<-h2];exact acy h1
 rw[e];exact w
def M6(n v:Int)(ao:Ab)(cap:Nat)(cs:List Sx)(xs:dn 5 (j8 K) K ao (eq cs) cap cs)(hb:∀y∈cs,po y)(hn:eq cs<2^40):
  ai w0 8 [.agg #[.int .i64 n,.int .i64 v],.slice ao (eq cs) cap] K hs (fun v K' _=>K'=K/\v=.bool true):=by
 refine Ct.TB ?_;refine ent Tryz.func8 ?_;refine acY ?_;refine bx 0 I fun b2=>?_;refine Ew (pt b2 #[.int .i64 n,.int .i64 v] kH::hs) I ?_;refine au ?_
 by_cases h:1<=v/\v<=n/\n<=7
 case neg=>
  refine cl 0 I (yX n v h) ?_;rintro bo ae aA ⟨rfl,rfl,rfl⟩;refine au ?_;refine cG 1 True I Q8 fun aS ab=>?_;refine fin 0 I (th (ax ab I (fun e2=>?_) (fun e2=>absurd trivial e2)));refine au ?_;refine cl 0 I nU ?_;rintro b8 bV bq ⟨rfl,rfl,rfl⟩;refine au ?_;exact af I I ⟨Cg _,I⟩
 obtain⟨v,rfl⟩:∃u:Nat,v=(u:Int):=⟨v.toNat,qo⟩;obtain⟨n,rfl⟩:∃u:Nat,n=(u:Int):=⟨n.toNat,qo⟩;refine cl 0 I (yz n v qo) ?_;rintro bo ae aA ⟨wb,O,x,rfl,le,o,rfl⟩;generalize (pt b2 #[.int .i64 n,.int .i64 v] kH::hs)=hs;refine au ?_;refine cG 1 False I Q8 fun aS ab=>?_;refine fin 0 I (th (ax ab I (fun e2=>e2.elim) (fun _=>?_)));refine au ?_
 refine loop (σ:=Nat×PH×Wm) (fun t=>[(5,Rp wb),(18,.slice ao (eq cs) cap),(19,.int .i64 (eq cs)),(20,.int .i64 t.1)]) (fun t=>t.2.1) (fun t=>t.2.2.hp wb v O hs)
  (fun t=>t.1<=eq cs/\t.1<=401/\Le K t.2.1/\fR t.2.1 v O (207*t.1) (207*t.1) t.2.2) (fun t=>eq cs-t.1) (0,ae,x) ⟨aad _,aad _,le,o⟩ ⟨rfl,rfl,rfl,rfl,trivial⟩ rfl rfl ?_
 rintro⟨i,K1,x1⟩ ⟨hi,a5,V,o1⟩;dsimp only at hi a5 V o1⊢;refine acY ?_;refine bc 0 I (fun e2=>?_) (fun e2=>?_)
 ·refine au ?_;have am:i<eq cs:=qo
  obtain⟨y,hy⟩:∃y,cs[i]?=some y:=⟨_,aai am⟩;obtain⟨b1,b2,b3,b4⟩:=hb y (aam hy);have aF:dn 5 (j8 K1) K1 ao (eq cs) cap cs:=xs.le V fun _ _ h=>h.le V;obtain⟨a,ap,cp,rfl,xp,hc⟩:=CH aF hy;obtain⟨vs,a6⟩:=aF.Ni;refine dZ 1 i I I a6 am Q9 fun b0 aT=>?_;cases aT;refine fu 0 (da y ap cp).toList I qk (.inl I) hc ?_;refine al 0 (.agg Iv) I qk fun b7=>?_;refine bA 1 0 I I qk I I ?_;refine Ew (pt b7 (da y ap cp) dM::x1.hp wb v O hs) I ?_;refine au ?_;refine bc 1 I (fun e6=>?_) (fun e6=>?_)
  ·refine au ?_;refine cl 0 I nU ?_;rintro bp aO aD ⟨rfl,rfl,rfl⟩;refine au ?_;exact af I I ⟨V,I⟩
  refine au ?_;refine Bi (gm x1 wb v O [pt b7 (da y ap cp) dM] hs) ?_;refine cl 0 I (He qo o1 qo qo y b1 b2 ap cp xp b3 b4) ?_;rintro ca aL bs ⟨N,rfl,bb,_,o2⟩;refine Ew (pt wb (N.A v O) bw::N.gN::N.gF::N.gL::N.gV::N.gR::N.hm::(dQ N.ss++(pt b7 (da y ap cp) dM::hs))) I ?_;have hA:(N.A v O)[6]?=some (.slice N.aR (eq N.W.rd) N.cR):=rfl;have U:∀{h:PH},h=N.gR->aj h N.aR (eq N.W.rd) N.cR 6 (N.W.rd.flatMap jf):=fun e=>by rw[e];exact o2.r.Ni
  have an:eq N.W.rd<=1000000:=by have:=o2.rN;omega
  have a4:∀x,eq (jf x)=6:=fun _=>rfl;refine fin 0 I (acV ?_);refine aX 3 0 I I hA ?_;refine au ?_;obtain⟨rs,az⟩:=a9 N.W.rd;obtain⟨aR,a1⟩:∃a,a=N.aR:=⟨_,rfl⟩;obtain⟨cR,a2⟩:∃a,a=N.cR:=⟨_,rfl⟩;obtain⟨gR,ak⟩:∃a,a=N.gR:=⟨_,rfl⟩;rw[<-az]at U an⊢;rw[<-a1]at U⊢;rw[<-a2]at U⊢;rw[<-ak]at U
  refine loop (σ:=Nat×PH×Wm) (fun t=>[(5,Rp wb),(18,.slice (some a) (eq cs) cap),(19,.int .i64 (eq cs)),(20,.int .i64 i),(33,.slice aR (eq rs) cR),(34,.int .i64 (eq rs)),(35,.int .i64 t.1)]) (fun t=>t.2.1) (fun t=>t.2.2.hp wb v O (pt b7 (da y (ap) cp) dM::hs))
   (fun t=>t.1<=eq rs/\Le K t.2.1/\t.2.2.W.rd=rs/\t.2.2.gR=gR/\fR t.2.1 v O (207*(i+1)) (207*(i+1)) t.2.2) (fun t=>eq rs-t.1) (0,aL,N) ⟨aad _,V.trans bb,az.symm,ak.symm,o2.up qo qo⟩ ⟨rfl,rfl,rfl,rfl,rfl,rfl,rfl,trivial⟩ rfl rfl ?_
  rintro⟨k,K3,J⟩ ⟨hk,Z,Y,X,o3⟩;dsimp only at hk Z Y X o3⊢;refine acY ?_;refine bc 0 I (fun e8=>?_) (fun e8=>?_)
  ·refine au ?_;have ad:k<eq rs:=qo
   obtain⟨r,hr⟩:∃r,rs[k]?=some r:=⟨_,aai ad⟩;obtain⟨aa,aq,a3⟩:=ru a4 Q9 (U X) ad hr;rw[aq];rw[aq]at U;refine Ew (pt wb (J.A v O) bw::J.gN::J.gF::J.gL::J.gV::J.gR::J.hm::(dQ J.ss++(pt b7 (da y ap cp) dM::hs))) I ?_;refine dZ 0 k I I (U X) ad Q9 fun b5 aV=>?_;cases aV;refine fu 0 (jf r) I qk (.inr ⟨5,I⟩) a3 ?_;refine al 0 (.agg Ix) I qk fun b9=>?_;refine bA 0 0 I I qk I I ?_;refine Ew (pt b9 (jf r).toArray lP::pt wb (J.A v O) bw::J.gN::J.gF::J.gL::J.gV::J.gR::J.hm::(dQ J.ss++(pt b7 (da y ap cp) dM::hs))) I ?_;have av:r∈J.W.rd:=by rw[Y];exact aam hr
   have ay:r.n<eq J.ss:=by
    obtain⟨_,_,_,_,_,_,_,_,_,_,_,_,g,w⟩:=o3;have:=(w.s.rd r av).2
    rwa[aaM]at this
   obtain⟨st,aE⟩:∃st,J.ss[r.n]?=some st:=⟨_,aai ay⟩;have bi:=o3.n.Ni;obtain⟨aN,a0,c0,c1,c2⟩:=nJ bi aE;have aY:(J.A v O)[0]?=some (.slice (some aN) (eq J.ss) J.cN):=by rw[<-a0];rfl
   refine au ?_;refine bC [0,1,2] 28 [0,2,4,6,8,10,12,14,16,18,20,22,24,27,28,30,32,34,36,38,40,42,44,46,48,50,52,54] ?_;refine bT qk 3 1 I I aY ?_;refine au ?_;refine bu qk 0 r.n I I ay ?_;refine ph qk 1 I (.inr ⟨2,I⟩) c2 ?_;refine bT qk 1 0 I I I ?_;refine bT qk 1 0 I I I ?_;refine aB qk 0 I ?_;refine Bi (hs':=J.hp wb v O (pt b9 (jf r).toArray lP::pt b7 (da y ap cp) dM::hs)) (gm J wb v O [_] _) ?_;refine cl 0 I (OQ o3 qo av aE) ?_;rintro cc ag bB ⟨x4,b,rfl,cU,b6,⟨q1,q2,q3,q4⟩,o4,rfl,hh⟩;refine dX (fun h hh=>?_) cU ?_
   ·simp only[aaB,acQ,or_false]at hh;unfold Wm.hp;rw[q1,q2];rcases hh with rfl|rfl|rfl
    ·simp
    ·exact abp
    simp
   cases b with
   |false=>
    refine au ?_;refine Bi (gm x4 wb v O [pt b9 (jf r).toArray lP] _).symm ?_;refine cZ k (Bh ?_);exact bn (x:=(k,K3,J)) (k+1,ag,x4) sb I I ⟨aC,Z.trans cU,by dsimp only;rw[q4,Y],by dsimp only;rw[q3,X],o4⟩ aC
   |true=>
    obtain⟨g1,g2⟩:=hh rfl;refine au ?_;refine dP qk 0 (r.t<r.lead) I Q8 (fun h9=>absurd h9 qo) (fun h9=>?_);refine au ?_;refine dP qk 0 (r.idx<r.Je) I Q8 (fun h9=>absurd h9 qo) (fun h9=>?_);refine au ?_;refine Bi (gm x4 wb v O [pt b9 (jf r).toArray lP] _).symm ?_;refine cZ k (Bh ?_);exact bn (x:=(k,K3,J)) (k+1,ag,x4) sb I I ⟨aC,Z.trans cU,by dsimp only;rw[q4,Y],by dsimp only;rw[q3,X],o4⟩ aC
  refine au ?_;refine cZ i (Bk (gm J wb v O [pt b7 (da y ap cp) dM] hs).symm (Bh ?_));exact bn (x:=(i,K1,x1)) (i+1,K3,J) sb I I ⟨aC,aC,Z,o3⟩ aC
 refine au ?_;refine cl 0 I nU ?_;rintro bp aO aD ⟨rfl,rfl,rfl⟩;refine au ?_;exact af I I ⟨V,I⟩
end
end Go.En
