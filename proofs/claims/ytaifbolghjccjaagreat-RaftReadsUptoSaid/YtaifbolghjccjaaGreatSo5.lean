/-
  Part 5.
-/
import Derived.Test.YtaifbolghjccjaaGreatSo4
set_option linter.defProp false
set_option linter.unusedSectionVars false
set_option linter.unusedSimpArgs false
set_option linter.unusedVariables false
set_option maxRecDepth 4000
namespace Go.En
open Go.Proofs Go.Proofs.YtaifbolghjccjaaGreat
open List renaming length -> eq
attribute [local irreducible] Code.wp wpList Calls
variable {w0:World}{K:PH}{hs:Ac}{P:Nat->Prop}{T:Nat}{Q:List ah->Prop}
section
def D5(lb R s){j}(hj:j<7)(p):((aH lb R s).toList.take (10+j*5)++(#[.int .u64 p.mt,.int .u64 p.nx,.int .u64 p.rd,.bool p.ws,.int .i64 p.of]:Ah).toList ++
  (aH lb R s).toList.drop (10+j*5+eq (#[.int .u64 p.mt,.int .u64 p.nx,.int .u64 p.rd,.bool p.ws,.int .i64 p.of]:Ah).toList)).toArray=aH lb (R.Jp (j:Int) p) s:=by
 obtain rfl|rfl|rfl|rfl|rfl|rfl|rfl:=uR hj
 all_goals rfl
def Nd.TL(R:Nd)(L:Lg)(j:Nat):Nd:={R with role:=2,lead:=R.nd,el:=0,pr:=fun i=>if i<j then Pr.new (L.last+1)else R.pr i}
def Mp(R:Nd)(L j):(R.TL L j).Jp (j:Int) (Pr.new (L.last+1))=R.TL L (j+1):=by
 unfold Nd.Jp Nd.TL
 grind
section
variable {w0:World}{K lh g:PH}{hs:Ac}{rb lb db c q z k:Nat}{R:Nd}{L:Lg}{D:Dk}{s:NS}
def zd(iN:cX K rb lb db R L D s lh g)(o:NI c q z k R L D)(hc:c<=800000000)(hk:k<=4800000)(kind data)(az:eq data<2^40)(O U)(x:aj K O (eq data) U 1 (bv data)):
  gc w0 K hs rb lb db R s lh g 83 [Rp rb,.int .i64 kind,.slice O (eq data) U] (R.lay L D kind data).1 (R.lay L D kind data).2.1 (R.lay L D kind data).2.2.1
   (.tuple #[.int .u64 (((R.lay L D kind data).2.2.2.1:Nat):Int),.int .u64 (((R.lay L D kind data).2.2.2.2.1:Nat):Int),.int .i64 (R.lay L D kind data).2.2.2.2.2]):=by
 have ab:=o.last qo;have a4:=o.rn.lb.kt;obtain⟨e,he⟩:∃e:ah,e=⟨L.last+1,L.kt,kind,data⟩:=⟨_,rfl⟩;have aa:e.idx<=ac/\e.term<=ac:=by grind[ac,de]
 have ay:∀y∈[e],lR y:=fun y hy=>by rw[aaC.1 hy];exact⟨aa.1,aa.2,by rw[he];exact az⟩
 have a:=o.append e aa qo;unfold Nd.lay;rw[<-he];have Z:=fun(X:PH) (hL:dV X lb db L D lh) (ao:Ab) (cap:Nat) (xs:dn 4 (eI X) X ao [e].length cap [e]) (hs':Ac)=>NO (w0:=w0) (hs:=hs') lb db L D c o.rn.lb o.rn.ok hL ao cap [e] xs ay (by simp only[abd];omega);generalize L.append [e] D=A at a Z⊢;obtain⟨L1,D1,c1⟩:=A;dsimp only at a Z⊢;refine ent Tryz.func83 ?_;refine au ?_;refine cl 0 I (Ck 1 I (mp lb db L D c o.rn.lb qo iN.l)) ?_;rintro a5 aT aA ⟨rfl,rfl,rfl⟩;refine ar 0 I (bL (x:=((L.last+1:Nat):Int)) (by unfold de at ab;omega)) ?_;refine cl 1 I (Cp [] (iI iN.l)) ?_;rintro a6 aV aE ⟨_,lh,rfl,rfl,rfl,rfl,rfl⟩;refine bd 2 (.agg #[.int .u64 (L.last+1:Nat),.int .u64 L.kt,.int .i64 kind,.slice O (eq data) U]) I Aq ?_;refine al 0 (.agg Il) I qk fun b9=>?_
 refine bA 0 0 I I qk I I ?_;refine Ew (pt b9 (e.v O U) 51::pt rb (aH lb R s) RT::lh::g::hs) (by rw[he];rfl) ?_;refine au ?_;refine bC [0,1] 8 [0,2,4,6,8,10,13,15,17,18] ?_;refine dA [7] qk 4 1 I qk I I ?_;refine Ga [7,6] qk 0 0 I qk I qk ?_;refine au ?_;refine lit 0 (e.v O U) I Q9 qk fun ak=>?_;refine Eg fun X l1 l2=>?_
 have xs:dn 4 (eI X) X (some ⟨ak,0,none⟩) [e].length 1 [e]:=⟨[(e.v O U).toList],rfl,by
  have:=(aJ.Re (b:=ak) (c:=e.v O U) (e:=51) (n:=1) (size:=4) rfl Q9).Ni.le l2;simpa using this,⟨⟨O,U,rfl,by rw[he];exact x.le l1⟩,trivial⟩,by simp[ah.v]⟩
 refine dX Q8 l1 ?_;refine au ?_;refine cl 0 I (Er 2 I (Z _ (iN.l.le l1) _ _ xs _)) ?_;rintro bb aY aF ⟨h2,rfl,J,am,rfl⟩;refine Ew (pt b9 (e.v O U) 51::pt rb (aH lb R s) RT::h2::g::hs) I ?_;refine dX Q8 J ?_;refine au ?_;refine cl 0 I (Ek [_] (my (lh:=h2) ((iN.g.le l1).le J) c1)) ?_;rintro bi a0 aL ⟨_,lh,_,rfl,rfl,⟨s1,rfl,G1⟩,rfl,rfl⟩;refine au ?_;refine bc 1 I (fun e2=>?_) (fun e2=>?_)
 ·refine au ?_;subst e2;rw[aaa Q8];dsimp only;have b:=a.sync;have ad:=fun(X:PH) (h:PH) (hL:dV X lb db L1 D1 h) (hs':Ac)=>E6 (w0:=w0) (hs:=hs') lb db L1 D1 (c+12) a.rn.lb qo a.rn.ok hL;generalize L1.sync D1=B at b ad⊢;obtain⟨N,D2,c2⟩:=B;dsimp only at b ad⊢;refine au ?_;refine cl 0 I (Er 2 I (ad _ _ am _)) ?_;rintro bm a1 aN ⟨h3,rfl,ae,an,rfl⟩;refine Ez 1 (pt rb (aH lb R s1) RT) ?_;refine Ez 3 (_) ?_;refine cl 0 I (Ek [_] (my (lh:=h3) (G1.le ae) c2)) ?_;rintro bo a2 aO ⟨_,lh,_,rfl,rfl,⟨s2,rfl,G2⟩,rfl,rfl⟩;refine au ?_;refine aw 1 I fun aq Y=>?_;refine fin 0 I (th (ax Y I (fun e4=>?_) (fun e4=>?_)))
  ·rw[aab e4];refine acY ?_;refine fin 4 I (ac0 (rT (Bh ?_)));exact fF I I I I ⟨_,_,_,I,⟨s2,I,(l1.trans J).trans ae,an,G2⟩,I⟩
  obtain rfl:c2=0:=aag.1 e4;rw[show(R.did 0).did 0=R from rfl]at G2⊢;rw[aaa Q8];dsimp only;unfold Nd.Rq;have o2:NI (c+13) (q+1) z k R N D2:=b;refine sk (acV ?_);refine cl 1 I (Ek [_] (ER ⟨an,G2⟩ o2 qo qo)) ?_;rintro bp ag aR ⟨_,_,_,rfl,⟨s3,rfl,cU,I4⟩,rfl⟩;have o3:=o2.r (o2.rb.Qc o2.rn.lb o2.cf qo);refine fin 0 I (th ?_)
  refine kL (σ:=PH×NS×PH×PH) (fun _=>[(9,Rp b9)]) (fun u=>u.1) (fun u=>pt b9 (e.v O U) 51::pt rb (aH lb (if(R.Qc N).role=2 then(R.Qc N).tell N false else R.Qc N) u.2.1) RT::u.2.2.1::u.2.2.2::hs)
   (fun u=>Le ag u.1/\cX u.1 rb lb db (if(R.Qc N).role=2 then(R.Qc N).tell N false else R.Qc N) N D2 u.2.1 u.2.2.1 u.2.2.2) ?_ ?_
  ·refine au ?_;refine aw 0 I fun a3 av=>?_;refine fin 0 I (th (ax av I (fun e6=>?_) (fun e6=>?_)))
   ·rw[aab e6];refine rg ?_;refine cl 1 I (Ek [_] (um I4 o3 qo qo false)) ?_;rintro bq ap aS ⟨_,_,_,rfl,⟨s4,rfl,V,I5⟩,rfl⟩;refine fin 0 I ?_;exact fM (ap,s4,_,_) ⟨V,I5⟩ ⟨I,trivial⟩ I I
   rw[aaa e6];refine sk ?_;exact fM (ag,s3,_,_) ⟨Cg _,I4⟩ ⟨I,trivial⟩ I I
  rintro⟨K5,s5,l5,g5⟩ ⟨V,I5⟩;dsimp only at V I5⊢;refine sq (bC [0] 7 [0,2,4,6,8,10,12] ?_);refine bT qk 1 0 (v:=.int .u64 (L.last+1:Nat)) I I (by rw[he];rfl) ?_;refine bT qk 1 0 (v:=.int .u64 L.kt) I I (by rw[he];rfl) ?_;refine aI qk 3 I (ac0 (Bh ?_));exact fF I I I I ⟨_,_,_,I,⟨s5,I,(((l1.trans J).trans ae).trans cU).trans V,I5⟩,I⟩
 refine au ?_;rw[aab e2];refine au ?_;refine aw 1 I fun aq Y=>?_;refine fin 0 I (th (ax Y I (fun e8=>?_) (fun e8=>absurd e2 e8)));refine acY ?_;refine fin 4 I (ac0 (rT (Bh ?_)));exact fF I I I I ⟨_,_,_,I,⟨s1,I,l1.trans J,am,G1⟩,I⟩
def EF(iN:cX K rb lb db R L D s lh g)(o:NI c q z k R L D)(hc:c<=800000000)(hk:k<=4800000)(vs)(aq:eq vs<=7)(ao cap)(x:aj K ao (eq vs) cap 1 (iv vs)):
  gc w0 K hs rb lb db R s lh g 140 [Rp rb,.agg #[.slice ao (eq vs) cap]] (R.Qa L D vs).1 (R.Qa L D vs).2.1 (R.Qa L D vs).2.2.1 (.int .i64 (R.Qa L D vs).2.2.2):=by
 obtain⟨hL,X,O,V,rfl,dj,⟨⟨Y,Z,eY,oY⟩,v,d,ou,f⟩⟩:=iN;obtain⟨sy,sv,sd,so,f0,f1,f2⟩:=s;dsimp only at eY v d ou f;subst eY;have av:=o.rb.yes;have U:=o.last qo;unfold Nd.Qa;refine ent Tryz.func140 ?_;refine acY ?_;refine bx 0 I fun b3=>?_;refine Bi (hs':=dt [X,O,V]::pt b3 #[.slice ao (eq vs) cap] 46::pt rb (aH lb R ⟨.slice Y (eq R.yes) Z,sv,sd,so,f0,f1,f2⟩) RT::lh::hs) (aak [_,_,_] [_] hs) (Be dj ?_);refine au ?_;refine bC [4,3] 7 [0,2,4,6,8,11,12] ?_;refine au ?_;refine cl 0 I (Fo (.inl I) ao cap vs x qo (.inr ⟨0,I⟩) Y Z R.yes oY.Ni qo) ?_;rintro ay aa ae ⟨rfl,rfl,rfl⟩;refine aP Q8 I ?_;refine aI qk 1 I (th (fw I (fun h1=>?_) (fun h1=>?_)))
 ·have N:mD vs R.yes=false:=by simpa using h1
  rw[aab N];refine acY ?_;refine fin 1 I (ac0 (rT (WQ.join [X,O,V] fun J=>WQ.Tj (Bk (aak [_] [_,_] hs) ?_))));exact af I I ⟨_,_,_,I,⟨⟨_,sv,sd,so,f0,f1,f2⟩,I,Cg _,hL,X,O,V,I,J,⟨Y,Z,I,oY⟩,v,d,ou,f⟩,I⟩
 have N:mD vs R.yes=true:=by simpa using h1
 rw[aaa (by simp[N])];refine sk (th (WC.join [X,O,V] fun J=>Bj (aak [_] [_,_,_] hs) ?_));have G:iq aa rb R ⟨.slice Y (eq R.yes) Z,sv,sd,so,f0,f1,f2⟩ (dt [X,O,V]):=⟨X,O,V,rfl,J,⟨Y,Z,rfl,oY⟩,v,d,ou,f⟩;generalize (⟨.slice Y (eq R.yes) Z,sv,sd,so,f0,f1,f2⟩:NS)=s at G⊢;generalize dt [X,O,V]=g at G⊢;refine acY ?_;refine aX 6 1 I I I ?_;refine Ji 2 1 I I I I ?_;refine Ji 2 1 I I I I ?_;refine Ji 2 1 I I I I ?_;refine Ez 1 (pt rb (aH lb (R.TL L 0) s) RT) ?_;refine au ?_
 refine loop (σ:=Nat) (fun j=>[(0,Rp rb),(29,.int .i64 (j:Nat))]) (fun _=>aa)
  (fun j=>pt b3 #[.slice ao (eq vs) cap] 46::pt rb (aH lb (R.TL L j) s) RT::lh::g::hs) (fun j=>j<=7) (fun j=>7-j) 0 qo sb rfl rfl ?_
 intro j hj;refine acY ?_;refine aw 0 I fun ap ad=>?_;refine au ?_;refine ax ad I (fun e3=>?_) (fun e3=>?_)
 ·have ab:j<7:=qo
  refine au ?_;refine bC [1] 12 [0,2,4,6,8,10,18,20,13,14,16,22,25] ?_;refine au ?_;refine cl 0 I (Ck 2 I (mp lb db L D c o.rn.lb qo hL)) ?_;rintro az am ag ⟨rfl,rfl,rfl⟩;refine aP Q8 I ?_;refine bF qk 0 I (bL (x:=((L.last+1:Nat):Int)) (by unfold de at U;omega)) ?_;refine jh qk 0 (.agg #[.int .u64 0,.int .u64 (L.last+1:Nat),.int .u64 0,.bool false,.int .i64 0]) I Aq ?_;refine qm (sz:=5) (a:=⟨rb,10,none⟩) qk 0 j I Tryz.underlying101 qk I ab ?_;rw[bf];refine au ?_;refine lX 0 1 (off:=10+j*5) (cs:=#[.int .u64 0,.int .u64 (L.last+1:Nat),.int .u64 0,.bool false,.int .i64 0]) I I qk (by show 10+j*5+5<=54;omega) (fun v hv=>by simp at hv;rcases hv with rfl|rfl|rfl|rfl|rfl<;>rfl) ?_;refine Ez 1 (pt rb (aH lb (R.TL L (j+1)) s) RT) ?_ (.there (.here (by rw[<-Mp,<-D5 lb _ s ab (Pr.new (L.last+1))];rfl)))
  refine au ?_;refine cZ j ?_;exact bn (x:=j) (j+1) sb I I qo qo
 obtain rfl:j=7:=qo
 refine ex (xt (xt (xb (acV ?_))));refine Ez 1 (pt rb (aH lb (R.up L) s) RT) ?_;refine cl 1 I (Ek [_] (zd (R:=R.up L) ⟨hL,G.r⟩ (o.T0 qo) hc hk 0 [] Q8 none 0 (aj.nil _ _ _ _))) ?_;rintro aA an ak ⟨_,_,_,rfl,⟨s2,rfl,le,I2⟩,rfl⟩;refine fin 7 I (acV ?_);refine fin 2 I (ac0 (Bh ?_));exact af I I ⟨_,_,_,I,⟨s2,I,le,I2⟩,I⟩
end
end
section
section
variable {w0:World}{K lh g:PH}{hs:Ac}{rb lb db c q z k:Nat}{R:Nd}{L:Lg}{D:Dk}{s:NS}
def MI(iN:cX K rb lb db R L D s lh g)(o:NI c q z k R L D)(hc:c<=700000000)(hk:k<=4000000)(av:L.kt<de)(vs)(az:eq vs<=7)(ao cap)(x:aj K ao (eq vs) cap 1 (iv vs)):
  gc w0 K hs rb lb db R s lh g 177 [Rp rb,.agg #[.slice ao (eq vs) cap]] (R.Qi L D vs).1 (R.Qi L D vs).2.1 (R.Qi L D vs).2.2.1 (.int .i64 (R.Qi L D vs).2.2.2):=by
 have bb:=o.rb.nd;unfold de at av;have a:=o.Jc (L.kt+1) R.nd (by unfold ac;omega);unfold Nd.Qi;have aa:=fun(hs':Ac)=>xi (w0:=w0) (hs:=hs') lb db L D c o.rn.lb qo o.rn.ok iN.l (L.kt+1) R.nd (by unfold ac;omega) qo;generalize L.Jc D (L.kt+1) R.nd=A at a aa⊢;obtain⟨N,D1,c1⟩:=A;dsimp only at a aa⊢;have Z:=a.last qo;refine ent Tryz.func177 ?_;refine acY ?_;refine bx 0 I fun b3=>?_;refine au ?_;refine bC [1] 14 [0,2,4,6,8,10,16,18,20,22,13,14,24,27,29,30] ?_;refine dA [13] qk 4 0 I qk I I ?_;refine dA [13,12] qk 4 0 I qk I I ?_;refine aB qk 0 I ?_;refine cl 0 I (Cp [_] (iI iN.l)) ?_;rintro bi aY aE ⟨_,lh,rfl,rfl,rfl,rfl,rfl⟩;refine aP Q8 I ?_;refine bF qk 0 I (bL (x:=((L.kt+1:Nat):Int)) qo) ?_;refine jh qk 0 (.agg #[.int .u64 (L.kt+1:Nat),.int .i64 R.nd]) I Aq ?_
 refine au ?_;refine cl 0 I (Er 2 I (aa _)) ?_;rintro bm a0 aF ⟨h2,rfl,V,U,rfl⟩;refine Ez 0 (pt b3 #[.slice ao (eq vs) cap] 46) ?_;refine dX Q8 V ?_;refine au ?_;refine cl 0 I (Ek [_] (my (lh:=h2) (iN.g.le V) c1)) ?_;rintro bo ak aL ⟨_,lh,g1,rfl,rfl,⟨s1,rfl,G1⟩,rfl,rfl⟩;refine au ?_;refine aw 1 I fun a5 ap=>?_;refine fin 0 I (th (ax ap I (fun e2=>?_) (fun e2=>?_)))
 ·rw[aab e2];refine acY ?_;refine fin 2 I (ac0 (rT (Bh ?_)));exact af I I ⟨_,_,_,I,⟨s1,I,V,U,G1⟩,I⟩
 obtain rfl:c1=0:=aag.1 e2;rw[aaa Q8];rw[show R.did 0=R from rfl]at G1⊢;obtain⟨hy,hd,hq,rfl,dj,⟨y,v,d,ou,f⟩⟩:=G1;obtain⟨sy,sv,sd,so,f0,f1,f2⟩:=s1;dsimp only at y v d ou f;refine sk (acV ?_);refine Bi (hs':=dt [hy,hd,hq]::pt b3 #[.slice ao (eq vs) cap] 46::pt rb (aH lb R ⟨sy,sv,sd,so,f0,f1,f2⟩) RT::lh::hs) (aak [_,_,_] [_] hs) (Be dj ?_);refine au ?_;refine lit 0 #[.int .i64 R.nd] I Q9 qk fun J=>?_;have oy:aJ (pt J #[.int .i64 R.nd] 3) (some ⟨J,0,none⟩) (eq R.Kf.yes) 1 3 1 (iv R.Kf.yes):=aJ.Re (b:=J) (c:=#[.int .i64 R.nd]) (e:=3) (n:=1) (size:=1) rfl Q9;refine Ji 2 5 I I I I ?_;refine Ji 2 5 I I I I ?_;refine Ji 2 5 I I I I ?_;refine Ez 5 (pt rb (aH lb {R with role:=1,lead:=-1,yes:=[R.nd]} ⟨.slice (some ⟨J,0,none⟩) 1 1,sv,sd,so,f0,f1,f2⟩) RT) ?_;refine Bi (aap _ _ _) (Bf (WL.join [pt J #[.int .i64 R.nd] 3,hd,hq] fun an=>Bi (aak [_] [_,_,_] hs) ?_))
 have G2:iq ak rb R.Kf ⟨.slice (some ⟨J,0,none⟩) 1 1,sv,sd,so,f0,f1,f2⟩ (dt [pt J #[.int .i64 R.nd] 3,hd,hq]):=⟨_,hd,hq,rfl,an,⟨_,_,rfl,oy⟩,v,d,ou,f⟩;generalize (⟨.slice (some ⟨J,0,none⟩) 1 1,sv,sd,so,f0,f1,f2⟩:NS)=s2 at G2⊢;generalize dt [pt J #[.int .i64 R.nd] 3,hd,hq]=g2 at G2⊢;refine fin 0 I (acV ?_);refine Ji 4 1 I I I I ?_;refine Ji 2 1 I I I I ?_;refine Ez 1 (pt rb (aH lb R.Kf s2) RT) ?_;have o2:NI (c+2) (q+1) z (k+1) R.Kf N D1:=a.r a.rb.Kf;refine au ?_;refine cl 0 I (Ck 2 I (mp lb db N D1 (c+2) a.rn.lb qo U)) ?_;rintro bp a1 aN ⟨rfl,rfl,rfl⟩;refine au ?_;refine cl 1 I (Ck 2 I (nr lb db N D1 (c+2) a.rn.lb qo U (N.sn.idx+eq N.l) (by unfold Lg.last de at Z;omega))) ?_;rintro bq a2 aO ⟨rfl,rfl,rfl⟩;refine au ?_;refine cl 1 I (Cp [_] (xy o2 qo U)) ?_;rintro bs ab aR ⟨_,lh,rfl,rfl,rfl,Y,aT,cT,rfl,xT⟩
 have ay:=nb R.Kf a.rn.lb a.cf;generalize ad:Nd.asks N (R.Kf.Rr N) R.Kf=Rt;generalize a6:R.Kf.Rr N=O at xT ay ad⊢;refine au ?_
 refine loop (σ:=Nat×Nd×PH×NS×PH×PH) (fun u=>[(0,Rp rb),(3,Rp b3),(6,.int .u64 N.last),(7,.int .u64 (((N.Ka N.last).1:Nat):Int)),(64,.slice aT (eq O) cT),(65,.int .i64 (eq O)),(66,.int .i64 u.1)]) (fun u=>u.2.2.1)
  (fun u=>pt b3 #[.slice ao (eq vs) cap] 46::pt rb (aH lb u.2.1 u.2.2.2.1) RT::u.2.2.2.2.1::u.2.2.2.2.2::hs)
  (fun u=>u.1<=eq O/\Nd.asks N (O.drop u.1) u.2.1=Rt/\NI (c+2) (q+1) z (k+1+u.1) u.2.1 N D1/\cX u.2.2.1 rb lb db u.2.1 N D1 u.2.2.2.1 u.2.2.2.2.1 u.2.2.2.2.2/\Le ab u.2.2.1)
  (fun u=>eq O-u.1) (0,R.Kf,ab,s2,lh,g2) ⟨aad _,ad,o2,⟨U.le Y,G2.le Y⟩,Cg _⟩ ⟨rfl,rfl,rfl,rfl,rfl,rfl,rfl,trivial⟩ rfl rfl ?_
 rintro⟨i,Ri,Ki,si,li,gi⟩ ⟨hi,hT,oi,Ii,X⟩;dsimp only at hi hT oi Ii X⊢;refine acY ?_;refine bc 0 I (fun e4=>?_) (fun e4=>?_)
 ·refine au ?_;have ag:i<eq O:=qo
  have gw:O.drop i=O[i]::O.drop (i+1):=aaI ag;have aq:=ma ag;rw[gw]at hT;unfold Nd.asks at hT;refine au ?_;refine ej 0 i I I I xT aq fun a4 ae=>?_;refine ld 0 I (.inl I) (ae.le X) ?_;refine au ?_;obtain⟨M,hM⟩:∃M:bg,M={bg.zero with kind:=1,to:=O[i],idx:=N.last,lt:=(N.Ka N.last).1}:=⟨_,rfl⟩;refine bd 4 (.agg (mv M ⟨none,0,none,0,none,0⟩)) I (fun w=>by rw[hM];kernel_rfl) ?_;rw[<-hM]at hT;have aD:=oi.rb.out;refine cl 0 I (Ek [_] (jS Ii qo M ⟨none,0,none,0,none,0⟩ (by rw[hM];exact⟨fE.nil _ _ _,aj.nil _ _ _ _,aj.nil _ _ _ _⟩))) ?_;rintro bB am aS ⟨_,_,_,rfl,⟨s3,rfl,cU,I4⟩,rfl⟩;refine au ?_;refine cZ i ?_;exact bn (x:=(i,Ri,Ki,si,li,gi)) (i+1,_,am,s3,_,_) ⟨I,I,I,I,I,I,I,trivial⟩ I I ⟨qo,hT,oi.r (oi.rb.Nl N M),I4,X.trans cU⟩ qo
 refine au ?_;obtain rfl:i=eq O:=qo
 rw[aa6]at hT;unfold Nd.asks at hT;subst hT;refine au ?_;refine cl 0 I (Ek [_] (EF Ii oi qo qo vs az ao cap (((x.le V).le Y).le X))) ?_;rintro bV a3 aV ⟨_,_,_,rfl,⟨s4,rfl,aA,I5⟩,rfl⟩;refine fin 1 I (ac0 (Bh ?_));exact af I I ⟨_,_,_,I,⟨s4,I,((V.trans Y).trans X).trans aA,I5⟩,I⟩
def OO(iN:cX K rb lb db R L D s lh g)(o:NI c q z k R L D)(hc:c<=700000000)(hk:k<=3200000)(d)(hd:d<2^64):
  gc w0 K hs rb lb db R s lh g 121 [Rp rb,.int .u64 (d:Nat)] (R.idle L D d).1 (R.idle L D d).2.1 (R.idle L D d).2.2.1 (.int .i64 (R.idle L D d).2.2.2):=by
 have aD:=o.rb.el;have ab:gf L.cfg.1:=jB o.rn.lb o.cf L.last;have U:=ab.len;unfold Nd.idle;have o1:NI c q z (k+1) (R.Ro d) L D:=o.r (o.rb.Ro d);refine ent Tryz.func121 ?_;refine acY ?_;refine fin 1 I (th ?_);refine jn (σ:=Unit) (fun _=>[(0,Rp rb)]) (fun _=>pt rb (aH lb {R with wt:=if R.wt=0 then((10+d%22:Nat):Int)else R.wt} s) RT::lh::g::hs) (fun _=>True) ?_ ?_
 ·refine au ?_;refine aw 0 I fun az Y=>?_;refine fin 0 I (th (ax Y I (fun e2=>?_) (fun e2=>?_)))
  ·refine rg ?_;refine cl 2 I (BI d hd) ?_;rintro aE ap ae ⟨rfl,rfl,rfl⟩;refine Ji 2 0 I I I I ?_;refine Ez 0 (pt rb (aH lb {R with wt:=((10+d%22:Nat):Int)} s) RT) ?_;refine fin 0 I ?_;exact jx () trivial sb I (by rw[aab e2])
  refine sk ?_;exact jx () trivial sb I (by rw[aaa e2])
 rintro _ _;refine au ?_;refine ar 0 I (ba (x:=R.el+1) qo) ?_;refine Ji 2 0 I I I I ?_;refine Ez 0 (pt rb (aH lb (R.Ro d) s) RT) ?_;refine au ?_;refine cl 1 I (Cp [] (m6 o1 qo iN.l)) ?_;rintro aF X ag ⟨_,lh,rfl,rfl,rfl,J,ao,cap,rfl,x⟩;have N:cX X rb lb db (R.Ro d) L D s lh g:=⟨iN.l.le J,(iN.g.le J).r⟩;have V:(R.Ro d).nd=R.nd:=rfl;generalize R.Ro d=O at o1 N V⊢;rw[<-V];refine al 3 (.agg Ij) I qk fun b5=>?_;refine bA 0 0 I I qk I I ?_;refine Ew (pt b5 #[.slice ao (eq L.cfg.1) cap] 46::pt rb (aH lb O s) RT::lh::g::hs) I ?_;refine au ?_;refine bC [1,0] 23 [0,2,4,6,8,10,12,14,16,18,20,22,24,26,28,31,32,34,36,38,41,42,44] ?_;refine au ?_;refine dP qk 0 (O.el<O.wt) I Q8 (fun Z=>?_) (fun Z=>?_)
 ·rw[aab (.inl Z)];refine aB qk 6 I ?_;refine Bc 1 I ?_;refine aP Q8 I ?_;refine aB qk 4 I ?_;refine Bc 1 I ?_;refine aP Q8 I ?_;refine aI qk 2 I (th (dk I (acY ?_)));refine fin 1 I (ac0 (rT (Bh ?_)));exact af I I ⟨_,_,_,I,⟨s,I,J,N⟩,I⟩
 refine au ?_;refine cl 0 I (tV (.inl I) ao cap L.cfg.1 x qo O.nd) ?_;rintro aL aq ak ⟨rfl,rfl,rfl⟩;refine aP Q8 I ?_
 by_cases hv:O.nd∈L.cfg.1
 ·rw[decide_eq_true hv];refine au ?_;refine cl 0 I (Cp [_] (iI N.l)) ?_;rintro aN av am ⟨_,lh,rfl,rfl,rfl,rfl,rfl⟩;refine aP Q8 I ?_;refine dU qk 0 (de<=L.kt) I (by unfold de;simp;omega) fun aA aa=>?_;refine au ?_;refine ax aa I (fun h4=>?_) (fun h4=>?_)
  ·rw[aab (.inr (.inr h4))];refine acY ?_;refine fin 1 I (ac0 (rT (Bh ?_)));exact af I I ⟨_,_,_,I,⟨s,I,J,N⟩,I⟩
  rw[aaa (by simp[Z,hv,h4])];refine au ?_;refine cl 0 I (Ek [_] (MI N o1 hc qo qo L.cfg.1 U ao cap x)) ?_;rintro aO ay an ⟨_,_,_,rfl,⟨s2,rfl,ad,I2⟩,rfl⟩;refine fin 1 I (ac0 (Bh ?_));exact af I I ⟨_,_,_,I,⟨s2,I,J.trans ad,I2⟩,I⟩
 rw[decide_eq_false hv,aab (.inr (.inl hv))];refine aB qk 4 I ?_;refine Bc 1 I ?_;refine aP Q8 I ?_;refine aI qk 2 I (th (dk I (acY ?_)));refine fin 1 I (ac0 (rT (Bh ?_)));exact af I I ⟨_,_,_,I,⟨s,I,J,N⟩,I⟩
def O1(J:cX K rb lb db R L D s lh g)(o:NI c q z k R L D)(Z:c<=900000000)(hk:k<=5600000)(d):
  gc w0 K hs rb lb db R s lh g 122 [Rp rb,.int .u64 (d:Nat)] (R.Sw L) L D (.int .i64 0):=by
 have aa:=o.rb.el;unfold Nd.Sw;refine ent Tryz.func122 ?_;refine au ?_;refine ar 0 I (ba (x:=R.el+1) qo) ?_;refine Ji 2 0 I I I I ?_;refine Ez 0 (pt rb (aH lb {R with el:=R.el+1} s) RT) ?_;refine au ?_;refine aw 0 I fun Y N=>?_;refine fin 0 I (th (ax N I (fun e2=>?_) (fun e2=>?_)))
 ·rw[aab e2];refine acY ?_;refine Ji 3 0 I I I I ?_;refine Ez 0 (pt rb (aH lb {R with el:=0} s) RT) ?_;refine au ?_;refine cl 1 I (um (R:={R with el:=0}) ⟨J.l,J.g.r⟩ (o.r o.rb.T6) Z qo true) ?_;rintro ab X U ⟨_,_,_,rfl,⟨s2,rfl,O,V⟩,rfl⟩;refine au ?_;exact af I I ⟨_,_,_,I,⟨s2,I,O,V⟩,I⟩
 rw[aaa e2];refine au ?_;exact af I I ⟨_,_,_,I,⟨s,I,Cg _,J.l,J.g.r⟩,I⟩
def EZ(O:cX K rb lb db R L D s lh g)(o:NI c q z k R L D)(hc:c<=700000000)(hk:k<=3200000)(d)(hd:d<2^64):
  gc w0 K hs rb lb db R s lh g 29 [Rp rb,.int .u64 (d:Nat)] (R.tick L D d).1 (R.tick L D d).2.1 (R.tick L D d).2.2.1 (.int .i64 (R.tick L D d).2.2.2):=by
 have ad:=o.rb.role;have Y:s.f0=gu rb/\s.f1=gu rb/\s.f2=kK rb:=by obtain⟨_,_,_,_,_,G⟩:=O.g;exact G.f
 unfold Nd.tick;refine ent Tryz.func29 ?_;refine au ?_;refine fw I (fun X=>?_) (fun X=>?_)
 ·rw[aab X];refine au ?_;exact af I I ⟨_,_,_,I,⟨s,I,Cg _,O⟩,I⟩
 rw[aaa (by simp[X])];refine sk (th (sq (bC [0] 10 [0,2,4,6,8,10,12,14,16,18,21,22] ?_)));refine dA [8,7] qk 4 0 I qk I I ?_
 by_cases Z:R.role=2
 ·rw[aab Z];refine qm (sz:=1) (a:=⟨rb,51,none⟩) qk 2 2 I Tryz.underlying104 qk Z qo ?_;refine bR qk 0 0 (v:=kK rb) I qk I (by rw[<-Y.2.2];rfl) ?_;refine au ?_;refine cl 0 I (O1 O o qo qo d) ?_;rintro aa V N ⟨_,_,_,rfl,⟨s2,rfl,J,U⟩,rfl⟩;refine au ?_;exact af I I ⟨_,_,_,I,⟨s2,I,J,U⟩,I⟩
 rw[aaa Z];obtain⟨j,hj,ab⟩:∃j:Nat,R.role=(j:Int)/\j<2:=⟨R.role.toNat,qo,qo⟩;refine qm (sz:=1) (a:=⟨rb,51,none⟩) qk 2 j I Tryz.underlying104 qk hj qo ?_;rw[bf,aaf]
 refine bR qk 0 0 (v:=gu rb) I qk I (by
  obtain rfl|rfl:j=0\/j=1:=qo
  ·rw[<-Y.1];rfl
  rw[<-Y.2.1];rfl) ?_
 refine au ?_;refine cl 0 I (OO O o hc hk d hd) ?_;rintro aa V N ⟨_,_,_,rfl,⟨s2,rfl,J,U⟩,rfl⟩;refine au ?_;exact af I I ⟨_,_,_,I,⟨s2,I,J,U⟩,I⟩
end
end
section
section
variable {w0:World}{K lh g:PH}{hs:Ac}{rb lb db c q z k:Nat}{R:Nd}{L:Lg}{D:Dk}{s:NS}
def MU(iN:cX K rb lb db R L D s lh g)(o:NI c q z k R L D)(hc:c<=700000000)(t)(ht:t<=ac):
  gc w0 K hs rb lb db R s lh g 72 [Rp rb,.int .u64 (t:Nat)] (R.raise L D t).1 (R.raise L D t).2.1 (R.raise L D t).2.2.1 (.int .i64 (R.raise L D t).2.2.2):=by
 unfold Nd.raise;have J:=fun(hs':Ac)=>xi (w0:=w0) (hs:=hs') lb db L D c o.rn.lb qo o.rn.ok iN.l t (-1) ht qo;generalize L.Jc D t (-1)=A at J⊢;obtain⟨L1,D1,c1⟩:=A;dsimp only at J⊢;refine ent Tryz.func72 ?_;refine au ?_;refine bd 1 (.agg #[.int .u64 (t:Nat),.int .i64 (-1)]) I Aq ?_;refine cl 0 I (Er 1 I (J _)) ?_;rintro ag ab Z ⟨Y,rfl,N,O,rfl⟩;refine Ew (pt rb (aH lb R s) RT::Y::g::hs) I ?_;refine cl 0 I (Ek [] (my (lh:=Y) (iN.g.le N) c1)) ?_;rintro ak ad aa ⟨_,lh,g1,rfl,rfl,⟨X,rfl,U⟩,rfl,rfl⟩;refine au ?_;refine aw 1 I fun ae V=>?_;refine fin 0 I (th (ax V I (fun e2=>?_) (fun e2=>?_)))
 ·subst e2;rw[aab rfl];rw[show R.did 0=R from rfl]at U⊢;refine rg ?_;refine Ji 4 0 I I I I ?_;refine Ji 2 0 I I I I ?_;refine Ez 0 (pt rb (aH lb {R with role:=0,lead:=-1} X) RT) ?_;refine au ?_;exact af I I ⟨_,_,_,I,⟨X,I,N,O,U.r⟩,I⟩
 rw[aaa e2];refine au ?_;exact af I I ⟨_,_,_,I,⟨X,I,N,O,U⟩,I⟩
def KC:ai w0 71 [Rp rb] K (pt rb (aH lb R s) RT::hs) (fun v O hs'=>∃a,hs'=a::hs/\O=K/\a=pt rb (aH lb R s) RT/\v=.bool R.content):=by
 unfold Nd.content;refine ent Tryz.func71 ?_;refine au ?_;refine bC [0] 21 [0,2,4,6,8,10,12,14,16,18,20,22,24,26,28,30,33,34,36,38,40] ?_;refine au ?_;refine dP qk 0 (R.role=2) I Q8 (fun J=>?_) (fun J=>?_)
 ·refine aB qk 11 I ?_;refine Bc 1 I ?_;refine aP Q8 I ?_;refine aI qk 4 I (ac0 ?_);exact af I I ⟨_,I,I,I,by rw[decide_eq_true (.inl J)]⟩
 refine au ?_;refine dP qk 0 (0<=R.lead) I Q8 (fun X=>?_) (fun X=>?_)
 ·refine au ?_;refine cl 0 I (BI 0 qo) ?_;rintro Z U N ⟨rfl,rfl,rfl⟩;refine aP Q8 I ?_;refine dU qk 0 (R.el<10) I Q8 fun V Y=>?_;refine au ?_;refine af I I ⟨_,I,I,I,?_⟩
  grind
 refine aB qk 5 I ?_;refine Bc 1 I ?_;refine aP Q8 I ?_;refine aI qk 4 I (ac0 ?_);exact af I I ⟨_,I,I,I,by rw[decide_eq_false qo]⟩
def MJ(Y:cX K rb lb db R L D s lh g)(ho:eq R.out<=7200000)(m p):
  gc w0 K hs rb lb db R s lh g 73 [Rp rb,.agg (mv m p)] (R.Rx L m) L D (.tuple #[]):=by
 unfold Nd.Rx;refine ent Tryz.func73 ?_;refine acY ?_;refine bx 0 I fun b3=>?_;refine au ?_;refine aw 0 I fun b7 h7=>?_;refine fin 1 I (th (ax h7 I (fun e2=>?_) (fun e2=>?_)))
 ·rw[aab e2];refine au ?_;refine bd 0 (.agg (mv {bg.zero with kind:=2,to:=m.Jl} ⟨none,0,none,0,none,0⟩)) I Aq ?_;refine cl 0 I (Ek [_] (jS Y qo _ _ ⟨fE.nil _ _ _,aj.nil _ _ _ _,aj.nil _ _ _ _⟩)) ?_;rintro an ag ad ⟨_,_,_,rfl,⟨V,rfl,J,N⟩,rfl⟩;refine fin 0 I (bl (Bh ?_));exact bZ I ⟨_,_,_,I,⟨V,I,J,N⟩,I⟩
 rw[aaa e2];have ae:∀(e:m.kind=3\/m.kind=5),True:=fun _=>trivial;refine sq (acY ?_);refine aw 0 I fun ak O=>?_;refine fin 1 I (th (ax O I (fun X=>?_) (fun X=>?_)))
 ·rw[aab (.inl X)];refine sk (th (uZ O X I (rg ?_)));refine au ?_;refine bd 0 (.agg (mv {bg.zero with kind:=4,to:=m.Jl} ⟨none,0,none,0,none,0⟩)) I Aq ?_;refine cl 0 I (Ek [_] (jS Y qo _ _ ⟨fE.nil _ _ _,aj.nil _ _ _ _,aj.nil _ _ _ _⟩)) ?_;rintro ab Z U ⟨_,_,_,rfl,⟨V,rfl,J,N⟩,rfl⟩;refine fin 0 I (bl (Bh ?_));exact bZ I ⟨_,_,_,I,⟨V,I,J,N⟩,I⟩
 refine rg ?_;refine aw 0 I fun am aa=>?_;refine fin 1 I (th (ax aa I (fun e6=>?_) (fun e6=>?_)))
 ·rw[aab (.inr e6)];refine au ?_;refine bd 0 (.agg (mv {bg.zero with kind:=4,to:=m.Jl} ⟨none,0,none,0,none,0⟩)) I Aq ?_;refine cl 0 I (Ek [_] (jS Y qo _ _ ⟨fE.nil _ _ _,aj.nil _ _ _ _,aj.nil _ _ _ _⟩)) ?_;rintro ab Z U ⟨_,_,_,rfl,⟨V,rfl,J,N⟩,rfl⟩;refine fin 0 I (bl (Bh ?_));exact bZ I ⟨_,_,_,I,⟨V,I,J,N⟩,I⟩
 rw[aaa (by simp[X,e6])];refine sk (bl (Bh ?_));exact bZ I ⟨_,_,_,I,⟨s,I,Cg _,Y⟩,I⟩
def ua(ht hv t cd nw):ai w0 138 [.agg #[.int .u64 (ht:Nat),.int .i64 hv],.int .u64 (t:Nat),.int .i64 cd,.bool nw] K hs
  (Ap K hs (.tuple #[.agg #[.int .u64 (((i6 ht hv t cd nw).1.1:Nat):Int),.int .i64 (i6 ht hv t cd nw).1.2],.bool (i6 ht hv t cd nw).2])):=by
 unfold i6;refine ent Tryz.func138 ?_;refine acY ?_;refine bx 0 I fun Y=>?_;refine al 0 (.agg Im) I qk fun Z=>?_;refine au ?_;refine aw 0 I fun aa N=>?_;refine fin 0 I (th (ax N I (fun e2=>?_) (fun e2=>?_)))
 ·rw[aab qo];refine au ?_;exact gk 0 2 I I I I qk ⟨I,I,I⟩
 rw[aaa qo];dsimp only;obtain⟨⟨h1,h2⟩,J⟩:∃x,x=if ht<t then(t,(-1:Int))else(ht,hv):=⟨_,rfl⟩;rw[<-J];refine sk (th ?_);refine jn (σ:=Unit) (fun _=>[(2,.int .i64 cd),(3,.bool nw),(4,Rp Y),(8,Rp Z)]) (fun _=>pt Z Im 112::pt Y #[.int .u64 h1,.int .i64 h2] 112::hs) (fun _=>True) ?_ ?_
 ·refine au ?_;refine aw 0 I fun ab O=>?_;refine fin 0 I (th (ax O I (fun e4=>?_) (fun e4=>?_)))
  ·rw[aab qo]at J;cases J;refine rg ?_;refine bd 1 (.agg #[.int .u64 (t:Nat),.int .i64 (-1)]) I Aq ?_;refine bA 0 1 I I qk I I ?_;refine fin 0 I ?_;exact jx () trivial sb I I
  rw[aaa qo]at J;cases J;refine sk ?_;exact jx () trivial sb I I
 rintro _ _;cases nw with
 |false=>
  rw[aab (.inl rfl)];refine au ?_;exact gk 0 2 I I I I qk ⟨I,I,I⟩
 |true=>
  refine au ?_;refine aw 0 I fun ad U=>?_
  refine' eQ (q:=h2≠cd) 1 5 32 [26,27] U I I I I I I I (fun _=>?x6) (fun ag X=>?_)
  case x6=>
   refine au ?_;refine aw 1 I fun ae V=>?_;exact fin 1 I (bJ V I I I)
  refine fin 1 I<|th (ax X I (fun h8=>?_) (fun h8=>?_))
  ·rw[aab (.inr h8)];refine au ?_;exact gk 0 2 I I I I qk ⟨I,I,I⟩
  rw[aaa Au];refine au ?_;exact gk 0 2 I I I I qk ⟨I,I,I⟩
def NN(iN:cX K rb lb db R L D s lh g)(o:NI c q z k R L D)(hc:c<=700000000)(hk:k<=4000000)(m)(hb:m.bd)(hf:0<=m.Jl/\m.Jl<7)(p):
  gc w0 K hs rb lb db R s lh g 74 [Rp rb,.agg (mv m p)] (R.asked L D m).1 (R.asked L D m).2.1 (R.asked L D m).2.2.1 (.int .i64 (R.asked L D m).2.2.2):=by
 have Z:=o.last qo;have aE:=o.rb.out;have az:=o.rn.lb.kt;have a1:=o.rn.lb.kv;unfold Nd.asked;obtain⟨J,N⟩:=a9 (i6 L.kt L.kv m.term m.Jl (jp m.lt m.idx (L.Ka L.last).1 L.last));rw[<-N];dsimp only;refine ent Tryz.func74 ?_;refine acY ?_;refine bx 0 I fun b3=>?_;refine au ?_;refine cl 0 I (Ck 2 I (mp lb db L D c o.rn.lb qo iN.l)) ?_;rintro a2 aR aF ⟨rfl,rfl,rfl⟩;refine au ?_;refine cl 1 I (Ck 2 I (nr lb db L D c o.rn.lb qo iN.l (L.sn.idx+eq L.l) (by unfold Lg.last de at Z;omega))) ?_;rintro a3 aS aL ⟨rfl,rfl,rfl⟩;refine fin 5 I (th ?_);refine jn (σ:=Nat) (fun O=>[(0,Rp rb),(3,Rp b3),(8,Rp O),(9,.bool J.2)]) (fun O=>pt O #[.int .u64 J.1.1,.int .i64 J.1.2] 112::pt b3 (mv m p) 34::pt rb (aH lb R s) RT::lh::g::hs) (fun _=>True) ?_ ?_
 ·refine bC [1,0] 21 [0,2,4,6,10,12,14,16,18,20,22,24,26,28,9,31,33,34,36,38,41,43,44] ?_;refine bR qk 3 0 I qk I I ?_;refine bR qk 1 1 I qk I I ?_;refine bR qk 1 1 I qk I I ?_;refine bR qk 1 1 I qk I I ?_;refine bR qk 1 1 I qk I I ?_;refine rX 20 qk 2 [9,31,33,34,36,38,43,44] I qk ?_ ?_
  ·refine cl 0 I (Ck 2 I (zf lb db L D iN.l)) ?_;rintro aA aq am ⟨rfl,rfl,rfl⟩;refine aP Q8 I ?_;refine rX 20 qk 0 [31,33,34,36,38,43,44] I qk ?_ ?_
   ·refine cl 0 I (yj m.lt m.idx (L.Ka L.last).1 L.last) ?_;rintro ap ae X ⟨rfl,rfl,rfl⟩;refine aP Q8 I ?_;refine rX 20 qk 0 [33,34,36,38,43,44] I qk ?_ ?_
    ·refine cl 0 I (ua L.kt L.kv m.term m.Jl (jp m.lt m.idx (L.Ka L.last).1 L.last)) ?_;rintro ad Y U ⟨rfl,rfl,rfl⟩;rw[<-N];refine aP Q8 I ?_;refine aB qk 3 I ?_;refine al 0 (.agg Im) I qk fun O=>?_;refine aP Q8 I ?_;refine aB qk 0 I ?_;refine bA 0 0 I I qk I I ?_;refine aP Q8 I ?_;refine aI qk 1 I ?_;exact jx O trivial sb I I
    refine al 0 (.agg Im) I qk fun O=>?_;refine aP Q8 I ?_;refine aB qk 0 I ?_;refine cl 0 I (ua L.kt L.kv m.term m.Jl (jp m.lt m.idx (L.Ka L.last).1 L.last)) ?_;rintro ad Y U ⟨rfl,rfl,rfl⟩;rw[<-N];refine aP Q8 I ?_;refine aB qk 3 I ?_;refine bA 0 0 I I qk I I ?_;refine aP Q8 I ?_;refine aI qk 1 I ?_;exact jx O trivial sb I I
   refine al 0 (.agg Im) I qk fun O=>?_;refine aP Q8 I ?_;refine aB qk 0 I ?_;refine cl 0 I (yj m.lt m.idx (L.Ka L.last).1 L.last) ?_;rintro ap ae X ⟨rfl,rfl,rfl⟩;refine aP Q8 I ?_;refine aB qk 0 I ?_;refine cl 0 I (ua L.kt L.kv m.term m.Jl (jp m.lt m.idx (L.Ka L.last).1 L.last)) ?_;rintro ad Y U ⟨rfl,rfl,rfl⟩;rw[<-N];refine aP Q8 I ?_;refine aB qk 3 I ?_;refine bA 0 0 I I qk I I ?_;refine aP Q8 I ?_;refine aI qk 1 I ?_;exact jx O trivial sb I I
  refine al 0 (.agg Im) I qk fun O=>?_;refine aP Q8 I ?_;refine aB qk 0 I ?_;refine cl 0 I (Ck 3 I (zf lb db L D iN.l)) ?_;rintro aA aq am ⟨rfl,rfl,rfl⟩;refine aP Q8 I ?_;refine aB qk 0 I ?_;refine cl 0 I (yj m.lt m.idx (L.Ka L.last).1 L.last) ?_;rintro ap ae X ⟨rfl,rfl,rfl⟩;refine aP Q8 I ?_;refine aB qk 0 I ?_;refine cl 0 I (ua L.kt L.kv m.term m.Jl (jp m.lt m.idx (L.Ka L.last).1 L.last)) ?_;rintro ad Y U ⟨rfl,rfl,rfl⟩;rw[<-N];refine aP Q8 I ?_;refine aB qk 3 I ?_;refine bA 0 0 I I qk I I ?_;refine aP Q8 I ?_;refine aI qk 1 I ?_;exact jx O trivial sb I I
 intro O _;have ak:J.1.1<=ac:=by rw[N];exact xI az hb.term
 have a0 : -1<=J.1.2/\J.1.2<7:=by
  rw[N];unfold i6
  grind
 refine au ?_;refine fw I (fun h1=>?_) (fun h1=>?_)
 ·rw[aab h1];have a:=o.Jc J.1.1 J.1.2 ak;have aa:=fun(hs':Ac)=>xi (w0:=w0) (hs:=hs') lb db L D c o.rn.lb qo o.rn.ok iN.l J.1.1 J.1.2 ak qo;generalize L.Jc D J.1.1 J.1.2=A at a aa⊢;obtain⟨L1,D1,c1⟩:=A;dsimp only at a aa⊢;refine sq (bC [2,0] 7 [0,2,4,6,8,10,13,15,16] ?_);refine dA [6] qk 4 0 I qk I I ?_;refine Ga [6] qk 0 1 I qk I qk ?_;refine au ?_;refine cl 0 I (Er 3 I (aa _)) ?_;rintro a4 aT aN ⟨h2,rfl,V,ag,rfl⟩;refine Ew (pt O #[.int .u64 J.1.1,.int .i64 J.1.2] 112::pt b3 (mv m p) 34::pt rb (aH lb R s) RT::h2::g::hs) I ?_;refine dX Q8 V ?_;refine au ?_;refine cl 0 I (Ek [_,_] (my (lh:=h2) (iN.g.le V) c1)) ?_;rintro a5 aV aO ⟨_,lh,g1,rfl,rfl,⟨s1,rfl,G1⟩,rfl,rfl⟩;refine au ?_;refine aw 1 I fun aY ay=>?_;refine fin 0 I (th (ax ay I (fun e3=>?_) (fun e3=>?_)))
  ·rw[aab e3];refine acY ?_;refine fin 2 I (ac0 (rT (rT (Bh (Bh ?_)))));exact af I I ⟨_,_,_,I,⟨s1,I,V,ag,G1⟩,I⟩
  obtain rfl:c1=0:=aag.1 e3;rw[aaa Q8];rw[show R.did 0=R from rfl]at G1⊢;refine sk (acX ?_);refine Ji 4 2 I I I I ?_;refine Ji 2 2 I I I I ?_;refine Ez 2 (pt rb (aH lb {R with el:=0,wt:=0} s1) RT) ?_;refine au ?_;refine bd 1 (.agg (mv {bg.zero with kind:=2,to:=m.Jl,Jj:=J.2} ⟨none,0,none,0,none,0⟩)) I Aq ?_;rw[h1];refine cl 0 I (Ek [_,_] (jS (R:={R with el:=0,wt:=0}) ⟨ag,G1.r⟩ (by show eq R.out<=_;omega) _ _ ⟨fE.nil _ _ _,aj.nil _ _ _ _,aj.nil _ _ _ _⟩)) ?_;rintro aD av an ⟨_,_,_,rfl,⟨s2,rfl,ab,I2⟩,rfl⟩;refine fin 0 I (acV ?_);refine fin 1 I (ac0 (Bh (Bh ?_)));exact af I I ⟨_,_,_,I,⟨s2,I,V.trans ab,I2⟩,I⟩
 rw[aaa (by simp[h1])];refine au ?_;refine bd 1 (.agg (mv {bg.zero with kind:=2,to:=m.Jl,Jj:=J.2} ⟨none,0,none,0,none,0⟩)) I Aq ?_;rw[h1];refine cl 0 I (Ek [_,_] (jS iN qo _ _ ⟨fE.nil _ _ _,aj.nil _ _ _ _,aj.nil _ _ _ _⟩)) ?_;rintro aD av an ⟨_,_,_,rfl,⟨s2,rfl,ab,I2⟩,rfl⟩;refine fin 0 I (acV ?_);refine fin 1 I (ac0 (Bh (Bh ?_)));exact af I I ⟨_,_,_,I,⟨s2,I,ab,I2⟩,I⟩
end
end
section
section
variable {w0:World}{K lh g:PH}{hs:Ac}{rb lb db c q z k:Nat}{R:Nd}{L:Lg}{D:Dk}{s:NS}
def Mn(iN:cX K rb lb db R L D s lh g)(o:NI c q z k R L D)(hc:c<=700000000)(hk:k<=4000000)(m p):
  gc w0 K hs rb lb db R s lh g 75 [Rp rb,.agg (mv m p)] (R.Qe L D m).1 (R.Qe L D m).2.1 (R.Qe L D m).2.2.1 (.int .i64 (R.Qe L D m).2.2.2):=by
 have am:gf L.cfg.1:=jB o.rn.lb o.cf L.last;have aF:=o.rb.yes;unfold Nd.Qe;refine ent Tryz.func75 ?_;refine acY ?_;refine bx 0 I fun b3=>?_;refine au ?_;refine aw 0 I fun az ae=>?_
 refine' dB (q:=m.Jj=false) 1 4 16 [11,12] ae I I I I I I I (fun _=>?x2) (fun aD ak=>?_)
 case x2=>
  refine aX 1 0 I I I ?_;refine cG 0 (m.Jj=false) I Q8 fun aA ag=>?_;exact fin 1 I (bJ ag I I I)
 refine fin 0 I<|th (ax ak I (fun e3=>?_) (fun e3=>?_))
 ·rw[aab e3];refine acY ?_;refine fin 1 I (ac0 (rT (Bh ?_)));exact af I I ⟨_,_,_,I,⟨s,I,Cg _,iN⟩,I⟩
 rw[aaa e3];refine sk (acV ?_);refine cl 1 I (Cp [_] (m6 o qo iN.l)) ?_;rintro aL ab aq ⟨_,lh,rfl,rfl,rfl,Z,ao,cap,rfl,x⟩;refine al 3 (.agg Ij) I qk fun b5=>?_;refine bA 0 0 I I qk I I ?_;have I1:=iN.le Z;obtain⟨hL,hy,hd,hq,rfl,dj,⟨⟨aY,cY,eY,oY⟩,v,d,ou,f⟩⟩:=I1;obtain⟨sy,sv,sd,so,f0,f1,f2⟩:=s;dsimp only at eY v d ou f;subst eY;refine Ew (pt b5 #[.slice ao (eq L.cfg.1) cap] 46::pt b3 (mv m p) 34::pt rb (aH lb R ⟨.slice aY (eq R.yes) cY,sv,sd,so,f0,f1,f2⟩) RT::lh::dt [hy,hd,hq]::hs) I ?_;refine Bi (aak [_,_,_,_] [_] hs) (Be dj ?_);refine au ?_;refine bC [5,4] 11 [0,2,4,6,8,10,12,15,17,18,20,23] ?_;refine au ?_;refine lit 0 #[.int .i64 m.Jl] I Q9 qk fun Y=>?_;refine aP Q8 I ?_;refine aB qk 0 I ?_;have xm:aj (pt Y #[.int .i64 m.Jl] 3) (some ⟨Y,0,none⟩) 1 1 1 [.int .i64 m.Jl]:=(aJ.Re (b:=Y) (c:=#[.int .i64 m.Jl]) (e:=3) (n:=1) (size:=1) rfl Q9).Ni
 refine app 0 1 I I oY (.inr ⟨0,I⟩) xm I Q9 (by simp;rfl) (by show(eq R.yes+1)*8<=_;omega) (by simp[maxLen];omega) fun N V X ap=>?_;refine aP Q8 I ?_;refine aB qk 2 I ?_;refine Ji 0 6 I I I I ?_;obtain⟨O,J⟩:∃O:Nd,O={R with yes:=R.yes++[m.Jl]}:=⟨_,rfl⟩;have U:eq O.yes=eq R.yes+1:=by rw[J];simp
 have o1:NI c q z (k+1) O L D:=by
  rw[J];exact o.r {o.rb.up (aaq k)with yes:=by simp_all}
 rw[<-J];have aE:(eq R.yes+1)=eq O.yes:=U.symm
 have aa:aJ X N (eq O.yes) V 3 1 (iv O.yes):=by
  rw[U,J];simpa[iv]using ap
 refine Ez 6 (pt rb (aH lb O ⟨.slice N (eq O.yes) V,sv,sd,so,f0,f1,f2⟩) RT) ?_ (.there (.there (.there (.there (.there (.there (.here (by rw[U,J];rfl))))))));refine bQ (.inl qk) ?_;refine aI qk 0 I (th (Bg (WC.join [X,hd,hq] fun ad=>Bj (aak [_] [_,_,_,_] hs) ?_)));have G1:iq ab rb O ⟨.slice N (eq O.yes) V,sv,sd,so,f0,f1,f2⟩ (dt [X,hd,hq]):=⟨X,hd,hq,rfl,ad,⟨N,V,rfl,aa⟩,by rw[J];exact v,by rw[J];exact d,by rw[J];exact ou,f⟩;refine au ?_;refine cl 0 I (Ek [_,_] (EF ⟨hL,G1⟩ o1 qo qo L.cfg.1 am.len ao cap x)) ?_;rintro aN ay av ⟨_,_,_,rfl,⟨s2,rfl,an,I2⟩,rfl⟩;refine fin 1 I (ac0 (Bh (Bh ?_)));exact af I I ⟨_,_,_,I,⟨s2,I,Z.trans an,I2⟩,I⟩
def KG(o:NI c q z k R L D)(hc:c<=700000000)(hL:dV K lb db L D lh)(m)(hb:m.bd)(p)(hS:dF K m p):
  ai w0 141 [Rp rb,.agg (mv m p)] K (pt rb (aH lb R s) RT::lh::hs) (fun v K' hs'=>∃a b,hs'=a::b::hs/\K'=K/\a=pt rb (aH lb R s) RT/\b=lh/\v=.bool (R.RQ L m)):=by
 have xs:=hS.1.SL;obtain⟨ys,ab⟩:=xs.Ni;have aN:=hb.Tk;refine ent Tryz.func141 ?_;refine acY ?_;refine bx 0 I fun Y=>?_;refine au ?_;refine bC [1,0] 12 [0,2,4,6,8,10,13,14,16,18,20,22] ?_;refine au ?_;refine cl 0 I (Ck 2 I (nr lb db L D c o.rn.lb qo hL m.idx (by have:=hb.idx;unfold ac at this;omega))) ?_;rintro aO ad av ⟨rfl,rfl,rfl⟩;obtain⟨⟨tt,tb⟩,ht⟩:∃x,x=L.Ka m.idx:=⟨_,rfl⟩;rw[show Ka L.sn L.l m.idx=(tt,tb)from ht.symm];refine aP Q8 I ?_;refine aI qk 5 I (th ?_);have N:lK L R.Je m.idx m.lt=(decide (m.idx<=R.Je)&&(tb&&decide (tt≠m.lt))):=by unfold lK;rw[<-ht]
 refine jn (σ:=Unit) (fun _=>[(0,Rp rb),(3,Rp Y),(4,.bool false)]) (fun _=>pt Y (mv m p) 34::pt rb (aH lb R s) RT::lh::hs) (fun _=>lK L R.Je m.idx m.lt=false) ?_ ?_
 ·refine sq (bC [1,0] 16 [0,2,4,6,8,10,12,14,16,18,20,22,24,26,28,30] ?_);refine au ?_;refine dP qk 0 (m.idx<=R.Je) I Q8 (fun V=>?_) (fun V=>?_)
  ·cases tb with
   |true=>
    refine au ?_;refine dU qk 0 (tt≠m.lt) I Au fun aD ag=>?_;refine au ?_;refine ax ag I (fun X=>?_) (fun X=>?_)
    ·refine acY ?_;refine fin 1 I (ac0 (rT (Bh ?_)));exact af I I ⟨_,_,I,I,I,I,by unfold Nd.RQ;rw[N];simp[V,X]⟩
    refine sk ?_;exact jx () (by rw[N];simp[X]) sb rfl rfl
   |false=>
    refine aI qk 9 I (th (bP I (sk ?_)));exact jx () (by rw[N];simp) sb rfl rfl
  refine aI qk 9 I (th (bP I (sk ?_)));exact jx () (by rw[N];simp[V]) sb rfl rfl
 rintro _ aL;refine au ?_
 refine loop (σ:=Nat) (fun j=>[(0,Rp rb),(3,Rp Y),(4,.bool false),(38,.slice p.ae (eq m.Jg) p.ce),(39,.int .i64 (eq m.Jg)),(40,.int .i64 (j:Nat))]) (fun _=>ad) (fun _=>pt Y (mv m p) 34::pt rb (aH lb R s) RT::lh::hs)
  (fun j=>j<=eq m.Jg/\∀e∈m.Jg.take j,lK L R.Je e.idx e.term=false) (fun j=>eq m.Jg-j) 0 ⟨aad _,Q8⟩ ⟨rfl,rfl,rfl,rfl,rfl,rfl,trivial⟩ rfl rfl ?_
 rintro j ⟨hj,aq⟩;refine acY ?_;refine aw 0 I fun aE ak=>?_;refine au ?_;refine ax ak I (fun e4=>?_) (fun e4=>?_)
 ·have aa:j<eq m.Jg:=qo
  obtain⟨e,he⟩:∃e,m.Jg[j]?=some e:=⟨_,aai aa⟩;have ap:=aam he;obtain⟨q1,q2,q3⟩:=hb.Jg e ap
  have J:lK L R.Je e.idx e.term=false->j+1<=eq m.Jg/\∀e∈m.Jg.take (j+1),lK L R.Je e.idx e.term=false:=fun h=>⟨qo,fun y hy=>by
   rw[aaN,he]at hy
   grind⟩
  obtain⟨a,Z⟩:=xs.addr qo Q9;rw[Z]at xs ab;obtain⟨cc,⟨ae,ce,rfl,xe⟩,_,U⟩:=xs.cells he;refine au ?_;refine dZ 0 j (by rw[Z];rfl) rfl ab aa Q9 fun aA am=>?_;cases am;refine fu 0 (e.v ae ce).toList I qk (.inl I) U ?_;refine al 0 (.agg Il) I qk fun b8=>?_;refine bA 0 0 I I qk I I ?_;refine Ew (pt b8 (e.v ae ce) 51::pt Y (mv m p) 34::pt rb (aH lb R s) RT::lh::hs) (by simp[ah.v]) ?_;refine au ?_;refine bC [2,0] 12 [0,2,4,6,8,10,13,14,16,18,20,22] ?_;refine au ?_;refine cl 0 I (Ck 3 I (nr lb db L D c o.rn.lb qo hL e.idx (by unfold ac at q1;omega))) ?_;rintro aR az ay ⟨rfl,rfl,rfl⟩;obtain⟨⟨ut,ub⟩,hu⟩:∃x,x=L.Ka e.idx:=⟨_,rfl⟩;rw[show Ka L.sn L.l e.idx=(ut,ub)from hu.symm];have O:lK L R.Je e.idx e.term=(decide (e.idx<=R.Je)&&(ub&&decide (ut≠e.term))):=by unfold lK;rw[<-hu]
  refine aP Q8 I ?_;refine aI qk 5 I (th (sq (bC [2,0] 16 [0,2,4,6,8,10,12,14,16,18,20,22,24,26,28,30] ?_)));refine au ?_;refine dP qk 0 (e.idx<=R.Je) I Q8 (fun V=>?_) (fun V=>?_)
  ·cases ub with
   |true=>
    refine au ?_;refine dU qk 0 (ut≠e.term) I Au fun aF an=>?_;refine au ?_;refine ax an I (fun X=>?_) (fun X=>?_)
    ·refine acY ?_;refine fin 1 I (ac0 (rB (rT (rT (rB (rT (Bh (Bh ?_))))))));refine af I I ⟨_,_,I,I,I,I,?_⟩
     grind[Nd.RQ]
    refine sk (acW ?_);refine cZ j (Bh ?_);exact bn (x:=j) (j+1) ⟨I,I,I,by rw[Z];rfl,rfl,rfl,trivial⟩ rfl rfl (J (by rw[O];simp[X])) qo
   |false=>
    refine au ?_;refine cZ j (Bh ?_);exact bn (x:=j) (j+1) ⟨I,I,I,by rw[Z];rfl,rfl,rfl,trivial⟩ rfl rfl (J (by rw[O];simp)) qo
  refine au ?_;refine cZ j (Bh ?_);exact bn (x:=j) (j+1) ⟨I,I,I,by rw[Z];rfl,rfl,rfl,trivial⟩ rfl rfl (J (by rw[O];simp[V])) qo
 obtain rfl:j=eq m.Jg:=qo
 rw[aaG]at aq;refine ex (xt (xt (xb (acV ?_))));refine fin 1 I (ac0 (Bh ?_));refine af I I ⟨_,_,I,I,I,I,?_⟩
 simp_all[Nd.RQ]
end
end
section
def JK(R:Nd)(v p q):(R.Jp v p).Jp v q=R.Jp v q:=by
 simp_all[Nd.Jp]
def DQ(R:Nd)(j:Nat)(p):(R.Jp (j:Int) p).pr j=p:=by rw[DR,aab rfl]
def km(lb)(R:Nd)(s){j:Nat}(hj:j<7)(p){k v}(h:(lZ p [])[k]?=some v):(aH lb (R.Jp (j:Int) p) s)[10+j*5+k]?=some v:=jq lb _ s hj (by rw[DQ];exact h)
def pQ(lb)(R:Nd)(s){j:Nat}(hj:j<7)(p0 p):
  (p.nx=p0.nx/\p.rd=p0.rd/\p.ws=p0.ws/\p.of=p0.of->(aH lb (R.Jp (j:Int) p0) s).setIfInBounds (10+j*5) (.int .u64 p.mt)=aH lb (R.Jp (j:Int) p) s) /\
  (p.mt=p0.mt/\p.rd=p0.rd/\p.ws=p0.ws/\p.of=p0.of->(aH lb (R.Jp (j:Int) p0) s).setIfInBounds (10+j*5+1) (.int .u64 p.nx)=aH lb (R.Jp (j:Int) p) s) /\
  (p.mt=p0.mt/\p.nx=p0.nx/\p.ws=p0.ws/\p.of=p0.of->(aH lb (R.Jp (j:Int) p0) s).setIfInBounds (10+j*5+2) (.int .u64 p.rd)=aH lb (R.Jp (j:Int) p) s) /\
  (p.mt=p0.mt/\p.nx=p0.nx/\p.rd=p0.rd/\p.of=p0.of->(aH lb (R.Jp (j:Int) p0) s).setIfInBounds (10+j*5+3) (.bool p.ws)=aH lb (R.Jp (j:Int) p) s) /\
  (p.mt=p0.mt/\p.nx=p0.nx/\p.rd=p0.rd/\p.ws=p0.ws->(aH lb (R.Jp (j:Int) p0) s).setIfInBounds (10+j*5+4) (.int .i64 p.of)=aH lb (R.Jp (j:Int) p) s):=by
 simp_all[rF,DQ,JK]
def Gy(a b:Nat):(if(a:Int)<(b:Int)then(a:Int)else(b:Int))=((min b a:Nat):Int):=qo
def uW(a b:Nat):(if(a:Int)>(b:Int)then(a:Int)else(b:Int))=((max b a:Nat):Int):=qo
section
variable {w0:World}{K lh g:PH}{hs:Ac}{rb lb db c q z k:Nat}{R:Nd}{L:Lg}{D:Dk}{s:NS}
def Ce(x):ai w0 142 [Rp rb,.int .i64 x] K (pt rb (aH lb R s) RT::hs) (fun v J hs'=>∃a,hs'=a::hs/\J=K/\a=pt rb (aH lb (R.Qb x) s) RT/\v=.tuple #[]):=
 (Da x).mono fun v J hs' ⟨N,O,U⟩=>⟨_,O,N,rfl,U⟩
def PI(iN:cX K rb lb db R L D s lh g)(o:NI c q z k R L D)(hc:c<=700000000)(hk:k<=4000000)(m)(hb:m.bd)(ho:m.ok)(aO:m.kind=3)(p)(hS:dF K m p):
  gc w0 K hs rb lb db R s lh g 76 [Rp rb,.agg (mv m p)] (R.app L D m).1 (R.app L D m).2.1 (R.app L D m).2.2.1 (.int .i64 (R.app L D m).2.2.2):=by
 have hf:=lG ho;have aN:=(rA ho aO).2;have o1:=o.r (o.rb.Qb (x:=m.Jl) qo);have a:=o1.merge m.idx m.lt m.Jg (fun e he=>⟨(hb.Jg e he).1,(hb.Jg e he).2.1⟩) aN qo;unfold Nd.app;have Z:=fun(hs':Ac)=>OJ (w0:=w0) (hs:=hs') lb db L D c o.rn.lb o.rn.ok iN.l m.idx m.lt hb.idx hb.lt p.ae p.ce m.Jg hS.1.SL (fun e he=>⟨(hb.Jg e he).1,(hb.Jg e he).2.1,by have:=(hb.Jg e he).2.2;omega⟩) qo;refine ent Tryz.func76 ?_;refine acY ?_;refine bx 0 I fun b3=>?_;refine au ?_;refine aw 0 I fun a5 ay=>?_
 refine' dB (q:=R.RQ L m=true) 1 4 17 [12,13] ay I I I I I I I (fun _=>?x2) (fun a6 az=>?_)
 case x2=>
  refine au ?_;refine cl 0 I (Cp [_] (KG o hc iN.l m hb p hS)) ?_;rintro bq a2 aV ⟨_,_,rfl,rfl,rfl,rfl,rfl⟩;exact fin 1 I (bJ Iff.rfl I I I)
 refine fin 0 I<|th (ax az I (fun e3=>?_) (fun e3=>?_))
 ·rw[aab e3];refine acY ?_;refine fin 1 I (ac0 (rT (Bh ?_)));exact af I I ⟨_,_,_,I,⟨s,I,Cg _,iN⟩,I⟩
 rw[aaa e3];generalize L.merge m.idx m.lt m.Jg D=A at a Z⊢;obtain⟨L1,D1,n,gd,c1⟩:=A;dsimp only at a Z⊢;obtain⟨N,V⟩:=a9 (R.Qb m.Jl);have aT:eq N.out<=7200000:=by rw[V];have:=o.rb.out;show eq R.out<=_;omega
 rw[<-V]at a⊢;refine au ?_;refine cl 0 I (Er 1 I (Ce m.Jl)) ?_;rintro bs an aY ⟨_,rfl,rfl,rfl,rfl⟩;refine Ew (pt b3 (mv m p) 34::pt rb (aH lb N s) RT::lh::g::hs) (by rw[V];rfl) ?_;have I1:iq an rb N s g:=by rw[V];exact iN.g.r
 refine au ?_;refine bC [1,0] 18 [0,2,4,6,8,10,12,14,16,18,21,22,24,26,28,30,32,34] ?_;refine au ?_;refine cl 0 I (Er 2 I (Z _)) ?_;rintro bB a3 a0 ⟨h2,rfl,J,U,rfl⟩;refine Ew (pt b3 (mv m p) 34::pt rb (aH lb N s) RT::h2::g::hs) I ?_;refine dX Q8 J ?_;refine au ?_;refine aw 1 I fun bb aA=>?_
 refine' dB (q:=c1=181) 1 3 42 [38,39] aA I I I I I I I (fun _=>?x5) (fun bm aE=>?_)
 case x5=>
  refine aw 1 I fun bi aD=>?_;exact fin 1 I (bJ aD I I I)
 refine fin 0 I<|th (ax aE I (fun e7=>?_) (fun e7=>?_))
 ·rw[aab e7];refine acY ?_;refine fin 1 I (ac0 (rT (Bh ?_)));exact af I I ⟨_,_,_,I,⟨s,I,J,U,I1.le J⟩,I⟩
 rw[aaa e7];refine au ?_;refine aw 1 I fun bo aF=>?_
 refine' eQ (q:=gd=true) 1 2 47 [44,45] aF I I I I I I I (fun _=>?x9) (fun bp aL=>?_)
 case x9=>
  exact fin 2 I<|bJ Iff.rfl I I I
 refine fin 0 I<|th (ax aL I (fun ae=>?_) (fun ae=>?_))
 ·obtain⟨rfl,rfl⟩:=ae;rw[aaa Q8,aaa Q8];have b:=a.sync;have aa:=fun(hs':Ac)=>E6 (w0:=w0) (hs:=hs') lb db L1 D1 (c+98) a.rn.lb qo a.rn.ok U;generalize L1.sync D1=B at b aa⊢;obtain⟨L2,D2,c2⟩:=B;dsimp only at b aa⊢;refine au ?_;refine cl 0 I (Er 2 I (aa _)) ?_;rintro bV a4 a1 ⟨h3,rfl,ab,ag,rfl⟩;refine Ew (pt b3 (mv m p) 34::pt rb (aH lb N s) RT::h3::g::hs) I ?_;refine au ?_;refine cl 2 I (Ek [_] (my (lh:=h3) ((I1.le J).le ab) c2)) ?_;rintro aR ap ak ⟨_,lh,g1,rfl,rfl,⟨s1,rfl,X⟩,rfl,rfl⟩;refine aw 0 I fun av Y=>?_;refine fin 0 I (th (ax Y I (fun O=>?_) (fun O=>?_)))
  ·rw[aab O];refine acY ?_;refine fin 2 I (ac0 (rT (Bh ?_)));exact af I I ⟨_,_,_,I,⟨s1,I,J.trans ab,ag,X⟩,I⟩
  obtain rfl:c2=0:=aag.1 O;rw[aaa Q8];rw[show N.did 0=N from rfl]at X⊢;unfold Nd.RK;rw[aab rfl];refine au ?_;refine bC [1,0] 12 [0,2,4,6,8,10,12,14,16,18,20,22,25] ?_;refine bR qk 4 0 I qk I I ?_;refine bR qk 1 1 I qk I I ?_;refine aB qk 5 I ?_;refine Ji 0 1 I I I I ?_;refine Ez 1 (pt rb (aH lb {N with Je:=max N.Je (min m.Je n)} s1) RT) ?_ (.there (.here (by rw[show(if(if(n:Int)<(m.Je:Int)then(n:Int)else(m.Je:Int))>(N.Je:Int)then(if(n:Int)<(m.Je:Int)then(n:Int)else(m.Je:Int))else(N.Je:Int))=((max N.Je (min m.Je n):Nat):Int)from qo];rfl)));refine au ?_;refine bd 0 (.agg (mv {bg.zero with kind:=4,to:=m.Jl,Jj:=true,idx:=n,Jn:=m.Jn} ⟨none,0,none,0,none,0⟩)) I Aq ?_;refine cl 0 I (Ek [_] (jS (R:={N with Je:=max N.Je (min m.Je n)}) ⟨ag,X.r⟩ (by show eq N.out<=_;omega) _ _ ⟨fE.nil _ _ _,aj.nil _ _ _ _,aj.nil _ _ _ _⟩)) ?_
  rintro aS aq am ⟨_,_,_,rfl,⟨s2,rfl,ad,I3⟩,rfl⟩;refine fin 0 I (acV ?_);refine fin 1 I (ac0 (Bh ?_));exact af I I ⟨_,_,_,I,⟨s2,I,(J.trans ab).trans ad,I3⟩,I⟩
 refine au ?_;refine cl 2 I (Ek [_] (my (lh:=h2) (I1.le J) c1)) ?_;rintro aR ap ak ⟨_,lh,g1,rfl,rfl,⟨s1,rfl,X⟩,rfl,rfl⟩;refine aw 0 I fun av Y=>?_;refine fin 0 I (th (ax Y I (fun O=>?_) (fun O=>?_)))
 ·rw[aab O];refine acY ?_;refine fin 2 I (ac0 (rT (Bh ?_)));exact af I I ⟨_,_,_,I,⟨s1,I,J,U,X⟩,I⟩
 obtain rfl:c1=0:=aag.1 O
 obtain rfl:gd=false:=by
  simp_all
 rw[aaa Q8,aab rfl];rw[show N.did 0=N from rfl]at X⊢;unfold Nd.RK;rw[aaa Q8];refine au ?_;refine bd 0 (.agg (mv {bg.zero with kind:=4,to:=m.Jl,Jj:=false,idx:=n,Jn:=m.Jn} ⟨none,0,none,0,none,0⟩)) I Aq ?_;refine cl 0 I (Ek [_] (jS ⟨U,X⟩ qo _ _ ⟨fE.nil _ _ _,aj.nil _ _ _ _,aj.nil _ _ _ _⟩)) ?_;rintro aS aq am ⟨_,_,_,rfl,⟨s2,rfl,ad,I3⟩,rfl⟩;refine fin 0 I (acV ?_);refine fin 1 I (ac0 (Bh ?_));exact af I I ⟨_,_,_,I,⟨s2,I,J.trans ad,I3⟩,I⟩
def O7(iN:cX K rb lb db R L D s lh g)(o:NI c q z k R L D)(hc:c<=700000000)(hk:k<=4000000)(m)(hb:m.bd)(hf:0<=m.Jl/\m.Jl<7)(p):
  gc w0 K hs rb lb db R s lh g 77 [Rp rb,.agg (mv m p)] (R.Np L m) L D (.tuple #[]):=by
 have Z:=o.last qo;obtain⟨j,hj⟩:∃j:Nat,m.Jl=(j:Int):=⟨m.Jl.toNat,qo⟩;have J:j<7:=qo
 have ab:=o.rb.pr j;unfold Pr.ok at ab;unfold de at ab Z;have am:=hb.Jn;have ak:gf L.cfg.1:=jB o.rn.lb o.cf L.last;unfold ac at am;unfold Nd.Np;refine ent Tryz.func77 ?_;refine acY ?_;refine bx 0 I fun b3=>?_;refine au ?_;refine aw 0 I fun a1 ag=>?_;refine fin 0 I (th (ax ag I (fun e2=>?_) (fun e2=>?_)))
 ·rw[aab e2];refine rt (rT (Bh ?_));exact jK I ⟨_,_,_,I,⟨s,I,Cg _,iN⟩,I⟩
 rw[aaa e2];refine sk (th (sq (bC [0] 7 [0,2,4,6,8,10,12] ?_)));refine au ?_;refine qm (sz:=5) (a:=⟨rb,10,none⟩) qk 2 j I Tryz.underlying101 qk hj J ?_;rw[bf];refine au ?_;refine Ji 3 1 I I (jq lb R s J (k:=3) I) I ?_;have hS:∀p,cX K rb lb db (R.Jp (j:Int) p) L D s lh g:=fun p=>⟨iN.l,iN.g.r⟩;refine Ez 1 (pt rb (aH lb (R.Jp (j:Int) {R.pr j with ws:=false}) s) RT) ?_ (.there (.here (by rw[<-(rF lb R s J {R.pr j with ws:=false}).2.2.2.1 ⟨rfl,rfl,rfl,rfl⟩])));refine au ?_;refine bC [1,0] 15 [0,2,4,6,8,10,12,14,16,18,20,22,24,26,28,31] ?_;refine bR qk 4 0 I qk I (km lb R s J _ (k:=2) I) ?_;refine bR qk 1 1 I qk I I ?_;refine bR qk 3 0 (v:=.int .u64 R.Jn) I qk I I ?_;refine au ?_;refine Ji 0 1 I I (km lb R s J _ (k:=2) I) I ?_
 refine Ez 1 (pt rb (aH lb (R.Jp (j:Int) {R.pr j with ws:=false,rd:=max (R.pr j).rd (min m.Jn R.Jn)}) s) RT) ?_ (.there (.here (by
  rw[<-(pQ lb R s J {R.pr j with ws:=false} {R.pr j with ws:=false,rd:=max (R.pr j).rd (min m.Jn R.Jn)}).2.2.1 ⟨rfl,rfl,rfl,rfl⟩,<-uW,<-Gy])))
 refine bQ (.inl qk) ?_;refine aI qk 0 I (th ?_);have hA:cX K rb lb db (R.Rj L m) L D s lh g->True:=fun _=>trivial
 refine kL (σ:=PH×NS×PH×PH) (fun _=>[(0,Rp rb),(3,Rp b3),(4,.pointer (some ⟨rb,10+j*5,none⟩))]) (fun u=>u.1) (fun u=>pt b3 (mv m p) 34::pt rb (aH lb (R.Rj L m) u.2.1) RT::u.2.2.1::u.2.2.2::hs)
  (fun u=>Le K u.1/\cX u.1 rb lb db (R.Rj L m) L D u.2.1 u.2.2.1 u.2.2.2) ?_ ?_
 ·unfold Nd.Rj;rw[show R.p m.Jl=R.pr j from by rw[hj];rfl,hj];dsimp only;refine au ?_;refine fw I (fun e3=>?_) (fun e3=>?_)
  ·rw[aab e3];refine sq (bC [1,0] 16 [0,2,4,6,8,10,12,14,16,18,20,23,24,26,28,30,33] ?_);refine bR qk 4 0 I qk I (km lb R s J _ (k:=0) I) ?_;refine au ?_;refine cl 0 I (Ck 2 I (mp lb db L D c o.rn.lb qo iN.l)) ?_;rintro a2 a0 aN ⟨rfl,rfl,rfl⟩;refine aP Q8 I ?_;refine aB qk 4 I ?_;refine Ji 0 1 I I (km lb R s J _ (k:=0) I) I ?_
   refine Ez 1 (pt rb (aH lb (R.Jp (j:Int) {R.pr j with ws:=false,rd:=max (R.pr j).rd (min m.Jn R.Jn),mt:=max (R.pr j).mt (min m.idx L.last)}) s) RT) ?_ (.there (.here (by
    rw[<-(pQ lb R s J {R.pr j with ws:=false,rd:=max (R.pr j).rd (min m.Jn R.Jn)} {R.pr j with ws:=false,rd:=max (R.pr j).rd (min m.Jn R.Jn),mt:=max (R.pr j).mt (min m.idx L.last)}).1 ⟨rfl,rfl,rfl,rfl⟩,<-uW,<-Gy]
    rfl)))
   refine au ?_;refine bC [1] 13 [0,2,4,6,8,10,12,14,16,18,20,22,24,27] ?_;refine bR qk 4 0 I qk I (km lb R s J _ (k:=1) I) ?_;refine bR qk 3 0 I qk I (km lb R s J _ (k:=0) I) ?_;refine bF qk 0 I (bL (x:=((max (R.pr j).mt (min m.idx L.last)+1:Nat):Int)) qo) ?_;refine au ?_;refine Ji 0 1 I I (km lb R s J _ (k:=1) I) I ?_;obtain⟨R4,U⟩:=a9 (R.Jp (j:Int) {R.pr j with ws:=false,rd:=max (R.pr j).rd (min m.Jn R.Jn),mt:=max (R.pr j).mt (min m.idx L.last),nx:=max (R.pr j).nx (max (R.pr j).mt (min m.idx L.last)+1)})
   refine Ez 1 (pt rb (aH lb R4 s) RT) ?_ (.there (.here (by
    rw[U,<-(pQ lb R s J {R.pr j with ws:=false,rd:=max (R.pr j).rd (min m.Jn R.Jn),mt:=max (R.pr j).mt (min m.idx L.last)} {R.pr j with ws:=false,rd:=max (R.pr j).rd (min m.Jn R.Jn),mt:=max (R.pr j).mt (min m.idx L.last),nx:=max (R.pr j).nx (max (R.pr j).mt (min m.idx L.last)+1)}).2.1 ⟨rfl,rfl,rfl,rfl⟩,<-uW])))
   refine au ?_;rw[<-U]
   have o4:NI c q z k R4 L D:=by
    rw[U];refine o.r (o.rb.Jp _ ?_)
    grind[Pr.ok,de,ac]
   refine cl 1 I (Ek [_] (ER (R:=R4) (by rw[U];exact hS _) o4 qo qo)) ?_;rintro a3 ad aO ⟨_,_,_,rfl,⟨s2,rfl,ay,I2⟩,rfl⟩;refine fin 0 I ?_;exact fM (ad,s2,_,_) ⟨ay,I2⟩ ⟨I,I,I,trivial⟩ I I
  rw[aaa (by simp[e3])];refine sq (bC [1,0] 14 [0,2,4,6,8,10,12,14,16,18,20,23,24,26,29] ?_);refine bR qk 4 0 I qk I (km lb R s J _ (k:=1) I) ?_;refine bR qk 3 0 I qk I (km lb R s J _ (k:=0) I) ?_;refine au ?_;refine cl 0 I (O3 (R.pr j).nx (R.pr j).mt m.idx qo qo) ?_;rintro a4 ae aR ⟨rfl,rfl,rfl⟩;refine aP Q8 I ?_;refine aB qk 2 I ?_;refine Ji 0 1 I I (km lb R s J _ (k:=1) I) I ?_
  refine Ez 1 (pt rb (aH lb (R.Jp (j:Int) {R.pr j with ws:=false,rd:=max (R.pr j).rd (min m.Jn R.Jn),nx:=lf (R.pr j).nx (R.pr j).mt m.idx}) s) RT) ?_ (.there (.here (by
   rw[<-(pQ lb R s J {R.pr j with ws:=false,rd:=max (R.pr j).rd (min m.Jn R.Jn)} {R.pr j with ws:=false,rd:=max (R.pr j).rd (min m.Jn R.Jn),nx:=lf (R.pr j).nx (R.pr j).mt m.idx}).2.1 ⟨rfl,rfl,rfl,rfl⟩])))
  refine au ?_;refine Ji 3 1 I I (km lb R s J _ (k:=4) I) I ?_
  refine Ez 1 (pt rb (aH lb (R.Jp (j:Int) {R.pr j with ws:=false,rd:=max (R.pr j).rd (min m.Jn R.Jn),nx:=lf (R.pr j).nx (R.pr j).mt m.idx,of:=0}) s) RT) ?_ (.there (.here (by
   rw[<-(pQ lb R s J {R.pr j with ws:=false,rd:=max (R.pr j).rd (min m.Jn R.Jn),nx:=lf (R.pr j).nx (R.pr j).mt m.idx} {R.pr j with ws:=false,rd:=max (R.pr j).rd (min m.Jn R.Jn),nx:=lf (R.pr j).nx (R.pr j).mt m.idx,of:=0}).2.2.2.2 ⟨rfl,rfl,rfl,rfl⟩])))
  refine fin 0 I ?_;exact fM (ae,s,_,_) ⟨Cg _,hS _⟩ ⟨I,I,I,trivial⟩ I I
 rintro⟨K5,s5,l5,g5⟩ ⟨V,Y⟩;dsimp only at V Y⊢;have o5:NI c q z (k+8) (R.Rj L m) L D:=o.Rj qo m hb;generalize R.Rj L m=O at Y o5⊢;unfold Nd.SE;rw[show O.p m.Jl=O.pr j from by rw[hj];rfl];obtain⟨bq,N⟩:=a9 (decide (O.role=2/\(m.Jj=false\/(O.pr j).nx<=L.last)));refine jn (σ:=Unit) (fun _=>[(0,Rp rb),(3,Rp b3),(107,.bool bq)]) (fun _=>pt b3 (mv m p) 34::pt rb (aH lb O s5) RT::l5::g5::hs) (fun _=>True) ?_ ?_
 ·refine bC [1,0] 22 [0,2,4,6,8,10,12,14,16,18,20,22,24,26,28,30,32,34,37,38,40,42] ?_;refine au ?_;refine dP qk 0 (O.role=2) I Q8 (fun h4=>?_) (fun h4=>?_)
  ·refine bT qk 2 1 (v:=.bool m.Jj) I I I ?_;cases hg:m.Jj with
   |false=>
    refine aB qk 10 I ?_;refine Bc 1 I ?_;refine aP Q8 I ?_;refine aI qk 3 I ?_;exact jx () trivial ⟨I,I,by rw[N,decide_eq_true ⟨h4,.inl hg⟩];rfl,trivial⟩ rfl rfl
   |true=>
    refine bT qk 5 0 I I (jq lb O s5 J (k:=1) I) ?_;refine au ?_;refine cl 0 I (Ck 2 I (mp lb db L D c o.rn.lb qo Y.l)) ?_;rintro aS aA an ⟨rfl,rfl,rfl⟩;refine aP Q8 I ?_;refine dU qk 0 ((O.pr j).nx<=L.last) I (by unfold Lg.last;simp;omega) fun aa aL=>?_;refine au ?_
    have e:aa=bq:=by
     grind
    exact jx () trivial ⟨I,I,by rw[<-e];rfl,trivial⟩ rfl rfl
  refine aB qk 13 I ?_;refine Bc 1 I ?_;refine aP Q8 I ?_;refine aI qk 3 I ?_;exact jx () trivial ⟨I,I,by rw[N,decide_eq_false (fun h=>h4 h.1)];rfl,trivial⟩ rfl rfl
 rintro _ _;refine fw I (fun h=>?_) (fun h=>?_)
 ·rw[h]at N;have N:=of_decide_eq_true N.symm;refine acY ?_;refine cl 1 I (Cp [_] (m6 o5 qo Y.l)) ?_;rintro aT aD ap ⟨_,lh,rfl,rfl,rfl,X,ao,cap,rfl,x⟩;refine al 3 (.agg Ij) I qk fun b5=>?_;refine bA 0 0 I I qk I I ?_;refine Ew (pt b5 #[.slice ao (eq L.cfg.1) cap] 46::pt b3 (mv m p) 34::pt rb (aH lb O s5) RT::lh::g5::hs) I ?_;refine au ?_;refine cl 0 I (tV (.inl I) ao cap L.cfg.1 x (by have:=ak.len;omega) m.Jl) ?_;rintro aV aE aq ⟨rfl,rfl,rfl⟩;refine fin 0 I (th (fw I (fun e6=>?_) (fun e6=>?_)))
  ·rw[aab ⟨N.1,N.2,of_decide_eq_true e6⟩,hj];refine rg ?_;refine aX 2 1 (v:=.int .i64 j) I I (by rw[<-hj];rfl) ?_;refine cl 0 I (Ek [_,_] (ur (Y.le X) o5 qo qo j J)) ?_;rintro aY aF av ⟨_,_,_,rfl,⟨s6,rfl,az,I7⟩,rfl⟩;refine fin 0 I (Bh (Bh ?_));exact bZ I ⟨_,_,_,I,⟨s6,I,(V.trans X).trans az,I7⟩,I⟩
  rw[aaa (fun h=>by simp[h.2.2]at e6)];refine sk (Bh (Bh ?_));exact bZ I ⟨_,_,_,I,⟨s5,I,V.trans X,Y.le X⟩,I⟩
 rw[h]at N;have N:=of_decide_eq_false N.symm;rw[aaa (fun h=>N ⟨h.1,h.2.1⟩)];refine sk (Bh ?_);exact bZ I ⟨_,_,_,I,⟨s5,I,V,Y⟩,I⟩
end
end
section
section
variable {w0:World}{K lh g:PH}{hs:Ac}{rb lb db c q z k:Nat}{R:Nd}{L:Lg}{D:Dk}{s:NS}
def KH(iN:cX K rb lb db R L D s lh g)(o:NI c q z k R L D)(hc:c<=700000000)(hk:k<=4000000)(m)(ho:m.ok)(aa:m.kind=6)(p):
  gc w0 K hs rb lb db R s lh g 79 [Rp rb,.agg (mv m p)] (R.chunked L m) L D (.tuple #[]):=by
 have hf:=lG ho;have V:=yN ho (.inr aa);obtain⟨j,hj⟩:∃j:Nat,m.Jl=(j:Int):=⟨m.Jl.toNat,qo⟩;have J:j<7:=qo
 unfold Nd.chunked;rw[show R.p m.Jl=R.pr j from by rw[hj];rfl];obtain⟨bq,N⟩:=a9 (decide (R.role≠2\/m.idx≠L.sn.idx\/m.idx<(R.pr j).nx));refine ent Tryz.func79 ?_;refine acY ?_;refine bx 0 I fun X=>?_;refine Ez 0 (pt X (mv m p) 34) ?_;refine au ?_;refine bC [0] 7 [0,2,4,6,8,10,12] ?_;refine au ?_;refine qm (sz:=5) (a:=⟨rb,10,none⟩) qk 2 j I Tryz.underlying101 qk hj J ?_;rw[bf];refine aI qk 1 I (th (sq ?_));refine kL (σ:=PH) (fun _=>[(0,Rp rb),(3,Rp X),(4,.pointer (some ⟨rb,10+j*5,none⟩)),(35,.bool bq)]) (fun u=>u) (fun u=>pt X (mv m p) 34::pt rb (aH lb R s) RT::lh::g::hs) (fun u=>Le K u) ?_ ?_
 ·refine bC [1,0] 25 [0,2,4,6,8,10,12,14,16,18,20,22,25,26,28,30,32,34,36,38,40,42,44,46,48] ?_;refine au ?_;refine dP qk 0 (R.role≠2) I Q8 (fun Z=>?_) (fun Z=>?_)
  ·refine aB qk 7 I ?_;refine Bc 1 I ?_;refine aP Q8 I ?_;refine aI qk 12 I ?_;exact fM K (Cg _) ⟨I,I,I,by rw[N,decide_eq_true (.inl Z)];rfl,trivial⟩ rfl rfl
  have ak:=aag.1 Z;refine au ?_;refine cl 0 I (Er 2 I (qa lb db L D c o.rn.lb iN.l)) ?_;rintro an U ad ⟨h',rfl,hh,le,aV,cV,aD,cD,rfl,xV,xD⟩;subst hh;refine Ew (pt X (mv m p) 34::pt rb (aH lb R s) RT::h'::g::hs) I ?_;refine dX Q8 le ?_;refine sx qk 0 (v:=.int .u64 L.sn.idx) I (fun A w ha _=>nS (t:=48) (x:=.tmp 23) (i:=0) (v:=.agg (dg L.sn aV cV aD cD)) I I Aq A w ha) ?_;refine dP qk 0 (m.idx≠L.sn.idx) I Au (fun h2=>?_) (fun h2=>?_)
  ·refine aI qk 10 I ?_;exact fM U le ⟨I,I,I,by rw[N,decide_eq_true (.inr (.inl h2))];rfl,trivial⟩ rfl rfl
  refine bT qk 5 0 I I (jq lb R s J (k:=1) I) ?_;refine au ?_;refine dU qk 0 (m.idx<(R.pr j).nx) I Q8 fun Y am=>?_;refine au ?_
  have e:Y=bq:=by
   grind
  exact fM U le ⟨I,I,I,by rw[<-e];rfl,trivial⟩ rfl rfl
 intro K2 le;dsimp only at le⊢;refine fw I (fun h=>?_) (fun h=>?_)
 ·rw[h]at N;rw[aab (of_decide_eq_true N.symm)];refine rt (rT (Bh ?_));exact jK I ⟨_,_,_,I,⟨s,I,le,iN.le le⟩,I⟩
 rw[h]at N;rw[aaa (of_decide_eq_false N.symm),hj];have I1:=iN.le le;refine sk (acV ?_);refine Ji 3 1 I I (jq lb R s J (k:=3) I) I ?_;refine Ez 1 (pt rb (aH lb (R.Jp (j:Int) {R.pr j with ws:=false}) s) RT) ?_ (.there (.here (by rw[<-(rF lb R s J {R.pr j with ws:=false}).2.2.2.1 ⟨rfl,rfl,rfl,rfl⟩])));refine au ?_;refine Ji 2 1 I I (km lb R s J _ (k:=4) I) I ?_
 refine Ez 1 (pt rb (aH lb (R.Jp (j:Int) {R.pr j with ws:=false,of:=m.off}) s) RT) ?_ (.there (.here (by
  rw[<-(pQ lb R s J {R.pr j with ws:=false} {R.pr j with ws:=false,of:=m.off}).2.2.2.2 ⟨rfl,rfl,rfl,rfl⟩]
  rfl)))
 have O:=o.rb.pr j;have o2:NI c q z k (R.Jp (j:Int) {R.pr j with ws:=false,of:=m.off}) L D:=o.r (o.rb.Jp _ ⟨O.1,O.2.1,O.2.2.1,V⟩);refine fin 0 I (acX ?_);refine aX 2 0 (v:=.int .i64 j) I I (by rw[<-hj];rfl) ?_;refine cl 0 I (Ek [_] (ur ⟨I1.l,I1.g.r⟩ o2 qo qo j J)) ?_;rintro ap ag ae ⟨_,_,_,rfl,⟨s2,rfl,ab,I2⟩,rfl⟩;refine fin 0 I (Bh ?_);exact bZ I ⟨_,_,_,I,⟨s2,I,le.trans ab,I2⟩,I⟩
end
end
section
def Nd.Qg(R:Nd)(m:bg):Nd:=if m.off=0\/R.pf≠m.Jl\/R.ps.idx≠m.idx\/R.ps.term≠m.lt then {R with pf:=m.Jl,ps:=⟨m.idx,m.lt,m.Jq,[]⟩}else R
def xw(R:Nd)(m):R.piece m=if m.off=eq (R.Qg m).ps.data then {R.Qg m with ps:={ (R.Qg m).ps with data:=(R.Qg m).ps.data++m.data}}else R.Qg m:=rfl
section
variable {w0:World}{K lh g:PH}{hs:Ac}{rb lb db c q z k:Nat}{R:Nd}{L:Lg}{D:Dk}{s:NS}
def NJ(iN:cX K rb lb db R L D s lh g)(o:NI c q z k R L D)(hc:c<=499900000)(hk:k<=4000000)(hz:z<=1000000)(m)(hb:m.bd)(ho:m.ok)(a3:m.kind=5)(p)(hS:dF K m p):
  gc w0 K hs rb lb db R s lh g 78 [Rp rb,.agg (mv m p)] (R.chunk L D m).1 (R.chunk L D m).2.1 (R.chunk L D m).2.2.1 (.int .i64 (R.chunk L D m).2.2.2):=by
 have hf:=lG ho;have cy:=D4 ho a3;have o1:Rb z k (R.Qb m.Jl):=o.rb.Qb (x:=m.Jl) qo;have a5:=o.rb.ps.2.2.2;unfold Nd.chunk;refine ent Tryz.func78 ?_;refine acY ?_;refine bx 0 I fun b3=>?_;refine Ez 0 (pt b3 (mv m p) 34) ?_;refine au ?_;refine aw 0 I fun ct bm=>?_;refine fin 0 I (th (ax bm I (fun e2=>?_) (fun e2=>?_)))
 ·rw[aab e2];refine acY ?_;refine fin 1 I (ac0 (rT (Bh ?_)));exact af I I ⟨_,_,_,I,⟨s,I,Cg _,iN⟩,I⟩
 rw[aaa e2];have a1:(R.Qb m.Jl).Je=R.Je:=rfl;have a0:(R.Qb m.Jl).ps=R.ps/\(R.Qb m.Jl).out=R.out:=⟨rfl,rfl⟩;rw[<-a1];have a2:=fun(hs':Ac)=>Ce (w0:=w0) (K:=K) (hs:=hs') (rb:=rb) (lb:=lb) (R:=R) (s:=s) m.Jl;have ag:iq K rb (R.Qb m.Jl) s g:=iN.g.r;have hL:=iN.l;have op:=o1.piece m hb ho a3;have am:=o.rb.out;rw[<-a0.2]at am;rw[<-a0.1]at a5;generalize R.Qb m.Jl=U at a2 ag o1 a5 op am⊢;refine au ?_;refine cl 0 I (Er 1 I (a2 _)) ?_;rintro cz an ch ⟨_,rfl,rfl,rfl,rfl⟩;refine Ew (pt b3 (mv m p) 34::pt rb (aH lb U s) RT::lh::g::hs) I ?_;refine au ?_;refine bC [1,0] 7 [0,2,4,6,8,10,12] ?_;refine au ?_;refine dU qk 0 (m.idx<=U.Je) I Q8 fun cu bo=>?_;refine au ?_;refine ax bo I (fun e3=>?_) (fun e3=>?_)
 ·rw[aab e3];refine au ?_;refine bd 0 (.agg (mv {bg.zero with kind:=4,to:=m.Jl,Jj:=true,idx:=m.idx} ⟨none,0,none,0,none,0⟩)) I Aq ?_;refine cl 0 I (Ek [_] (jS ⟨hL,ag⟩ qo _ _ ⟨fE.nil _ _ _,aj.nil _ _ _ _,aj.nil _ _ _ _⟩)) ?_;rintro cA cr ck ⟨_,_,_,rfl,⟨s2,rfl,ae,I3⟩,rfl⟩;refine fin 0 I (acV ?_);refine fin 1 I (ac0 (rT (Bh ?_)));exact af I I ⟨_,_,_,I,⟨s2,I,ae,I3⟩,I⟩
 rw[aaa e3];refine sk (acV ?_);refine fin 5 I (th ?_);refine jn (σ:=NS×PH) (fun _=>[(0,Rp rb),(3,Rp b3),(5,.pointer (some ⟨rb,46,none⟩))]) (fun u=>pt b3 (mv m p) 34::pt rb (aH lb (U.Qg m) u.1) RT::lh::u.2::hs) (fun u=>iq an rb (U.Qg m) u.1 u.2) ?_ ?_
 ·obtain⟨bq,Y⟩:=a9 (decide (m.off=0\/U.pf≠m.Jl\/U.ps.idx≠m.idx\/U.ps.term≠m.lt));unfold Nd.Qg;refine jn (σ:=Unit) (fun _=>[(0,Rp rb),(3,Rp b3),(5,.pointer (some ⟨rb,46,none⟩)),(64,.bool bq)]) (fun _=>pt b3 (mv m p) 34::pt rb (aH lb U s) RT::lh::g::hs) (fun _=>True) ?_ ?_
  ·refine bC [1,0] 31 [0,2,4,6,8,10,12,14,16,18,20,22,24,26,28,30,32,34,36,38,40,42,44,46,48,50,52,54,56,58,60] ?_;refine au ?_;refine dP qk 0 (m.off=0) I Q8 (fun h4=>?_) (fun h4=>?_)
   ·refine aI qk 28 I ?_;exact jx () trivial ⟨I,I,I,by rw[Y,decide_eq_true (.inl h4)];rfl,trivial⟩ rfl rfl
   refine au ?_;refine dP qk 0 (U.pf≠m.Jl) I Q8 (fun h5=>?_) (fun h5=>?_)
   ·refine aI qk 19 I ?_;exact jx () trivial ⟨I,I,I,by rw[Y,decide_eq_true (.inr (.inl h5))];rfl,trivial⟩ rfl rfl
   refine au ?_;refine dP qk 0 (U.ps.idx≠m.idx) I Au (fun h6=>?_) (fun h6=>?_)
   ·refine aI qk 10 I ?_;exact jx () trivial ⟨I,I,I,by rw[Y,decide_eq_true (.inr (.inr (.inl h6)))];rfl,trivial⟩ rfl rfl
   refine au ?_;refine dU qk 0 (U.ps.term≠m.lt) I Au fun bi cx=>?_;refine au ?_
   have e:bi=bq:=by
    grind
   exact jx () trivial ⟨I,I,I,by rw[<-e];rfl,trivial⟩ rfl rfl
  rintro _ _;refine fw I (fun h=>?_) (fun h=>?_)
  ·rw[h]at Y;rw[aab (of_decide_eq_true Y.symm)];refine au ?_;refine bd 0 (.agg #[.slice p.av (eq m.Jq) p.cv]) I Aq ?_;refine bd 0 (.agg #[.int .u64 m.idx,.int .u64 m.lt,.slice p.av (eq m.Jq) p.cv,.slice none 0 0]) I Aq ?_;refine bd 0 (.agg #[.int .i64 m.Jl,.int .u64 m.idx,.int .u64 m.lt,.slice p.av (eq m.Jq) p.cv,.slice none 0 0]) I Aq ?_;refine lX 2 1 (off:=45) (cs:=#[.int .i64 m.Jl,.int .u64 m.idx,.int .u64 m.lt,.slice p.av (eq m.Jq) p.cv,.slice none 0 0]) I I qk (by show 45+5<=54;omega) (fun v hv=>by simp at hv;rcases hv with rfl|rfl|rfl|rfl|rfl<;>rfl) ?_;obtain⟨Z,sv,sd,N,f0,f1,f2⟩:=s;refine Ez 1 (pt rb (aH lb {U with pf:=m.Jl,ps:=⟨m.idx,m.lt,m.Jq,[]⟩} ⟨Z,.slice p.av (eq m.Jq) p.cv,.slice none 0 0,N,f0,f1,f2⟩) RT) ?_ (.there (.here I))
   obtain⟨X,hd,V,rfl,dj,⟨y,v,d,ou,f⟩⟩:=ag;refine Bi (aak [_,_,_] [_] hs) (Be dj ?_);refine fin 0 I (Cm 1 En.em I (.inr I) (WQ.join [X,En.em,V] fun ab=>Bk (aak [_] [_,_,_] hs) ?_));exact jx (⟨Z,.slice p.av (eq m.Jq) p.cv,.slice none 0 0,N,f0,f1,f2⟩,dt [X,En.em,V]) ⟨X,En.em,V,I,ab,⟨y,⟨p.av,p.cv,I,hS.2.1⟩,⟨none,0,I,aJ.nil _ _⟩,ou,f⟩⟩ ⟨I,I,I,trivial⟩ I I
  rw[h]at Y;rw[aaa (of_decide_eq_false Y.symm)];exact sk (jx (s,g) ag sb I I)
 rintro⟨s1,g1⟩ G1;dsimp only at G1⊢
 have aA:eq (U.Qg m).ps.data<=256*z/\(U.Qg m).Je=U.Je/\(U.Qg m).out=U.out:=by
  unfold Nd.Qg
  grind
 rw[xw]at op⊢;generalize U.Qg m=J at G1 op aA⊢;refine jn (σ:=NS×PH) (fun _=>[(0,Rp rb),(3,Rp b3),(5,.pointer (some ⟨rb,46,none⟩))]) (fun u=>pt b3 (mv m p) 34::pt rb (aH lb (if m.off=eq J.ps.data then {J with ps:={J.ps with data:=J.ps.data++m.data}}else J) u.1) RT::lh::u.2::hs) (fun u=>iq an rb (if m.off=eq J.ps.data then {J with ps:={J.ps with data:=J.ps.data++m.data}}else J) u.1 u.2) ?_ ?_
 ·obtain⟨X,hd,V,rfl,dj,⟨y,v,⟨aD,cD,eD,oD⟩,ou,f⟩⟩:=G1;obtain⟨Z,sv,sd,N,f0,f1,f2⟩:=s1;dsimp only at eD y v ou f;subst eD;refine sq (bC [1,0] 8 [0,2,4,6,8,10,12,14] ?_);refine au ?_;refine dU qk 1 (m.off=eq J.ps.data) I Q8 fun cv bs=>?_;refine au ?_;refine ax bs I (fun e5=>?_) (fun e5=>?_)
  ·rw[aab e5];refine Bj (aak [_,_,_] [_] hs) (WC.split dj ?_);refine bC [4,3] 10 [0,2,4,6,8,10,12,15,16,18,21] ?_;refine au ?_;refine app 0 1 I I oD (.inl I) hS.2.2 I Q9 (gE _) aC As fun aa ap ay bb=>?_;refine aP Q8 I ?_;refine aB qk 2 I ?_;refine Ji 0 4 I I I I ?_;have ed:eq J.ps.data+eq m.data=eq (J.ps.data++m.data):=by simp
   rw[ed]at bb;refine Ez 4 (pt rb (aH lb {J with ps:={J.ps with data:=J.ps.data++m.data}} ⟨Z,sv,.slice aa (eq (J.ps.data++m.data)) ap,N,f0,f1,f2⟩) RT) ?_ (.there (.there (.there (.there (.here (by rw[<-ed];rfl))))));refine bQ (.inl qk) ?_;refine aI qk 0 I (WQ.join [X,ay,V] fun ab=>Bk (aak [_] [_,_,_] hs) ?_);exact jx (⟨Z,sv,.slice aa (eq (J.ps.data++m.data)) ap,N,f0,f1,f2⟩,dt [X,ay,V]) ⟨X,ay,V,I,ab,⟨y,v,⟨aa,ap,I,by simpa[bv]using bb⟩,ou,f⟩⟩ sb I I
  rw[aaa e5];exact sk (jx (⟨Z,sv,.slice aD (eq J.ps.data) cD,N,f0,f1,f2⟩,dt [X,hd,V]) ⟨X,hd,V,I,dj,⟨y,v,⟨aD,cD,I,oD⟩,ou,f⟩⟩ sb I I)
 rintro⟨s2,g2⟩ G2;dsimp only at G2⊢
 have a4:(if m.off=eq J.ps.data then {J with ps:={J.ps with data:=J.ps.data++m.data}}else J).Je=U.Je/\(if m.off=eq J.ps.data then {J with ps:={J.ps with data:=J.ps.data++m.data}}else J).out=U.out:=by
  split
  ·exact aA.2
  exact aA.2
 generalize (if m.off=eq J.ps.data then {J with ps:={J.ps with data:=J.ps.data++m.data}}else J)=O at G2 op a4⊢;rw[<-a4.2]at am;have h3:=op.ps;obtain⟨X,hd,V,bV,dj,⟨y,⟨aV,cV,eV,xV⟩,⟨aD,cD,eD,oD⟩,ou,f⟩⟩:=id G2;obtain⟨Z,sv,sd,N,f0,f1,f2⟩:=s2;dsimp only at eV eD;subst eV eD;refine sq (sq (bC [1,0] 8 [0,2,4,6,8,10,12,14] ?_));refine au ?_;refine dU qk 0 ((eq O.ps.data:Int)<m.whole) I Q8 fun ca aN=>?_;refine au ?_;refine ax aN I (fun e6=>?_) (fun e6=>?_)
 ·rw[aab e6];refine sq (bC [1,0] 11 [0,2,4,6,8,10,12,14,16,18,20,23] ?_);refine dA [10] qk 2 1 I qk I I ?_;refine dA [10] qk 1 1 I qk I I ?_;refine dA [10,9] qk 3 0 I qk I I ?_;refine jh qk 1 (.agg (mv {bg.zero with kind:=6,to:=m.Jl,idx:=m.idx,off:=eq O.ps.data} ⟨none,0,none,0,none,0⟩)) I Aq ?_;refine au ?_;refine cl 0 I (Ek [_] (jS ⟨hL,G2⟩ qo _ _ ⟨fE.nil _ _ _,aj.nil _ _ _ _,aj.nil _ _ _ _⟩)) ?_;rintro cm b7 b0 ⟨_,_,_,rfl,⟨s3,rfl,ae,I3⟩,rfl⟩;refine bQ (.inl qk) ?_;refine aI qk 0 I (acV ?_);refine fin 1 I (ac0 (rT (Bh ?_)));exact af I I ⟨_,_,_,I,⟨s3,I,ae,I3⟩,I⟩
 rw[aaa e6];unfold Nd.inst;refine sk (th ?_);subst bV;refine Bj (aak [_,_,_] [_] hs) (WC.split dj ?_);refine Bj (hs':=hd::X::V::pt b3 (mv m p) 34::pt rb (aH lb O ⟨Z,.slice aV (eq O.ps.Jq) cV,.slice aD (eq O.ps.data) cD,N,f0,f1,f2⟩) RT::lh::hs) (aap ..) (WC.SK fun K1 aF b5=>Es ?_);refine Bj (aap ..) (WC.join [X,En.em,V] fun ab=>Bj (aak [_] [_,_,_] hs) ?_);have bB:=hL.le aF;have xD:aj K1 aD (eq O.ps.data) cD 1 (bv O.ps.data):=oD.Ni.le b5;have aE:=fun(hs':Ac)=>LN (w0:=w0) (K:=K1) (hs:=hs') lb db L D c o.rn.lb hc o.rn.ok bB O.ps (by have:=h3.1;unfold ac at this;omega) h3.2.1 qo qo aV cV aD cD (xV.le aF) xD;generalize L.install O.ps D=A at aE⊢;obtain⟨L1,D1,c1⟩:=A;dsimp only at aE⊢;refine sq (bC [1] 9 [0,2,4,6,8,10,12,15,16] ?_);refine au ?_;refine zH qk 2 (dg O.ps aV cV aD cD).toList I qk qk (.inr ⟨0,I⟩) (nK _ I) ?_
 refine au ?_;refine cl 0 I (Er 2 I (aE _)) ?_;rintro cn aL b1 ⟨h2,rfl,a6,az,rfl⟩;obtain⟨R4,ad⟩:∃R4:Nd,R4={O with pf:=0,ps:=bE.zero}:=⟨_,rfl⟩;refine Ew (pt b3 (mv m p) 34::pt rb (aH lb O ⟨Z,.slice aV (eq O.ps.Jq) cV,.slice aD (eq O.ps.data) cD,N,f0,f1,f2⟩) RT::h2::dt [X,En.em,V]::hs) I ?_;refine dX Q8 a6 ?_;refine au ?_;refine bd 1 (.agg Iy) I Aq ?_;refine lX 2 1 (off:=45) (cs:=Iy) I I qk (by show 45+5<=54;omega) (fun v hv=>by simp at hv;rcases hv with rfl|rfl|rfl|rfl|rfl<;>rfl) ?_;refine Ez 1 (pt rb (aH lb R4 ⟨Z,.slice none 0 0,.slice none 0 0,N,f0,f1,f2⟩) RT) ?_ (.there (.here (by rw[ad];rfl)));have le:=aF.trans a6
 have G4:iq aL rb R4 ⟨Z,.slice none 0 0,.slice none 0 0,N,f0,f1,f2⟩ (dt [X,En.em,V]):=by
  obtain⟨y',v',d',b6,f'⟩:=(nE.mk y ⟨aV,cV,rfl,xV⟩ ⟨aD,cD,rfl,oD⟩ ou f:nE an rb O ⟨Z,.slice aV (eq O.ps.Jq) cV,.slice aD (eq O.ps.data) cD,N,f0,f1,f2⟩ X hd V).le le;rw[ad];exact⟨X,En.em,V,I,ab,⟨y',⟨none,0,I,aj.nil _ _ _ _⟩,⟨none,0,I,aJ.nil _ _⟩,b6,f'⟩⟩
 have bp:R4.Je=O.Je/\R4.out=O.out:=by rw[ad];simp
 rw[<-ad];generalize (⟨Z,.slice none 0 0,.slice none 0 0,N,f0,f1,f2⟩:NS)=s4 at G4⊢;generalize dt [X,En.em,V]=g4 at G4⊢;rw[<-bp.2]at am;refine au ?_;refine aw 1 I fun cc aO=>?_
 refine' dB (q:=c1=181) 1 3 134 [130,131] aO I I I I I I I (fun _=>?x15) (fun ce aS=>?_)
 case x15=>
  refine aw 1 I fun cd aR=>?_;exact fin 1 I (bJ aR I I I)
 refine fin 0 I<|th (ax aS I (fun av=>?_) (fun av=>?_))
 ·rw[aab av];refine acY ?_;refine fin 1 I (ac0 (rT (Bh ?_)));exact af I I ⟨_,_,_,I,⟨s4,I,le,az,G4⟩,I⟩
 rw[aaa av];refine au ?_;refine cl 2 I (Ek [_] (my (lh:=h2) G4 c1)) ?_;rintro cp b8 b2 ⟨_,lh,g1,rfl,rfl,⟨s1,rfl,G1⟩,rfl,rfl⟩;refine aw 0 I fun cg aT=>?_;refine fin 0 I (th (ax aT I (fun aq=>?_) (fun aq=>?_)))
 ·rw[aab aq];refine acY ?_;refine fin 2 I (ac0 (rT (Bh ?_)));exact af I I ⟨_,_,_,I,⟨s1,I,le,az,G1⟩,I⟩
 obtain rfl:c1=0:=aag.1 aq;rw[aaa Q8];rw[show R4.did 0=R4 from rfl]at G1⊢;obtain⟨R5,ak⟩:∃R5:Nd,R5={R4 with Je:=max R4.Je m.idx}:=⟨_,rfl⟩;have aY:({O with pf:=0,ps:=bE.zero,Je:=max O.Je m.idx}:Nd)=R5:=by rw[ak,ad]
 rw[aY];refine sk (th (sq (bC [1,0] 10 [0,2,4,6,8,10,12,14,16,18,21] ?_)));refine bR qk 4 0 I qk I I ?_;refine bR qk 1 1 I qk I I ?_;refine aB qk 3 I ?_;refine Ji 0 1 I I I I ?_;refine Ez 1 (pt rb (aH lb R5 s1) RT) ?_ (.there (.here (by rw[ak];unfold aH;dsimp only;rw[<-uW];rfl)));refine au ?_;refine bd 0 (.agg (mv {bg.zero with kind:=4,to:=m.Jl,Jj:=true,idx:=m.idx} ⟨none,0,none,0,none,0⟩)) I Aq ?_;refine cl 0 I (Ek [_] (jS (R:=R5) ⟨az,by rw[ak];exact G1.r⟩ (by rw[ak];show eq R4.out<=_;omega) _ _ ⟨fE.nil _ _ _,aj.nil _ _ _ _,aj.nil _ _ _ _⟩)) ?_;rintro cq b9 b4 ⟨_,_,_,rfl,⟨s2,rfl,ae,I3⟩,rfl⟩;refine fin 0 I (acV ?_);refine fin 1 I (ac0 (Bh ?_));exact af I I ⟨_,_,_,I,⟨s2,I,le.trans ae,I3⟩,I⟩
end
end
section
section
variable {w0:World}{K lh g:PH}{hs:Ac}{rb lb db c q z k:Nat}{R:Nd}{L:Lg}{D:Dk}{s:NS}
def I8{m}(h:(enc m).isSome=true):m.ok:=by
 simp_all[enc]
def FC(m):(ec (enc m)≠0)=((enc m).isSome=false):=by
 cases enc m<;>simp[ec]
def N9(iN:cX K rb lb db R L D s lh g)(o:NI c q z k R L D)(hc:c<=499800000)(hk:k<=3200000)(hz:z<=1000000)(m)(hb:m.bd)(p)(hS:dF K m p):
  gc w0 K hs rb lb db R s lh g 32 [Rp rb,.agg (mv m p)] (R.take L D m).1 (R.take L D m).2.1 (R.take L D m).2.2.1 (.int .i64 (R.take L D m).2.2.2):=by
 unfold Nd.take;refine ent Tryz.func32 ?_;refine acY ?_;refine bx 0 I fun b3=>?_;refine Ez 0 (pt b3 (mv m p) 34) ?_;refine fin 1 I (acU ?_);refine aX 3 1 (v:=.bool R.hl) I I I ?_;refine fin 0 I (th (fw I (fun e1=>?_) (fun e1=>?_)))
 ·rw[aab e1];refine acY ?_;refine fin 1 I (ac0 (rT (Bh ?_)));exact af I I ⟨_,_,_,I,⟨s,I,Cg _,iN⟩,I⟩
 rw[aaa (by simp[e1])];refine au ?_;refine cl 0 I (NB m p hS hb) ?_;rintro ch ae aR ⟨rfl,_,ao,cap,rfl,rfl,oE⟩;refine fin 5 I (th (Bg ?_));obtain⟨bq,U⟩:=a9 (decide ((enc m).isSome=false\/m.to≠R.nd\/de<m.term));refine sq ?_;refine jn (σ:=Unit) (fun _=>[(0,Rp rb),(3,Rp b3),(32,.bool bq)]) (fun _=>pt b3 (mv m p) 34::pt rb (aH lb R s) RT::lh::g::hs) (fun _=>True) ?_ ?_
 ·refine bC [1,0] 16 [0,2,4,6,8,10,12,14,16,18,20,22,24,26,28,30] ?_;refine dP qk 1 (ec (enc m)≠0) I Q8 (fun h2=>?_) (fun h2=>?_)
  ·refine aI qk 14 I ?_;exact jx () trivial ⟨I,I,by rw[U,decide_eq_true (.inl (by rw[<-FC];exact h2))];rfl,trivial⟩ rfl rfl
  refine au ?_;refine dP qk 0 (m.to≠R.nd) I Q8 (fun h3=>?_) (fun h3=>?_)
  ·refine aI qk 6 I ?_;exact jx () trivial ⟨I,I,by rw[U,decide_eq_true (.inr (.inl h3))];rfl,trivial⟩ rfl rfl
  refine au ?_;refine dU qk 0 (de<m.term) I (by unfold de;simp;omega) fun am ce=>?_;refine au ?_
  have e:am=bq:=by
   rw[FC]at h2
   grind
  exact jx () trivial ⟨I,I,by rw[<-e];rfl,trivial⟩ rfl rfl
 rintro _ _;refine fw I (fun h=>?_) (fun h=>?_)
 ·rw[h]at U;rw[aab (of_decide_eq_true U.symm)];refine acY ?_;refine fin 1 I (ac0 (rT (Bh ?_)));exact af I I ⟨_,_,_,I,⟨s,I,Cg _,iN⟩,I⟩
 rw[h]at U;have aN:=of_decide_eq_false U.symm;rw[aaa aN];have ho:m.ok:=I8 (by grind);have hf:=lG ho;refine au ?_;refine aw 0 I fun b1 an=>?_
 refine' eQ (q:=R.content=true) 1 3 39 [35,36] an I I I I I I I (fun _=>?x6) (fun b2 ap=>?_)
 case x6=>
  refine cl 1 I (Er 1 I KC) ?_;rintro ck bb aS ⟨_,rfl,rfl,rfl,rfl⟩;exact fin 1 I (bJ Iff.rfl I I I)
 refine fin 0 I<|th (ax ap I (fun e7=>?_) (fun e7=>?_))
 ·rw[aab qo];refine acY ?_;refine fin 1 I (ac0 (rT (Bh ?_)));exact af I I ⟨_,_,_,I,⟨s,I,Cg _,iN⟩,I⟩
 rw[aaa qo];refine sk (th ?_)
 refine kL (σ:=PH×(Nd×Lg×Dk)×NS×PH×PH) (fun _=>[(0,Rp rb),(3,Rp b3)]) (fun u=>u.1) (fun u=>pt b3 (mv m p) 34::pt rb (aH lb u.2.1.1 u.2.2.1) RT::u.2.2.2.1::u.2.2.2.2::hs)
  (fun u=>Le ae u.1/\cX u.1 rb lb db u.2.1.1 u.2.1.2.1 u.2.1.2.2 u.2.2.1 u.2.2.2.1 u.2.2.2.2/\NI (c+10) (q+1) z k u.2.1.1 u.2.1.2.1 u.2.1.2.2/\R.Sk L D m=u.2.1.1.Ru u.2.1.2.1 u.2.1.2.2 m) ?_ ?_
 ·unfold Nd.Sk;refine sq (bC [0] 5 [0,2,4,7,8] ?_);refine au ?_;refine cl 0 I (Cp [_] (iI iN.l)) ?_;rintro cm ag aT ⟨_,_,rfl,rfl,rfl,rfl,rfl⟩;refine aP Q8 I ?_;refine dU qk 0 (L.kt<m.term) I Q8 fun b4 aq=>?_;refine au ?_;refine ax aq I (fun e8=>?_) (fun e8=>?_)
  ·rw[aab e8];dsimp only;have a:=o.raise m.term hb.term;have hr:=fun(hs':Ac)=>MU (w0:=w0) (hs:=hs') iN o qo m.term hb.term;generalize R.raise L D m.term=A at a hr⊢;obtain⟨R1,L1,D1,c1⟩:=A;dsimp only at a hr⊢;refine au ?_;refine cl 0 I (Ek [_] (hr _)) ?_;rintro cn ak aV ⟨_,_,_,rfl,⟨O,rfl,J,N⟩,rfl⟩;refine au ?_;refine aw 1 I fun b5 av=>?_;refine fin 0 I (th (ax av I (fun aa=>?_) (fun aa=>?_)))
   ·rw[aab aa];refine acY ?_;refine fin 2 I (ac0 (rT (Bh ?_)));exact af I I ⟨_,_,_,I,⟨O,I,J,N⟩,I⟩
   rw[aaa aa];exact sk (fM (ak,(R1,L1,D1),O,_,_) ⟨J,N,a.up qo qo qo,I⟩ ⟨I,I,trivial⟩ I I)
  rw[aaa e8];exact sk (fM (ag,(R,L,D),s,_,_) ⟨Cg _,iN,o.up qo qo qo,I⟩ ⟨I,I,trivial⟩ I I)
 rintro⟨K1,⟨R1,L1,D1⟩,s1,cg,g1⟩ ⟨le,V,o1,hT⟩;dsimp only at le V o1 hT⊢;rw[hT];have ad:=hS.le le;have aO:=o1.rb.out;unfold Nd.Ru;refine sq (sq (bC [0] 5 [0,2,4,7,8] ?_));refine au ?_;refine cl 0 I (Cp [_] (iI V.l)) ?_;rintro cp bi aY ⟨_,_,rfl,rfl,rfl,rfl,rfl⟩;refine aP Q8 I ?_;refine dU qk 0 (m.term<L1.kt) I Q8 fun b6 ay=>?_;refine au ?_;refine ax ay I (fun ab=>?_) (fun ab=>?_)
 ·rw[aab ab];refine au ?_;refine cl 0 I (Ek [_] (MJ V qo m p)) ?_;rintro cq bm a0 ⟨_,_,_,rfl,⟨O,rfl,J,N⟩,rfl⟩;refine fin 0 I (acV ?_);refine fin 1 I (ac0 (rT (Bh ?_)));exact af I I ⟨_,_,_,I,⟨O,I,le.trans J,N⟩,I⟩
 rw[aaa ab];unfold Nd.Qj;refine au ?_;refine aw 0 I fun b7 az=>?_;refine fin 1 I (th (ax az I (fun k1=>?_) (fun k1=>?_)))
 ·replace k1:m.kind=1:=k1
  rw[aab k1];refine au ?_;refine cl 0 I (Ek [_] (NN V o1 qo qo m hb hf p)) ?_;rintro cr bo a1 ⟨_,_,_,rfl,⟨O,rfl,J,N⟩,rfl⟩;refine fin 1 I (ac0 (rB (rT (Bh ?_))));exact af I I ⟨_,_,_,I,⟨O,I,le.trans J,N⟩,I⟩
 replace k1:¬m.kind=1:=k1
 rw[aaa k1];refine acY ?_;refine aw 0 I fun b8 aA=>?_;refine fin 1 I (th (ax aA I (fun k2=>?_) (fun k2=>?_)))
 ·replace k2:m.kind=2:=k2
  rw[aab k2];refine au ?_;refine cl 0 I (Ek [_] (Mn V o1 qo qo m p)) ?_;rintro cs bp a2 ⟨_,_,_,rfl,⟨O,rfl,J,N⟩,rfl⟩;refine fin 1 I (ac0 (rB (rT (Bh ?_))));exact af I I ⟨_,_,_,I,⟨O,I,le.trans J,N⟩,I⟩
 replace k2:¬m.kind=2:=k2
 rw[aaa k2];refine acY ?_;refine aw 0 I fun b9 aD=>?_;refine fin 1 I (th (ax aD I (fun X=>?_) (fun X=>?_)))
 ·replace X:m.kind=3:=X
  rw[aab X];refine au ?_;refine cl 0 I (Ek [_] (PI V o1 qo qo m hb ho X p ad)) ?_;rintro ct bs a3 ⟨_,_,_,rfl,⟨O,rfl,J,N⟩,rfl⟩;refine fin 1 I (ac0 (rB (rT (Bh ?_))));exact af I I ⟨_,_,_,I,⟨O,I,le.trans J,N⟩,I⟩
 replace X:¬m.kind=3:=X
 rw[aaa X];refine acY ?_;refine aw 0 I fun ca aE=>?_;refine fin 1 I (th (ax aE I (fun k4=>?_) (fun k4=>?_)))
 ·replace k4:m.kind=4:=k4
  rw[aab k4];refine au ?_;refine cl 0 I (Ek [_] (O7 V o1 qo qo m hb hf p)) ?_;rintro cu bB a4 ⟨_,_,_,rfl,⟨O,rfl,J,N⟩,rfl⟩;refine fin 0 I (bl (acV ?_));refine fin 1 I (ac0 (Bh ?_));exact af I I ⟨_,_,_,I,⟨O,I,le.trans J,N⟩,I⟩
 replace k4:¬m.kind=4:=k4
 rw[aaa k4];refine acY ?_;refine aw 0 I fun cc aF=>?_;refine fin 1 I (th (ax aF I (fun Y=>?_) (fun Y=>?_)))
 ·replace Y:m.kind=5:=Y
  rw[aab Y];refine au ?_;refine cl 0 I (Ek [_] (NJ V o1 qo qo qo m hb ho Y p ad)) ?_;rintro cv bV a5 ⟨_,_,_,rfl,⟨O,rfl,J,N⟩,rfl⟩;refine fin 1 I (ac0 (rB (rT (Bh ?_))));exact af I I ⟨_,_,_,I,⟨O,I,le.trans J,N⟩,I⟩
 replace Y:¬m.kind=5:=Y
 rw[aaa Y];refine acY ?_;refine aw 0 I fun cd aL=>?_;refine fin 1 I (th (ax aL I (fun Z=>?_) (fun Z=>?_)))
 ·replace Z:m.kind=6:=Z
  rw[aab Z];refine au ?_;refine cl 0 I (Ek [_] (KH V o1 qo qo m ho Z p)) ?_;rintro cx b0 a6 ⟨_,_,_,rfl,⟨O,rfl,J,N⟩,rfl⟩;refine fin 0 I (bl (acV ?_));refine fin 1 I (ac0 (Bh ?_));exact af I I ⟨_,_,_,I,⟨O,I,le.trans J,N⟩,I⟩
 replace Z:¬m.kind=6:=Z
 rw[aaa Z];refine sk (bl (acV ?_));refine fin 1 I (ac0 (Bh ?_));exact af I I ⟨_,_,_,I,⟨s1,I,le,V⟩,I⟩
end
end
section
def GW{P:Program}{T:be}{ops:Ai}{Q:An}{rest rest':Aj}{n l l'}
  [hT:a8 P T] (k) {d si ao ao2 n1 c1 c2 h2} (h0:kE T ops n k rest l=some (d,si,(ao,n1,c1),(ao2,0,c2),rest',l'))
  (Y:n1<=c1) (hm:In K hs h2) (x:aj h2 ao2 0 c2 si.size [])
  (hk:WL P w0 ops Q rest' n ((d,.slice ao n1 c1)::l') K hs):WL P w0 ops Q rest n l K hs:=by
 unfold kE at h0
 split at h0
 ·rename_i oo r l2 ho
  split at h0
  ·rename_i d' args J hd Z
   split at h0
   ·rename_i x' y' t t' e1 e2
    split at h0
    ·rename_i ad O m1 k1 a2 m2 k2 X ab aa hx hy;simp only[aae,aah]at h0;obtain⟨rfl,rfl,⟨rfl,rfl,rfl⟩,⟨rfl,rfl,rfl⟩,rfl,rfl⟩:=h0;have N:t=t':=aaF ab;subst N;have U:args=#[x',y']:=by cases args;simp_all
     have V:J=#[t,t]:=by cases J;simp_all
     subst U;subst V;obtain⟨g1,ii,g2,g3,g4,g5⟩:=hT.sl aa
     refine Ec ho fun hg=>Dx (R:=fun u K' hs'=>u=.slice O m1 k1/\K'=K/\hs'=hs) hd X hg
      (fun A w ha hw=>?_) ?_
     ·rw[<-g4]at x;have hf:=vC (P:=P) hw hm x
      have hr:(Builtin.append_ #[t,t] oo.type #[.slice O m1 k1,.slice a2 0 k2]).run P w=.ok (.slice O m1 k1) w:=by
       cases O<;>simp[Builtin.append_,run_underlying g1,sizeOf,typeInfo,g2,Y,hf,storeCells,Builtin.lenOf]
      refine⟨_,w,K,_,?_,hw,I,I,I⟩;simp only[execOp,Z];simp[resolve,invoke,builtin,ha.ev hx,ha.ev hy,hr]
     rintro u K' hs' ⟨rfl,rfl,rfl⟩;exact hk
    simp at h0
   simp at h0
  simp at h0
 simp at h0
theorem wT:∀(l:Ae) (last:Int),confOK last l->∀v∈l,last<v
 |[],_,_,v,hv=>by cases hv
 |u::r,last,h,v,hv=>by
  rcases aaB.1 hv with rfl|hv
  ·exact h.1
  exact Int.lt_trans h.1<|wT r u h.2.2 v hv
def L6{c n}(h:confOK (-1) c){j}(hj:c[j]?=some n)(hn:n∉c.take j):(c.filter fun v=>decide (v≠n))=c.take j++c.drop (j+1):=by
 obtain⟨hl,e⟩:=aav.1 hj;have J:confOK (-1) (c.take j++c.drop j):=by rw[aaE];exact h
 rw[sR,aaI hl]at J;have N:=wT _ _ J.2.2.2;rw[e]at N;have e2:c=c.take j++n::c.drop (j+1):=by grind[List.drop_eq_getElem_cons,List.take_append_drop]
 generalize c.take j=x at e2 hn;generalize c.drop (j+1)=y at e2 N;rw[e2,abG,acO];simp only[ne_eq,not_true_eq_false,decide_false,acF,if_false]
 congr 1
 ·exact acs.2 fun v hv=>by grind
 exact acs.2 fun v hv=>by grind
section
variable {w0:World}{K hv:PH}{hs:Ac}
def MQ(hm:In K hs hv)(ao k l)(x:aj hv ao (eq l) k 1 (iv l))(hl:eq l<=2^40):
  ai w0 204 [.agg #[.slice ao (eq l) k]] K hs (fun v K' hs'=>K'=K/\hs'=hs/\v=.bool (decide (confOK (-1) l/\l≠[]))):=by
 refine ent Tryz.func204 ?_;refine au ?_;refine bx 0 I fun b1=>?_;refine au ?_;refine loop (σ:=Nat) (fun i=>[(1,Rp b1),(3,.int .i64 ((l.take i).getLastD (-1))),(7,.slice ao (eq l) k),(8,.int .i64 (eq l)),(9,.int .i64 (i:Nat))]) (fun _=>K) (fun i=>pt b1 #[.slice ao (eq l) k] 46::hs) (fun i=>i<=eq l/\confOK (-1) (l.take i)) (fun i=>eq l-i) 0 ⟨aad _,trivial⟩ ⟨I,I,I,I,I,trivial⟩ I I ?_;rintro i ⟨hi,Z⟩;refine acY ?_;refine bc 0 I (fun e2=>?_) (fun e2=>?_)
 ·refine au ?_;have J:i<eq l:=qo
  refine au ?_;refine ej 0 i I I I x (ma J) fun ab N=>?_;refine ld 0 I (Bl hm) N ?_;refine au ?_;refine aw 2 I fun ad U=>?_
  refine' dB (q:=7<=l[i]) 1 3 19 [15,16] U I I I I I I I (fun _=>?x4) (fun ag X=>?_)
  case x4=>
   refine aw 1 I fun ae V=>?_;exact fin 1 I (bJ V I I I)
  refine fin 0 I<|th (ax X I (fun e6=>?_) (fun e6=>?_))
  ·refine acY ?_;refine fin 1 I (ac0 (rT (rB (rT (rT (rB (rT (Bh ?_))))))));exact af I I ⟨I,I,by rw[decide_eq_false (fun h=>by have:=AK l i J h.1;omega)]⟩
  refine au ?_;refine cZ i ?_;have aa:(l.take (i+1)).getLastD (-1)=l[i]:=by grind
  exact bn (x:=i) (i+1) ⟨I,by rw[aa];rfl,rfl,rfl,rfl,trivial⟩ rfl rfl ⟨qo,Ay l i J Z qo qo⟩ qo
 refine au ?_;obtain rfl:i=eq l:=qo
 rw[aaG]at Z;refine au ?_;refine aw 1 I fun O Y=>?_;refine fin 1 I (ac0 (Bh ?_));refine af I I ⟨I,I,?_⟩
 rw[show O=decide (confOK (-1) l/\l≠[])from by
  rw[acn,Y,decide_eq_true_iff];cases l with
  |nil=>simp
  |cons a r=>simp[Z]]
def Eb(hm:In K hs hv)(ao k l)(x:aj hv ao (eq l) k 1 (iv l))(hl:eq l<=2^40)(n):
  ai w0 155 [.agg #[.slice ao (eq l) k],.int .i64 n] K hs (fun v O hs'=>O=K/\hs'=hs/\v=.bool (decide (confOK (-1) l/\l≠[]/\0<=n/\n<7))):=by
 refine ent Tryz.func155 ?_;refine acY ?_;refine bx 0 I fun b2=>?_;refine au ?_;refine cl 0 I (MQ (Bl hm) ao k l x hl) ?_;rintro v6 K6 aa ⟨rfl,rfl,rfl⟩
 refine' eQ (q:=0<=n) 1 3 10 [6,7] (decide_eq_true_iff (p:=confOK (-1) l/\l≠[])) I I I I I I I (fun _=>?x1) (fun U J=>?_)
 case x1=>
  refine aw 1 I fun b9 Z=>?_;exact fin 1 I (bJ Z I I I)
 refine' eQ (q:=n<7) 1 3 14 [10,11] J I I I I I I I (fun _=>?x3) (fun X Y=>?_)
 case x3=>
  refine aw 1 I fun V N=>?_;exact fin 1 I (bJ N I I I)
 refine fin 1 I (ac0 (Bh ?_));refine af I I ⟨I,I,?_⟩
 grind
abbrev zO(K:PH)(hs:Ac)(r:Ae×Int)(v:Value)(J:PH)(hs':Ac):Prop:=
 Le K J/\hs'=hs/\∃ao cap,v=.tuple #[.agg #[.slice ao (eq r.1) cap],.int .i64 r.2]/\aj J ao (eq r.1) cap 1 (iv r.1)
def PK(ao k c)(x:aj K ao (eq c) k 1 (iv c))(hl:eq c<=2^40)(n):
  ai w0 86 [.agg #[.slice ao (eq c) k],.int .i64 n] K hs (zO K hs (jF c n)):=by
 unfold jF;refine ent Tryz.func86 ?_;refine acY ?_;refine bx 0 I fun b2=>?_;refine al 0 (.agg Ij) I qk fun b4=>?_;refine au ?_;refine cl 1 I (Eb (.inl I) ao k c x hl n) ?_;rintro a2 aO aE ⟨rfl,rfl,rfl⟩;refine cG 0 (¬(confOK (-1) c/\c≠[]/\0<=n/\n<7)) I (by grind) fun aV an=>?_;refine fin 1 I (th (ax an I (fun V=>?_) (fun V=>?_)))
 ·rw[aab V];refine acY ?_;refine bd 0 (.agg Ij) I Aq ?_;refine au ?_;exact gk 0 2 I I I I qk ⟨Cg _,I,none,0,I,aj.nil _ _ _ _⟩
 rw[aaa V];refine au ?_;refine cl 1 I (tV (.inl I) ao k c x hl n) ?_;rintro a3 aR aF ⟨rfl,rfl,rfl⟩;refine fin 1 I (th (ax decide_eq_true_iff I (fun e2=>?_) (fun e2=>?_)))
 ·rw[aab e2];refine acY ?_;refine bd 0 (.agg Ij) I Aq ?_;refine au ?_;exact gk 0 2 I I I I qk ⟨Cg _,I,none,0,I,aj.nil _ _ _ _⟩
 rw[aaa e2];have V:=aag.1 V;have aA:=qR c _ V.1 qo qo;have X:0<eq c:=abz.2 V.2.1;obtain⟨a,rfl⟩:=x.addr X qo;refine au ?_;refine cl 0 I (EJ a k c (.inl I) x X qo) ?_;rintro a4 aS aL ⟨rfl,a1,ay,aY,rfl,rfl,aq⟩;refine lit 1 #[.int .i64 n] I Q9 qk fun O=>?_;have xm:aj (pt O #[.int .i64 n] 3) (some ⟨O,0,none⟩) 1 1 1 (iv [n]):=(aJ.Re (b:=O) (c:=#[.int .i64 n]) (e:=3) (n:=1) (size:=1) rfl Q9).Ni;refine vd 0 1 c n I I I aq (.inr ⟨0,I⟩) xm qo fun az U a0 av=>?_;obtain⟨xs,ag⟩:∃xs:Af,xs=(c++[n]).map Int.toNat:=⟨_,rfl⟩
 have aD:∀v∈c++[n],0<=v:=fun v hv=>by
  rcases aao.1 hv with h|h
  ·exact(qQ c _ V.1 qo v h).1
  simp_all
 have aa:∀ys:Af,iv (ys.map fun v=>((v:Nat):Int))=iC false ys:=fun ys=>by simp[iv,iC,kI]
 have ae:(c++[n])=xs.map fun v=>((v:Nat):Int):=by
  rw[ag,aa8];exact((List.map_id _).symm.trans (abn fun v hv=>by grind))
 have Z:eq xs=eq (c++[n]):=by rw[ag,aaM]
 obtain⟨q1,q2,q3,⟨q4,q5,q6⟩|⟨g,off,J,rfl,rfl,q4,q5⟩⟩:=id av
 ·exfalso;simp at q2;omega
 rw[aaf,<-Z,ae,aa]at q5
 have N:J=kA false (J.toList.take off) xs (J.toList.drop (off+eq xs)):=by
  unfold kA;rw[<-q5,aaH,<-aaP,aaE,aaE]
 have ab:eq (J.toList.take off)=off:=by simp;omega
 generalize J.toList.take off=pre at N ab;generalize J.toList.drop (off+eq xs)=post at N;subst ab N;refine Ew (pt O #[.int .i64 n] 3::pt g (kA false pre xs post) 3::pt b4 Ij 46::pt b2 #[.slice (some a) (eq c) k] 46::hs) I ?_;rw[<-Z];refine Bi (aap ..) ?_;refine au ?_;refine cl 1 I (y5 false g U pre post xs qo (by simp at Z;omega)) ?_;rintro a5 aT aN ⟨rfl,ys,rfl,hp,ad⟩;have am:eq ys=eq xs:=hp.len;rw[<-am]at ad;have ap:=ad.pw
 have ak:(ys.map fun v=>((v:Nat):Int))=fb (c++[n]):=by
  refine xZ ?_ ap;rw[ae];exact hp.perm.map _
 have Y:eq ys=eq (fb (c++[n])):=by rw[<-ak,aaM]
 refine Eg fun K' le lg=>?_;refine au ?_;refine bd 1 (.agg #[.slice (some ⟨g,eq pre,none⟩) (eq xs) U]) I Aq ?_;refine au ?_;refine gk 1 3 I I I I qk ⟨le,I,some ⟨g,eq pre,none⟩,U,by rw[<-am,Y],?_⟩;have xl:=pX (kd:=false) (g:=g) (e:=3) (pre:=pre) (xs:=ys) (post:=post) (cap:=U) qo;rw[<-aa,ak,Y]at xl;exact xl.le lg
def Pi(ao k c)(x:aj K ao (eq c) k 1 (iv c))(hl:eq c<=2^40)(n):
  ai w0 85 [.agg #[.slice ao (eq c) k],.int .i64 n] K hs (zO K hs (ku c n)):=by
 unfold ku;refine ent Tryz.func85 ?_;refine acY ?_;refine bx 0 I fun b2=>?_;refine al 0 (.agg Ij) I qk fun b4=>?_;refine au ?_;refine cl 1 I (Eu (.inl I) ao k c x hl n) ?_;rintro aT aA ay ⟨rfl,rfl,i,rfl,ak,aR⟩;refine au ?_;refine cl 1 I (Eb (.inl I) ao k c x hl n) ?_;rintro aV aa az ⟨rfl,rfl,rfl⟩;refine cG 0 (¬(confOK (-1) c/\c≠[]/\0<=n/\n<7)) I (by grind) fun aD ab=>?_;refine fin 1 I (th (ax ab I (fun U=>?_) (fun U=>?_)))
 ·rw[aab U];refine acY ?_;refine bd 0 (.agg Ij) I Aq ?_;refine au ?_;exact gk 0 2 I I I I qk ⟨Cg _,I,none,0,I,aj.nil _ _ _ _⟩
 rw[aaa U];have U:=aag.1 U;refine acY ?_;refine aw 1 I fun aE ad=>?_
 refine' dB (q:=eq c=1) 1 5 25 [19,20] ad I I I I I I I (fun _=>?x3) (fun aL X=>?_)
 case x3=>
  refine au ?_;refine cG 1 (eq c=1) I Au fun aF ae=>?_;exact fin 1 I (bJ ae I I I)
 have ag:i<0↔n∉c:=by
  grind
 rw[ag]at X;refine fin 1 I (th (ax X I (fun e5=>?_) (fun e5=>?_)))
 ·rw[aab e5];refine acY ?_;refine bd 0 (.agg Ij) I Aq ?_;refine au ?_;exact gk 0 2 I I I I qk ⟨Cg _,I,none,0,I,aj.nil _ _ _ _⟩
 rw[aaa e5];have Y:n∈c:=abq fun h=>e5 (.inl h);obtain⟨j,rfl,hj,an⟩:=ak Y;have am:j<eq c:=(aav.1 hj).1;rw[L6 U.1 hj an];refine sk (bl (th (sq (bC [1] 14 [0,2,4,6,10,12,14,16,18,9,21,22,25,26] ?_))));refine au ?_
 have aq:aj aa ao j j 1 (iv (c.take j)):=⟨by simp[iv];omega,aac _,fun i u hu=>x.2.2 i u (by
  simp_all[abL,iv])⟩
 refine au ?_;refine bF qk 1 I (ba (x:=((j+1:Nat):Int)) qo) ?_;obtain⟨r,hr⟩:=a9 (eq c-(j+1));have gw:eq (c.drop (j+1))=r:=by rw[aar,hr]
 refine zW qk 0 (j+1) r I I x I (by show((eq c:Nat):Int)=_;omega) qo (ys:=iv (c.drop (j+1))) (by
  simp_all[aaA,iv]) fun av aN O=>?_
 refine au ?_;refine uO 0 0 j j I I Q8 I qo (by have:=x.2.1;omega) ?_;rw[pZ,abT];refine aP Q8 I ?_;refine aB qk 0 I ?_;have J:eq (c.take j++c.drop (j+1))=j+r:=by grind
 rcases aa7 r with h0|aS
 ·subst h0;have Z:c.drop (j+1)=[]:=aaY gw;rw[Z]at O;refine GW 0 I (aac _) (.inl I) O ?_;refine aP Q8 I ?_;refine jh qk 0 (.agg #[.slice ao j j]) I Aq ?_;refine aB qk 0 I ?_;refine bA 0 0 I I qk I I ?_;refine aP Q8 I ?_;refine aI qk 1 I (ac0 ?_);refine gk 0 2 I I I I qk ⟨Cg _,I,ao,j,by rw[J];rfl,?_⟩
  grind
 refine qn 0 I (.inl I) aq (fun h=>by obtain⟨a,ha⟩:=x.addr am qo;rw[ha]at h;cases h) (.inl rfl) O rfl Q9 qo (by show(j+r)*8<=_;omega) As fun N V aO ap=>?_;refine aP Q8 I ?_;refine jh qk 0 (.agg #[.slice N (j+r) V]) I Aq ?_;refine aB qk 0 I ?_;refine bA 0 1 I I qk I I ?_;refine aP Q8 I ?_;refine aI qk 1 I (ac0 (Ei fun K' le lg=>?_));refine gk 0 2 I I I I qk ⟨le,I,N,V,by rw[J],?_⟩;rw[J,show iv (c.take j++c.drop (j+1))=iv (c.take j)++iv (c.drop (j+1))from by simp[iv]];exact ap.Ni.le lg
end
end
section
def zY(a:sD):Value:=.tuple #[.int .u64 a.1,.int .u64 a.2.1,.int .i64 a.2.2]
def KI{c n}(h:(jF c n).2=0):0<=n/\n<7:=by
 grind[jF]
def Js{c}(n):eq (jF c n).1<=eq c+1:=by
 unfold jF
 split
 ·simp
 split
 ·simp
 rw[(dW _).length_eq];simp
def Jr{c}(n):eq (ku c n).1<=eq c:=by
 grind[ku]
section
variable {w0:World}{K lh g:PH}{hs:Ac}{rb lb db c q z k:Nat}{R:Nd}{L:Lg}{D:Dk}{s:NS}
def KB(b):(¬ec (jE b)=0)=((jE b).isSome=false):=by
 cases jE b<;>simp[ec]
def J2(X:cX K rb lb db R L D s lh g)(o:NI c q z k R L D)(hc:c<=800000000)(hk:k<=4800000){hb}(b)(hm:In K (pt rb (aH lb R s) RT::lh::g::hs) hb)(ab cb)(x:aj hb ab (eq b) cb 1 (bv b))(hl:eq b<2^40):
  gc w0 K hs rb lb db R s lh g 34 [Rp rb,.slice ab (eq b) cb] (R.Jk L D b).1 (R.Jk L D b).2.1 (R.Jk L D b).2.2.1 (zY (R.Jk L D b).2.2.2):=by
 unfold Nd.Jk;refine ent Tryz.func34 ?_;refine au ?_;refine cl 1 I t9 ?_;rintro az ak aa ⟨rfl,rfl,rfl⟩;refine au ?_;refine aw 1 I fun aq V=>?_;refine fin 0 I (th (ax V I (fun e2=>?_) (fun e2=>?_)))
 ·rw[aab e2];refine au ?_;exact fF I I I I ⟨_,_,_,I,⟨s,I,Cg _,X⟩,I⟩
 rw[aaa e2];refine sk (acV ?_);refine cl 1 I (EB ab cb b hm x hl) ?_;rintro aA am ad ⟨rfl,rfl,rfl⟩;refine al 3 (.agg #[.int .i64 0,.int .u64 0,.int .u64 0,.string ⟨#[]⟩,.int .i64 0]) I qk fun b7=>?_;refine au ?_;refine aw 1 I fun av J=>?_;rw[KB]at J;refine fin 0 I (th (ax J I (fun U=>?_) (fun U=>?_)))
 ·rw[aab U];refine acY ?_;refine fin 3 I (ac0 (rT (Bh ?_)));exact fF I I I I ⟨_,_,_,I,⟨s,I,Cg _,X⟩,I⟩
 rw[aaa U];refine sk (acV ?_);refine cl 2 I (lJ ab cb b (Bl hm) x hl) ?_;rintro aD an ae ⟨rfl,ay,N,O,rfl,rfl,Z⟩;refine Eg fun K1 le lg=>?_;refine Ew (pt b7 ((jE b).getD d8.zero).v 93::pt rb (aH lb R s) RT::lh::g::hs) I ?_;refine cl 0 I (Ek [_] (zd (X.le le) o hc hk 1 b hl N O (Z.Ni.le lg))) ?_;rintro aE ap ag ⟨_,_,_,rfl,⟨s2,rfl,Y,I2⟩,rfl⟩;refine fin 6 I (ac0 (Bh ?_));exact fF I I I I ⟨_,_,_,I,⟨s2,I,le.trans Y,I2⟩,I⟩
def Om(J:cX K rb lb db R L D s lh g)(o:NI c q z k R L D)(V:c<=900000000)(hk:k<=6400000):
  gc w0 K hs rb lb db R s lh g 36 [Rp rb] (R.read L).1 L D (zY (R.read L).2):=by
 unfold Nd.read;refine ent Tryz.func36 ?_;refine au ?_;refine cl 1 I t9 ?_;rintro v6 K6 ae ⟨rfl,rfl,rfl⟩;refine au ?_;refine bc 1 I (fun e2=>?_) (fun e2=>?_)
 ·refine au ?_;rw[aab e2];refine au ?_;exact fF I I I I ⟨_,_,_,I,⟨s,I,Cg _,J⟩,I⟩
 rw[aaa e2];refine au ?_;refine cl 1 I (BR o V J.l) ?_;rintro ag aa X ⟨_,_,rfl,rfl,rfl,rfl,rfl⟩;refine cG 0 (R.settled L=false) I Q8 fun ad O=>?_;refine fin 0 I (th (ax O I (fun N=>?_) (fun N=>?_)))
 ·refine au ?_;rw[aab N];refine au ?_;exact fF I I I I ⟨_,_,_,I,⟨s,I,Cg _,J⟩,I⟩
 rw[aaa N];refine sk (acV ?_);refine cl 1 I (um J o V hk true) ?_;rintro ak ab Y ⟨_,_,_,rfl,⟨s2,rfl,U,Z⟩,rfl⟩;refine au ?_;refine bC [0] 11 [0,2,4,6,8,10,12,14,16,18,20] ?_;refine au ?_;exact fF I I I I ⟨_,_,_,I,⟨s2,I,U,Z⟩,I⟩
def Di(iN:cX K rb lb db R L D s lh g)(o:NI c q z k R L D)(hc:c<=800000000)(hk:k<=4800000)(a n):
  gc w0 K hs rb lb db R s lh g 35 [Rp rb,.bool a,.int .i64 n] (R.change L D a n).1 (R.change L D a n).2.1 (R.change L D a n).2.2.1 (zY (R.change L D a n).2.2.2):=by
 have O:=o.last qo;have az:gf L.cfg.1:=jB o.rn.lb o.cf L.last;have bp:=az.len;have aF:=Js (c:=L.cfg.1) n;have aL:=Jr (c:=L.cfg.1) n;unfold Nd.change;refine ent Tryz.func35 ?_;refine au ?_;refine cl 1 I t9 ?_;rintro bB a0 aN ⟨rfl,rfl,rfl⟩;refine au ?_;refine aw 1 I fun a5 an=>?_;refine fin 0 I (th (ax an I (fun e2=>?_) (fun e2=>?_)))
 ·rw[aab e2];refine au ?_;exact fF I I I I ⟨_,_,_,I,⟨s,I,Cg _,iN⟩,I⟩
 rw[aaa e2];refine sk (acV ?_);refine cl 1 I (m6 o qo iN.l) ?_;rintro bV a1 aO ⟨_,lh,rfl,rfl,rfl,Z,ao,cap,rfl,x⟩;have I1:=iN.le Z;refine al 3 (.agg Ij) I qk fun b9=>?_;refine bA 0 0 I I qk I I ?_;refine Ew (pt b9 #[.slice ao (eq L.cfg.1) cap] 46::pt rb (aH lb R s) RT::lh::g::hs) I ?_;refine au ?_;refine cl 1 I (Cp [_] (BR o qo I1.l)) ?_;rintro b0 aa aR ⟨_,lh,rfl,rfl,rfl,rfl,rfl⟩;refine cG 0 (R.settled L=false) I Q8 fun a6 ap=>?_
 refine' dB (q:=R.Je<L.cfg.2) 1 7 34 [26,27] ap I I I I I I I (fun _=>?x3) (fun bi av=>?_)
 case x3=>
  refine au ?_;refine cG 0 (R.Je<L.cfg.2) I Q8 fun bb aq=>?_;exact fin 1 I (bJ aq I I I)
 refine fin 0 I<|th (ax av I (fun e5=>?_) (fun e5=>?_))
 ·rw[aab e5];refine acY ?_;refine fin 3 I (ac0 (rT (Bh ?_)));exact fF I I I I ⟨_,_,_,I,⟨s,I,Z,I1⟩,I⟩
 rw[aaa e5];refine sk (th ?_);refine acY ?_;refine fin 1 I (th ?_);refine jn (σ:=Unit) (fun _=>[(0,Rp rb),(1,.bool a),(2,.int .i64 n),(9,Rp b9),(11,.func (.func (if a=true then 86 else 85)) #[] #[])]) (fun _=>pt b9 #[.slice ao (eq L.cfg.1) cap] 46::pt rb (aH lb R s) RT::lh::g::hs) (fun _=>True) ?_ ?_
 ·refine au ?_;refine fw I (fun h6=>?_) (fun h6=>?_)
  ·refine rg ?_;refine fin 1 I ?_;exact jx () trivial ⟨I,I,I,I,by rw[aab h6];rfl,trivial⟩ rfl rfl
  exact sk (jx () trivial ⟨I,I,I,I,by rw[aaa (by simp[h6])];rfl,trivial⟩ rfl rfl)
 rintro _ _
 have Y:∀hs':Ac,ai w0 (if a=true then 86 else 85) [.agg #[.slice ao (eq L.cfg.1) cap],.int .i64 n] aa hs' (zO aa hs' (if a=true then jF L.cfg.1 n else ku L.cfg.1 n)):=fun hs'=>by
  cases a with
  |true=>exact PK ao cap L.cfg.1 x qo n
  |false=>exact Pi ao cap L.cfg.1 x qo n
 have X:∀h:a=true,(if a=true then jF L.cfg.1 n else ku L.cfg.1 n).2=0->0<=n/\n<7:=fun h h0=>by
  rw[aab h]at h0;exact KI h0
 have ad:eq (if a=true then jF L.cfg.1 n else ku L.cfg.1 n).1<=8:=by
  split<;>omega
 dsimp only;generalize (if a=true then jF L.cfg.1 n else ku L.cfg.1 n)=r at Y X ad⊢;obtain⟨r1,r2⟩:=r;dsimp only at Y X ad⊢;refine au ?_;refine cl 1 I (Y _) ?_;rintro b1 ag aS ⟨ae,rfl,V,J,rfl,x2⟩;refine bA 3 0 I I qk I I ?_;refine Ew (pt b9 #[.slice V (eq r1) J] 46::pt rb (aH lb R s) RT::lh::g::hs) I ?_;refine au ?_;refine aw 1 I fun bm ay=>?_;have I2:=I1.le ae;have U:=Z.trans ae;refine fin 0 I (th (ax ay I (fun e8=>?_) (fun e8=>?_)))
 ·rw[aab e8];refine acY ?_;refine fin 4 I (ac0 (rT (Bh ?_)));exact fF I I I I ⟨_,_,_,I,⟨s,I,U,I2⟩,I⟩
 rw[aaa e8];refine sk (th ?_);obtain⟨R1,N⟩:=a9 (if a=true then R.Jp n (Pr.new (L.last+1))else R)
 have I3:cX ag rb lb db R1 L D s lh g:=by
  rw[N]
  split
  ·exact⟨I2.l,I2.g.r⟩
  exact I2
 have o3:NI c q z k R1 L D:=by
  rw[N]
  split
  ·exact(o.r (o.rb.Jp n (p:=Pr.new (L.last+1)) ⟨by unfold de;exact(by decide:0+1<=2^62),O,by show 0<=ac;omega,aaD 0,by show(0:Int)<=2097152;omega⟩))
  exact o
 rw[<-N];refine jn (σ:=Unit) (fun _=>[(0,Rp rb),(9,Rp b9)]) (fun _=>pt b9 #[.slice V (eq r1) J] 46::pt rb (aH lb R1 s) RT::lh::g::hs) (fun _=>True) ?_ ?_
 ·refine au ?_;refine fw I (fun h9=>?_) (fun h9=>?_)
  ·obtain⟨bq,bs⟩:=X h9 (aag.1 e8);obtain⟨j,rfl⟩:∃j:Nat,n=(j:Int):=⟨n.toNat,qo⟩;have ab:j<7:=qo
   refine bC [1] 12 [0,2,4,6,8,10,18,20,13,14,16,22,25] ?_;refine au ?_;refine cl 0 I (Ck 2 I (mp lb db L D c o.rn.lb qo I2.l)) ?_;rintro b2 a2 aT ⟨rfl,rfl,rfl⟩;refine aP Q8 I ?_;refine bF qk 0 I (bL (x:=((L.last+1:Nat):Int)) (by unfold de at O;omega)) ?_;refine jh qk 0 (.agg #[.int .u64 0,.int .u64 (L.last+1:Nat),.int .u64 0,.bool false,.int .i64 0]) I Aq ?_;refine qm (sz:=5) (a:=⟨rb,10,none⟩) qk 0 j I Tryz.underlying101 qk I ab ?_;rw[bf];refine au ?_;refine lX 0 1 (off:=10+j*5) (cs:=#[.int .u64 0,.int .u64 (L.last+1:Nat),.int .u64 0,.bool false,.int .i64 0]) I I qk (by show 10+j*5+5<=54;omega) (fun v hv=>by simp at hv;rcases hv with rfl|rfl|rfl|rfl|rfl<;>rfl) ?_;refine Ez 1 (pt rb (aH lb R1 s) RT) ?_ (.there (.here (by rw[N,aab h9,<-D5 lb R s ab (Pr.new (L.last+1))];rfl)))
   refine bQ (.inl qk) ?_;refine aI qk 0 I ?_;exact jx () trivial sb I I
  exact sk<|jx () trivial sb I (by rw[N,aaa (by simp[h9])])
 rintro _ _;refine au ?_;refine cl 0 I (tM V J r1 (.inl I) x2 qo) ?_;rintro b3 a3 aV ⟨rfl,bo,ak,am,rfl,rfl,aE⟩;refine fin 5 I (acV (Eg fun K1 le lg=>?_))
 have aA:eq (ob (bG r1))<2^40:=by
  unfold bG
  split<;>simp[ob]
 refine cl 2 I (Ek [_] (zd (I3.le le) o3 hc hk 2 (ob (bG r1)) aA ak am (aE.Ni.le lg))) ?_;rintro b4 a4 aY ⟨_,_,_,rfl,⟨s2,rfl,aD,I4⟩,rfl⟩;refine fin 6 I (ac0 (Bh ?_));exact fF I I I I ⟨_,_,_,I,⟨s2,I,(U.trans le).trans aD,I4⟩,I⟩
end
end
section
section
variable {w0:World}{K lh g:PH}{hs:Ac}{rb lb db c q z k:Nat}{R:Nd}{L:Lg}{D:Dk}{s:NS}
def Fe:ai w0 30 [Rp rb] K (pt rb (aH lb R s) RT::hs) (fun v J hs'=>J=K/\hs'=pt rb (aH lb R s) RT::hs/\v=.int .i64 R.role):=by
 refine ent Tryz.func30 ?_;refine au ?_;exact af I I ⟨I,I,I⟩
def tT:ai w0 15 [Rp rb] K (pt rb (aH lb R s) RT::hs) (fun v J hs'=>J=K/\hs'=pt rb (aH lb R s) RT::hs/\v=.int .u64 R.Je):=by
 refine ent Tryz.func15 ?_;refine au ?_;exact af I I ⟨I,I,I⟩
def LG:ai w0 31 [Rp rb] K (pt rb (aH lb R s) RT::hs) (fun v J hs'=>J=K/\hs'=pt rb (aH lb R s) RT::hs/\v=.int .i64 R.lead):=by
 refine ent Tryz.func31 ?_;refine au ?_;exact af I I ⟨I,I,I⟩
def IL(iN:iq K rb R s g):
  ai w0 12 [Rp rb] K (pt rb (aH lb R s) RT::g::hs)
   (fun v O hs'=>∃a g',hs'=a::g'::hs/\Le K O/\(∃s',a=pt rb (aH lb {R with out:=[]} s') RT/\iq O rb {R with out:=[]} s' g')/\∃ao cap,v=.slice ao (eq R.out) cap/\dn 14 (jv O) O ao (eq R.out) cap R.out):=by
 obtain⟨N,J,Y,rfl,dj,⟨y,v,d,⟨U,V,eo,so⟩,f⟩⟩:=iN;obtain⟨sy,Z,sd,aa,f0,f1,f2⟩:=s;dsimp only at eo y v d f;subst eo;refine ent Tryz.func12 ?_;refine acY ?_;refine fin 1 I (acV ?_);refine aX 3 0 I I I ?_;refine fin 1 I (acV ?_);refine Ji 3 0 I I I I ?_;refine Ez 0 (pt rb (aH lb {R with out:=[]} ⟨sy,Z,sd,.slice none 0 0,f0,f1,f2⟩) RT) ?_;refine Bi (aak [_] [_] hs) (Be dj ?_);refine fin 0 I (acV ?_);refine Bi (hs':=Y::N::J::pt rb (aH lb {R with out:=[]} ⟨sy,Z,sd,.slice none 0 0,f0,f1,f2⟩) RT::hs) ?_ (Eg fun K1 le lg=>WL.em ?_)
 ·exact(aak [N,J] [Y] _)
 refine Bi (aak [En.em] [N,J] _) (WL.join [N,J,En.em] fun X=>Bi (aak [_] [_] hs) ?_);refine au ?_;refine af I I ⟨_,_,I,le,⟨_,I,N,J,En.em,I,X,?_⟩,U,V,I,?_⟩
 ·obtain⟨y',v',d',_,f'⟩:=(nE.mk y v d ⟨U,V,rfl,so⟩ f:nE K rb R ⟨sy,Z,sd,.slice U (eq R.out) V,f0,f1,f2⟩ N J Y).le le;exact⟨y',v',d',⟨none,0,I,ka.nil _ _⟩,f'⟩
 exact so.SL.le lg fun _ _=>jv.le le
def FX(o:bh c L)(O:dV K lb db L D lh)(n):
  ai w0 61 [.int .i64 n,Rp lb] K (lh::hs)
   (fun v N hs'=>∃rb g,hs'=pt rb (aH lb (Nd.new n L) ⟨.slice none 0 0,.slice none 0 0,.slice none 0 0,.slice none 0 0,gu rb,gu rb,kK rb⟩) RT::lh::g::hs/\v=Rp rb/\Le K N/\cX N rb lb db (Nd.new n L) L D ⟨.slice none 0 0,.slice none 0 0,.slice none 0 0,.slice none 0 0,gu rb,gu rb,kK rb⟩ lh g):=by
 refine ent Tryz.func61 ?_;refine au ?_;refine cl 3 I (qa lb db L D c o O) ?_;rintro v9 K9 Z ⟨h',rfl,Y,le,aV,cV,U,V,rfl,xV,xD⟩;subst Y;refine jy 0 (v:=.int .u64 L.sn.idx) I (fun A w J _=>nS (t:=48) (x:=.tmp 9) (i:=0) (v:=.agg (dg L.sn aV cV U V)) I I Aq A w J) ?_;refine bd 0 (.agg (aH lb (Nd.new n L) ⟨.slice none 0 0,.slice none 0 0,.slice none 0 0,.slice none 0 0,.nilFunc,.nilFunc,.nilFunc⟩)) I Aq ?_;refine bx 0 I fun rb=>?_;refine Ez 0 (pt rb (aH lb (Nd.new n L) ⟨.slice none 0 0,.slice none 0 0,.slice none 0 0,.slice none 0 0,.nilFunc,.nilFunc,.nilFunc⟩) RT) ?_;refine au ?_;refine jy 2 (v:=gu rb) I (fun A w J _=>yn (f:=.func 121) (x:=.tmp 14) (v:=Rp rb) I I Aq A w J) ?_;refine jy 1 (v:=gu rb) I (fun A w J _=>yn (f:=.func 121) (x:=.tmp 16) (v:=Rp rb) I I Aq A w J) ?_
 refine jy 1 (v:=kK rb) I (fun A w J _=>yn (f:=.func 122) (x:=.tmp 18) (v:=Rp rb) I I Aq A w J) ?_;refine bd 0 (.agg #[gu rb,gu rb,kK rb]) I Aq ?_;refine lX 2 0 (off:=51) (cs:=#[gu rb,gu rb,kK rb]) I I qk (by show 51+3<=54;omega) (fun v hv=>by simp at hv;rcases hv with rfl|rfl<;>rfl) ?_;refine Ez 0 (pt rb (aH lb (Nd.new n L) ⟨.slice none 0 0,.slice none 0 0,.slice none 0 0,.slice none 0 0,gu rb,gu rb,kK rb⟩) RT) ?_;refine fin 0 I (acV ?_);refine fin 2 I (ac0 (Ev (Ev (Ev (WQ.join [En.em,En.em,En.em] fun X=>Bk (aak [_] [_,_] hs) ?_)))));exact af I I ⟨rb,_,I,I,le,⟨O.le le,En.em,En.em,En.em,I,X,⟨none,0,I,aJ.nil _ _⟩,⟨none,0,I,aj.nil _ _ _ _⟩,⟨none,0,I,aJ.nil _ _⟩,⟨none,0,I,ka.nil _ _⟩,I,I,I⟩⟩
def Fc(N:cX K rb lb db R L D s lh g)(o:NI c q z k R L D)(hc:c<=499900000)(i)(hi:i<2^64)(data)(ag:eq data<2^40)(aT cT)(xT:aj K aT (eq data) cT 1 (bv data)):
  gc w0 K hs rb lb db R s lh g 37 [Rp rb,.int .u64 (i:Nat),.slice aT (eq data) cT] (R.save L D i data).1 (R.save L D i data).2.1 (R.save L D i data).2.2.1 (.int .i64 (R.save L D i data).2.2.2):=by
 have ae:gf (ei L.sn L.l i).1:=jB o.rn.lb o.cf i;have aL:=ae.len;unfold Nd.save;refine ent Tryz.func37 ?_;refine acY ?_;refine fin 1 I (th (sq (bk (acY ?_))));refine aX 3 0 (v:=.bool R.hl) I I I ?_;refine fin 1 I (th (fw I (fun e1=>?_) (fun e1=>?_)))
 ·rw[aab e1];refine au ?_;exact af I I ⟨_,_,_,I,⟨s,I,Cg _,N⟩,I⟩
 rw[aaa (by simp[e1])];obtain⟨bq,J⟩:=a9 (decide (R.Je<i\/i<=L.sn.idx));refine kL (σ:=PH) (fun _=>[(0,Rp rb),(1,.int .u64 (i:Nat)),(2,.slice aT (eq data) cT),(17,.bool bq)]) (fun u=>u) (fun _=>pt rb (aH lb R s) RT::lh::g::hs) (fun u=>Le K u) ?_ ?_
 ·refine au ?_;refine bc 0 I (fun h1=>?_) (fun h1=>?_)
  ·refine fin 11 I ?_;exact fM K (Cg _) ⟨I,I,I,by rw[J,decide_eq_true (.inl qo)];rfl,trivial⟩ rfl rfl
  refine au ?_;refine cl 0 I (Er 1 I (qa lb db L D c o.rn.lb N.l)) ?_;rintro aN aa ak ⟨h',rfl,hh,le,aV,cV,aD,cD,rfl,xV,xD⟩;subst hh;refine jy 0 (v:=.int .u64 L.sn.idx) I (fun A w ha _=>nS (t:=48) (x:=.tmp 30) (i:=0) (v:=.agg (dg L.sn aV cV aD cD)) I I Aq A w ha) ?_;refine cG 0 (i<=L.sn.idx) I Q8 fun ab aF=>?_;refine fin 2 I ?_
  have e:ab=bq:=by
   grind
  exact fM aa le ⟨I,I,I,by rw[<-e];rfl,trivial⟩ rfl rfl
 intro K2 le;dsimp only at le⊢;have N:=N.le le;refine fw I (fun h=>?_) (fun h=>?_)
 ·rw[h]at J;rw[aab (of_decide_eq_true J.symm)];refine au ?_;exact af I I ⟨_,_,_,I,⟨s,I,le,N⟩,I⟩
 rw[h]at J;rw[aaa (of_decide_eq_false J.symm)];refine au ?_;refine cl 1 I (Ck 1 I (nr lb db L D c o.rn.lb qo N.l i hi)) ?_;rintro aO av am ⟨rfl,rfl,rfl⟩;refine au ?_;refine cl 1 I (Er 1 I (EI lb db L D c o.rn.lb qo N.l i (by unfold ac;omega))) ?_;rintro aR ay an ⟨h',rfl,hh,V,Z,cS,rfl,xS⟩;subst hh;refine al 3 (.agg Ij) I qk fun b9=>?_;refine bA 0 0 I I qk I I ?_;refine Ew (pt b9 #[.slice Z (eq (ei L.sn L.l i).1) cS] 46::pt rb (aH lb R s) RT::h'::g::hs) I ?_;have I2:=N.le V;have X:=le.trans V;have O:=fun(hs':Ac)=>Pd (w0:=w0) (hs:=hs') lb db L D c o.rn.lb hc o.rn.ok I2.l ⟨i,(L.Ka i).1,(ei L.sn L.l i).1,data⟩ hi (RX o.rn.lb i) aC ag Z cS aT cT xS (xT.le X);generalize L.save ⟨i,(L.Ka i).1,(ei L.sn L.l i).1,data⟩ D=A at O⊢;obtain⟨L1,D1,c1⟩:=A;dsimp only at O⊢;refine au ?_
 refine bC [1,0] 11 [0,2,4,6,8,10,12,14,16,19,20] ?_;refine au ?_;refine jh qk 1 (.agg (dg ⟨i,(L.Ka i).1,(ei L.sn L.l i).1,data⟩ Z cS aT cT)) I Aq ?_;refine au ?_;refine cl 0 I (Er 2 I (O _)) ?_;rintro aY az ap ⟨h2,rfl,cU,U,rfl⟩;refine Ew (pt b9 #[.slice Z (eq (ei L.sn L.l i).1) cS] 46::pt rb (aH lb R s) RT::h2::g::hs) I ?_;refine dX Q8 cU ?_;have Y:=X.trans cU;refine au ?_;refine aw 1 I fun aE ad=>?_;refine fin 0 I (th (ax ad I (fun e7=>?_) (fun e7=>?_)))
 ·rw[aab e7];refine acY ?_;refine fin 2 I (ac0 (rT (Bh ?_)));exact af I I ⟨_,_,_,I,⟨s,I,Y,U,I2.g.le cU⟩,I⟩
 rw[aaa e7];refine sk (acV ?_);refine cl 2 I (Ek [_] (my (lh:=h2) (I2.g.le cU) c1)) ?_;rintro a0 aA aq ⟨_,lh,g1,rfl,rfl,⟨s1,rfl,G1⟩,rfl,rfl⟩;refine fin 1 I (ac0 (Bh ?_));exact af I I ⟨_,_,_,I,⟨s1,I,Y,U,G1⟩,I⟩
def Nk(iN:cX K rb lb db R L D s lh g)(o:NI c q z k R L D)(hc:c<=900000000)(t Jn):
  gc w0 K hs rb lb db R s lh g 28 [Rp rb,.int .u64 (t:Nat),.int .u64 (Jn:Nat)] R L D (.bool (R.heard L t Jn)):=by
 have ab:gf L.cfg.1:=jB o.rn.lb o.cf L.last;have bo:=ab.len;have bp:=nb R o.rn.lb o.cf;have ag:∀v∈R.Rr L,0<=v/\v<7:=fun v hv=>ab.mem (abA.1 hv).1;unfold Nd.heard;refine ent Tryz.func28 ?_;refine au ?_;refine cl 1 I t9 ?_;rintro bq aY aO ⟨rfl,rfl,rfl⟩;refine aw 0 I fun a4 az=>?_
 refine' dB (q:=t≠L.kt) 1 5 20 [14,15] az I I I I I I I (fun _=>?x2) (fun a6 aD=>?_)
 case x2=>
  refine cl 2 I (iI iN.l) ?_;rintro bs a0 aR ⟨_,lh,rfl,rfl,rfl,rfl,rfl⟩;refine cG 0 (t≠L.kt) I Au fun a5 aA=>?_;exact fin 1 I (bJ aA I I I)
 refine' dB (q:=R.Jn<Jn) 1 7 28 [20,21] aD I I I I I I I (fun _=>?x4) (fun bi aF=>?_)
 case x4=>
  refine au ?_;refine cG 0 (R.Jn<Jn) I Q8 fun bb aE=>?_;exact fin 1 I (bJ aE I I I)
 refine fin 0 I<|th (ax aF I (fun e6=>?_) (fun e6=>?_))
 ·refine au ?_;refine af I I ⟨_,_,_,I,⟨s,I,Cg _,iN⟩,?_⟩
  grind
 rw[decide_eq_true (by omega:R.leads=0/\t=L.kt/\Jn<=R.Jn),Bool.true_and];refine sk (acV ?_);refine cl 1 I (m6 o qo iN.l) ?_;rintro bB a1 aS ⟨_,lh,rfl,rfl,rfl,ak,ao,cap,rfl,x⟩;have I1:=iN.le ak;refine al 3 (.agg Ij) I qk fun b7=>?_;refine bA 0 0 I I qk I I ?_;refine Ew (pt b7 #[.slice ao (eq L.cfg.1) cap] 46::pt rb (aH lb R s) RT::lh::g::hs) I ?_;refine au ?_;refine lit 0 #[.int .i64 R.nd] I Q9 qk fun O=>?_;refine au ?_;refine cl 1 I (Cp [_,_] (xy o qo I1.l)) ?_;rintro bV an aT ⟨_,lh,rfl,rfl,rfl,X,ap,Z,rfl,x2⟩;have I2:=I1.le X;refine au ?_
 refine loop (σ:=Nat×PH×Ab×Nat) (fun u=>[(0,Rp rb),(2,.int .u64 (Jn:Nat)),(7,Rp b7),(9,.slice u.2.2.1 (eq (R.nd::((R.Rr L).take u.1).filter fun v=>decide (Jn<=(R.p v).rd))) u.2.2.2),(40,.slice ap (eq (R.Rr L)) Z),(41,.int .i64 ((eq (R.Rr L):Nat):Int)),(42,.int .i64 u.1)]) (fun _=>an)
  (fun u=>u.2.1::pt b7 #[.slice ao (eq L.cfg.1) cap] 46::pt rb (aH lb R s) RT::lh::g::hs)
  (fun u=>u.1<=eq (R.Rr L)/\aJ u.2.1 u.2.2.1 (eq (R.nd::((R.Rr L).take u.1).filter fun v=>decide (Jn<=(R.p v).rd))) u.2.2.2 3 1 (iv (R.nd::((R.Rr L).take u.1).filter fun v=>decide (Jn<=(R.p v).rd)))) (fun u=>eq (R.Rr L)-u.1) (0,pt O #[.int .i64 R.nd] 3,some ⟨O,0,none⟩,1) ⟨aad _,aJ.Re (b:=O) (c:=#[.int .i64 R.nd]) (e:=3) (n:=1) (size:=1) rfl Q9⟩ ⟨rfl,rfl,rfl,rfl,rfl,rfl,rfl,trivial⟩ rfl rfl ?_
 rintro⟨j,gy,ay,cy⟩ ⟨hj,oy⟩;dsimp only at hj oy⊢;have aN:eq (((R.Rr L).take j).filter fun v=>decide (Jn<=(R.p v).rd))<=j:=aat (acq _ _) Au;refine acY ?_;refine bc 0 I (fun e8=>?_) (fun e8=>?_)
 ·refine au ?_;have N:j<eq (R.Rr L):=qo
  obtain⟨m,hm⟩:∃m:Nat,(R.Rr L)[j]=(m:Int):=⟨((R.Rr L)[j]).toNat,by have:=ag _ (abx N);omega⟩;have ae:m<7:=by have:=ag _ (abx N);omega
  have J:((R.Rr L).take (j+1)).filter (fun v=>decide (Jn<=(R.p v).rd))=((R.Rr L).take j).filter (fun v=>decide (Jn<=(R.p v).rd))++if Jn<=(R.pr m).rd then [(m:Int)]else []:=by
   rw[nF (R.Rr L) j N,abG,hm,acO,List.filter_nil];rw[show R.p (m:Int)=R.pr m from rfl]
   simp
  refine au ?_;refine ej 0 j I I I x2 (ma N) fun a3 aa=>?_;refine ld 0 I (.inl I) aa ?_;rw[hm];refine au ?_;refine sG (sz:=5) (a:=⟨rb,10,none⟩) 4 m I Tryz.underlying101 qk I ae ?_;rw[bf];refine aX 1 2 I I (jq lb R s ae (k:=2) I) ?_;refine cG 1 (Jn<=(R.pr m).rd) I Q8 fun bm aL=>?_;refine fin 0 I (th (ax aL I (fun V=>?_) (fun V=>?_)))
  ·rw[aab V]at J;refine rg ?_;refine lit 2 #[.int .i64 m] I Q9 qk fun U=>?_;have xm:aj (pt U #[.int .i64 m] 3) (some ⟨U,0,none⟩) 1 1 1 (iv [(m:Int)]):=(aJ.Re (b:=U) (c:=#[.int .i64 m]) (e:=3) (n:=1) (size:=1) rfl Q9).Ni;refine vd 0 1 (R.nd::((R.Rr L).take j).filter fun v=>decide (Jn<=(R.p v).rd)) (m:Int) I I I oy (.inr ⟨0,I⟩) xm (by simp only[aas];omega) fun Y aq av am=>?_;rw[aaL,<-J]at am;have ad:eq (R.nd::((R.Rr L).take j).filter (fun v=>decide (Jn<=(R.p v).rd))++[(m:Int)])=eq (R.nd::((R.Rr L).take (j+1)).filter fun v=>decide (Jn<=(R.p v).rd)):=by rw[J];rfl
   rw[ad];refine fin 1 I (acW (Bf ?_));refine cZ j ?_;exact bn (x:=(j,gy,ay,cy)) (j+1,av,Y,aq) sb I I ⟨qo,am⟩ qo
  rw[aaa V,aaw]at J;refine sk (acW ?_);refine cZ j ?_;exact bn (x:=(j,gy,ay,cy)) (j+1,gy,ay,cy) ⟨I,I,I,by rw[J];rfl,rfl,rfl,rfl,trivial⟩ rfl rfl ⟨qo,by rw[J];exact oy⟩ qo
 refine au ?_;obtain rfl:j=eq (R.Rr L):=qo
 rw[aaG]at oy aN⊢;refine au ?_;refine cl 1 I (Fo (.inl I) ao cap L.cfg.1 (x.le X) qo (.inr ⟨0,I⟩) ay cy _ oy.Ni (by simp only[aas];omega)) ?_;rintro b0 a2 aV ⟨rfl,rfl,rfl⟩;refine fin 1 I (ac0 (Bh (Bh ?_)));exact af I I ⟨_,_,_,I,⟨s,I,ak.trans X,I2⟩,I⟩
end
end
section
def mA(vN:Value)(v:Nat)(J:Nat):Ah:=#[vN,.int .i64 v,.slice none 0 0,.slice none 0 0,.slice none 0 0,.map (some J),.slice none 0 0,.int .u64 0,.int .u64 0,.bool false]
def dO(v:Nat):Ae:=(List.range v).map fun i=>((i:Nat):Int)
def xJ(v):eq (dO v)=v:=by simp[dO]
def Ku(v):dO (v+1)=dO v++[(v:Int)]:=by simp[dO,List.range_succ]
def iS(v:Nat):Lg:=⟨⟨none,1,[],[],0,0⟩,⟨0,[]⟩,⟨0,[]⟩,0,-1,⟨0,0,dO v,[]⟩,0,0,[],0⟩
structure bH where
 db:Nat
 lb:Nat
 rb:Nat
 R:Nd
 L:Lg
 D:Dk
 s:NS
 lh:PH
 g:PH
def bH.Ra(s:bH):Ad:=[.pointer (some ⟨s.db,0,none⟩),.pointer (some ⟨s.lb,0,none⟩),.pointer (some ⟨s.rb,0,none⟩)]
abbrev d9:Nat:=85
abbrev bw:Nat:=73
def bH.hp(s:bH):Ac:=[pt s.rb (aH s.lb s.R s.s) RT,s.lh,s.g]
def bH.ok(K:PH)(s:bH):Prop:=cX K s.rb s.lb s.db s.R s.L s.D s.s s.lh s.g
def dQ(ss:List bH):Ac:=ss.flatMap bH.hp
def uF{v}(hv:1<=v/\v<=7):eZ (eX 16777216) (dO v)=(some (iS v),eX 16777216,0):=by
 obtain rfl|rfl|rfl|rfl|rfl|rfl|rfl:v=1\/v=2\/v=3\/v=4\/v=5\/v=6\/v=7:=qo
 all_goals rfl
def zQ{v}(hv:1<=v/\v<=7):Rn 0 0 (iS v) (eX 16777216):=by
 have r:=(Rn.opened (yu (r:=16777216) qo) (q:=0) (by simp[eX]) (first:=dO v) (L:=iS v) (by rw[uF hv])).1;rw[uF hv]at r;exact r
def ED(v)(hv:v<=7):ai w0 23 [.int .i64 (v:Nat)] K hs (fun u Z hs'=>Le K Z/\hs'=hs/\∃ao cap,u=.agg #[.slice ao (eq (dO v)) cap]/\aj Z ao (eq (dO v)) cap 1 (iv (dO v))):=by
 refine ent Tryz.func23 ?_;refine acY ?_;refine al 0 (.agg Ij) I qk fun X=>?_;refine au ?_;refine al 0 (.agg Ij) I qk fun U=>?_;refine fin 0 I (acU ?_);refine fin 2 I (th (bk (Es ?_)))
 refine loop (σ:=Nat×Ab×Nat×PH) (fun s=>[(2,Rp X),(3,Rp U),(5,.int .i64 (v:Nat)),(6,.int .i64 s.1)]) (fun _=>K)
  (fun s=>s.2.2.2::pt U #[.slice s.2.1 (eq (dO s.1)) s.2.2.1] 46::pt X Ij 46::hs) (fun s=>s.1<=v/\aJ s.2.2.2 s.2.1 (eq (dO s.1)) s.2.2.1 3 1 (iv (dO s.1))) (fun s=>v-s.1) (0,none,0,En.em) ⟨aad _,aJ.nil _ _⟩ ⟨rfl,rfl,rfl,rfl,trivial⟩ rfl rfl ?_
 rintro⟨j,ao,cap,g⟩ ⟨hj,ow⟩;dsimp only at *;have aa:=xJ j;refine acY ?_;refine aw 0 I fun b7 h7=>?_;refine au ?_;refine ax h7 I (fun e2=>?_) (fun e2=>?_)
 ·refine au ?_;refine lit 1 #[.int .i64 j] I Q9 qk fun V=>?_;refine vd 0 1 (dO j) (j:Int) I I I ow (.inr ⟨0,I⟩) (aJ.Re (b:=V) (c:=#[.int .i64 j]) (e:=3) (n:=1) (size:=1) I Q9).Ni qo fun J N Y O=>?_;rw[<-Ku]at O⊢;refine Ji 1 2 I I I I ?_;refine Ez 2 (pt U #[.slice J (eq (dO (j+1))) N] 46) ?_;refine Bf ?_;refine au ?_;refine cZ j ?_;exact bn (x:=(j,ao,cap,g)) (j+1,J,N,Y) sb I I ⟨qo,O⟩ aC
 obtain rfl:j=v:=qo
 refine ex (xt (xt (xb (acV ?_))));refine fI 0 1 I I qk ?_;refine bA 0 2 I I qk I I ?_;refine Eg fun K2 l1 l2=>?_;refine Ew (pt U #[.slice ao (eq (dO j)) cap] 46::pt X #[.slice ao (eq (dO j)) cap] 46::hs) I ?_;refine au ?_;exact kZ 1 2 I I I qk ⟨l1,I,ao,cap,I,ow.Ni.le l2⟩
def FL{i v:Nat}(hi:i<7)(hv:1<=v/\v<=7)(r:Rn 0 0 (iS v) (eX 16777216)):NI 0 0 0 0 (Nd.new (i:Int) (iS v)) (iS v) (eX 16777216):=by
 refine⟨⟨⟨by show 0<=(i:Int);omega,by show(i:Int)<7;omega⟩,.inl rfl,⟨aaD _,by show(-1:Int)<7;decide⟩,aad _,⟨aaD _,aaD _⟩,⟨aaD _,by show(0:Int)<=31;decide⟩,aac _,aac _,fun _=>?_,⟨aad _,aad _,aad _,aad _⟩,aac _⟩,r,?_⟩
 ·exact(by simp[Pr.ok,de]:Pr.ok ⟨0,0,0,false,0⟩)
 have:∀v<8,1<=v->(bG (dO v)).isSome=true:=by decide
 exact this v qo hv.1
def vB(v n:Nat)(ss:List bH):Prop:=eq ss=n/\∀(i:Nat) (s:bH),ss[i]?=some s->s.R=Nd.new (i:Int) (iS v)/\s.L=iS v/\s.D=eX 16777216
structure z9 where
 j:Nat
 K:PH
 ss:List bH
 g:PH
 ao:Ab
 cap:Nat
def LP(ss s):dQ (ss++[s])=dQ ss++bH.hp s:=by simp[dQ]
def EN(n v)(hv:1<=v/\v<=n/\n<=7):ai w0 25 [.int .i64 (n:Nat),.int .i64 (v:Nat)] K hs
  (fun u K' hs'=>∃wb J ss g ao cap,hs'=g::pt wb (mA (.slice ao n cap) v J) bw::sg J (.map #[] 0)::(dQ ss++hs)/\Le K K'/\vB v n ss/\(∀s∈ss,bH.ok K' s)/\aJ g ao n cap d9 3 (ss.flatMap bH.Ra)/\u=Rp wb):=by
 refine ent Tryz.func25 ?_;refine au ?_;refine bc 1 I (fun h=>absurd h qo) (fun _=>?_);refine bc 3 I (fun h=>absurd h qo) (fun _=>?_);refine bc 3 I (fun h=>absurd h qo) (fun _=>?_);refine au ?_;refine vj 1 I fun J=>?_;refine bd 0 (.agg (mA (.slice none 0 0) v J)) I Aq ?_;refine bx 0 I fun wb=>?_;refine Ez 0 (pt wb (mA (.slice none 0 0) v J) bw) ?_;refine fin 1 I (acU ?_);refine fin 2 I (th (bk (Es ?_)))
 refine loop (σ:=z9) (fun s=>[(1,.int .i64 (v:Nat)),(5,Rp wb),(25,.int .i64 (n:Nat)),(26,.int .i64 s.j)]) (fun s=>s.K)
  (fun s=>s.g::pt wb (mA (.slice s.ao s.j s.cap) v J) bw::sg J (.map #[] 0)::(dQ s.ss++hs))
  (fun s=>s.j<=n/\Le K s.K/\vB v s.j s.ss/\(∀t∈s.ss,bH.ok s.K t)/\aJ s.g s.ao s.j s.cap d9 3 (s.ss.flatMap bH.Ra)) (fun s=>n-s.j) ⟨0,K,[],En.em,none,0⟩ ⟨aad _,Cg _,⟨rfl,fun i s h=>by simp at h⟩,(fun t ht=>by cases ht),aJ.nil _ _⟩ ⟨rfl,rfl,rfl,rfl,trivial⟩ rfl rfl ?_
 rintro⟨j,K1,ss,g,ao,cap⟩ ⟨hj,le,hB,hO,ow⟩;dsimp only at *;refine acY ?_;refine bc 0 I (fun e2=>?_) (fun e2=>?_)
 ·refine au ?_;refine cl 0 I (PX 16777216 qo) ?_;rintro aD aa ap ⟨rfl,db,dh,rfl,hD,rfl⟩;refine bd 0 (.agg #[Rp db,.pointer none,.pointer none]) I Aq ?_;refine al 0 (.agg Ir) I qk fun Z=>?_;refine bA 0 0 I I qk I I ?_;refine Ew (pt Z #[Rp db,.pointer none,.pointer none] d9::dh::g::pt wb (mA (.slice ao j cap) v J) bw::sg J (.map #[] 0)::(dQ ss++hs)) I ?_;refine fin 0 I (acU ?_);refine aX 1 0 I I I ?_;refine fin 1 I (th (bP I ?_));refine sk (th (sq (bC [0] 10 [0,2,4,7,9,10,12,14,16,18] ?_)));refine au ?_;refine cl 0 I (ED v qo) ?_;rintro aE az aq ⟨N,rfl,ab,X,rfl,x⟩;refine dX Q8 N ?_;refine au ?_;refine cl 0 I (Er 1 I (FW db (eX 16777216) 0 (yu qo) qo (hD.le N) (dO v) (by rw[xJ];omega) ab X x)) ?_
  rintro aF aA av ⟨h,rfl,U,hX⟩;rw[uF qo]at hX;rcases hX with⟨am,_⟩|⟨L',lb,ag,rfl,hL⟩
  ·cases am
  cases ag;refine Ew (pt Z #[Rp db,.pointer none,.pointer none] d9::h::g::pt wb (mA (.slice ao j cap) v J) bw::sg J (.map #[] 0)::(dQ ss++hs)) I ?_;refine dX Q8 U ?_;refine aI qk 5 I (acU ?_);refine fin 6 I (th (bP I ?_));refine sk (acV ?_);refine Ji 2 0 I I I I ?_;refine Bi (hs':=h::pt Z #[Rp db,Rp lb,.pointer none] d9::g::pt wb (mA (.slice ao j cap) v J) bw::sg J (.map #[] 0)::(dQ ss++hs)) (aap _ _ _) ?_;refine au ?_;refine cl 2 I (FX (zQ qo).lb hL (j:Int)) ?_;rintro aL V ay ⟨rb,g2,rfl,rfl,Y,I3⟩;refine Ji 1 3 I I I I ?_;generalize (⟨.slice none 0 0,.slice none 0 0,.slice none 0 0,.slice none 0 0,gu rb,gu rb,kK rb⟩:NS)=s0 at I3⊢;obtain⟨st,O⟩:∃st:bH,st=⟨db,lb,rb,Nd.new (j:Int) (iS v),iS v,eX 16777216,s0,h,g2⟩:=⟨_,rfl⟩
  refine Ez 3 (pt Z #[Rp db,Rp lb,Rp rb] d9) ?_;refine fin 0 I (acU ?_);refine aX 1 3 I I I ?_;refine fin 1 I (th (bP I ?_));refine sk (th (bC [5,3] 10 [0,2,4,6,8,10,13,15,16,18,21] ?_));refine au ?_;refine lit 0 #[Rp db,Rp lb,Rp rb] I Q9 qk fun ad=>?_;refine aP Q8 I ?_;refine aB qk 0 I ?_;refine app 0 5 I I ow (.inr ⟨0,I⟩) (aJ.Re (b:=ad) (c:=#[Rp db,Rp lb,Rp rb]) (e:=d9) (n:=1) (size:=3) I Q9).Ni I Q9 (by intro u hu;simp at hu;rcases hu with rfl|rfl|rfl<;>rfl) (by show(j+1)*24<=_;omega) (by simp[maxLen];omega) fun an cn gn on=>?_;refine aP Q8 I ?_;refine aB qk 2 I ?_;refine Ji 0 6 I I I I ?_
  refine Ez 6 (pt wb (mA (.slice an (j+1) cn) v J) bw) ?_;refine bQ (.inl qk) ?_;refine aI qk 0 I (acW ?_);refine Bf (Bi (aak [_,_,_] [_] _) (Bf ?_));refine cZ j ?_
  have ae:vB v (j+1) (ss++[st]):=by
   obtain⟨h1,h2⟩:=hB;refine⟨by simp[h1],fun i s hs=>?_⟩;rw[List.getElem?_append]at hs
   grind
  have ak:∀t∈ss++[st],bH.ok V t:=by
   intro t ht;rcases aao.1 ht with ht|ht
   ·exact(hO t ht).le<|(N.trans U).trans Y
   rw[aaC.1 ht,O];exact I3
  have ev:(ss++[st]).flatMap bH.Ra=ss.flatMap bH.Ra++(#[Rp db,Rp lb,Rp rb]:Ah).toList:=by
   rw[acP,O]
   rfl
  refine Bk (hs':=gn::pt wb (mA (.slice an (j+1) cn) v J) bw::sg J (.map #[] 0)::(dQ (ss++[st])++hs)) ?_ ?_
  ·rw[LP,O,aaH];exact(aak [_,_,_] [_,_,_] _).trans ((((aak [_,_,_] (dQ ss) hs).cons _).cons _).cons _)
  exact bn (x:=(⟨j,aa,ss,g,ao,cap⟩:z9)) (⟨j+1,V,ss++[st],gn,an,cn⟩:z9) sb I I ⟨aC,((le.trans N).trans U).trans Y,ae,ak,by rw[ev];exact on⟩ aC
 refine au ?_;obtain rfl:j=n:=qo
 refine au ?_;exact af I I ⟨wb,J,ss,g,ao,cap,I,le,hB,hO,ow,I⟩
end
section
def ft:Nat->Nd×Lg×Dk
 |0=>(Nd.new 0 (iS 1),iS 1,eX 16777216)
 |j+1=>let A:=(ft j).1.tick (ft j).2.1 (ft j).2.2 0;(A.1,A.2.1,A.2.2.1)
def N7:(ft 31).1.role=2/\(ft 31).1.Je=1/\(ft 31).1.lead=0:=by
 refine⟨?_,?_,?_⟩
 all_goals kernel_rfl
def FQ:ft 0=(Nd.new ((0:Nat):Int) (iS 1),iS 1,eX 16777216):=rfl
def yZ(j):ft (j+1)=(((ft j).1.tick (ft j).2.1 (ft j).2.2 0).1,((ft j).1.tick (ft j).2.1 (ft j).2.2 0).2.1,((ft j).1.tick (ft j).2.1 (ft j).2.2 0).2.2.1):=rfl
attribute [local irreducible] ft
def Ct.Uf{P:Program}{f args}{u}(c:Ct P w0 f args K hs (fun v J hs'=>hs'=hs/\Le K J/\v=u)):Ct P w0 f args K hs (Ap K hs u):=
 Ct.Ta c (fun w v J hs' N ⟨O,le,hv⟩=>⟨K,hs,⟨rfl,rfl,hv⟩,by subst O;exact N.SJ le⟩)
def Qs(a:Addr)(k):a.add (0*k)=a:=by simp[Addr.add]
structure zZ where
 j:Nat
 K:PH
 s:NS
 lh:PH
 g:PH
theorem EY:∀j,j<=31->NI (15*j) (2*j) 0 (25*j) (ft j).1 (ft j).2.1 (ft j).2.2
 |0,_=>by rw[FQ];exact FL (i:=0) (v:=1) qo qo (zQ qo)
 |j+1,h=>by rw[yZ];exact(EY j qo).tick qo 0
def nU{w0:World}{K:PH}{hs:Ac}:ai w0 10 [] K hs (Ap K hs (.bool true)):=by
 refine Ct.Uf ?_;refine ent Tryz.func10 ?_;refine au ?_;refine cl 0 I (EN 1 1 qo) ?_;rintro v3 K3 aS ⟨wb,bm,ss,g0,ao,cap,rfl,le,⟨hl,hB⟩,hO,on,rfl⟩;obtain⟨st,rfl⟩:=List.length_eq_one_iff.1 hl;obtain⟨hR,O,hD⟩:=hB 0 st rfl;have J:=hO st (aaC.2 rfl);obtain⟨db,lb,rb,R,L,D,s,lh,g⟩:=st;unfold bH.ok at J;dsimp only at hR O hD J;obtain⟨X,hX⟩:=a9 (ft 0);have N:=hX;rw[FQ]at N;obtain rfl:R=X.1:=by rw[hR,N]
 obtain rfl:L=X.2.1:=by rw[O,N]
 obtain rfl:D=X.2.2:=by rw[hD,N]
 subst hX;refine Eg fun K4 l1 l2=>Eg fun K5 l3 l4=>Bf ?_;have J:=(J.le l1).le l3;have on:=on.Ni.le (l2.trans l3);obtain⟨a,rfl⟩:=on.addr (j:=0) qo qo
 have c2:co K5 ((a.add (0*3)).add 2) (Rp rb):=by
  rw[Qs];obtain⟨a',ha,hc⟩:=on.2.2 2 _ rfl;cases ha;exact hc
 refine Ew (pt rb (aH lb (ft 0).1 s) RT::lh::g::hs) I ?_;refine fin 1 I (acU ?_);refine fin 2 I (th (bP I ?_));refine sk (acV ?_);refine ld 3 I (.inl I) (co.le l4 (co.pt I)) ?_;refine dZ 0 0 I I on qo Q9 fun aD Y=>?_;cases Y;refine ld 1 I (.inl I) c2 ?_;refine au ?_
 refine loop (σ:=zZ) (fun s=>[(2,Rp rb),(13,.int .i64 s.j)]) (fun s=>s.K) (fun s=>pt rb (aH lb (ft s.j).1 s.s) RT::s.lh::s.g::hs)
  (fun s=>s.j<=31/\Le K s.K/\cX s.K rb lb db (ft s.j).1 (ft s.j).2.1 (ft s.j).2.2 s.s s.lh s.g) (fun s=>31-s.j) ⟨0,K5,s,lh,g⟩ ⟨Q8,(le.trans l1).trans l3,J⟩ sb rfl rfl ?_
 rintro⟨j,K1,s1,ak,g1⟩ ⟨hj,U,I1⟩;dsimp only at *;refine acY ?_;refine bc 0 I (fun e4=>?_) (fun e4=>?_)
 ·refine au ?_;refine cl 1 I (EZ I1 (EY j hj) qo qo 0 Q9) ?_;rintro aT V an ⟨_,am,g2,rfl,⟨s2,rfl,ag,I2⟩,rfl⟩;refine au ?_;refine cZ j ?_;exact bn (x:=(⟨j,K1,s1,ak,g1⟩:zZ)) (⟨j+1,V,s2,am,g2⟩:zZ) sb I (by rw[yZ]) ⟨aC,U.trans ag,by rw[yZ];exact I2⟩ aC
 refine au ?_
 have ae:(ft j).1.role=2/\(ft j).1.Je=1/\(ft j).1.lead=0:=by
  obtain rfl:j=31:=qo
  exact N7
 obtain⟨t1,t2,t3⟩:=ae;refine au ?_;refine cl 1 I Fe ?_;rintro aV ay ap ⟨rfl,rfl,rfl⟩;refine aw 0 I fun aE Z=>?_
 refine' eQ (q:=True) 1 4 25 [20,21] Z I I I I I I I (fun _=>?x6) (fun aL ab=>?_)
 case x6=>
  refine cl 1 I tT ?_;rintro aY az aq ⟨rfl,rfl,rfl⟩;refine aw 0 I fun aF aa=>?_;exact fin 1 I (bJ (aa.trans Au) rfl rfl rfl)
 refine' eQ (q:=True) 1 4 30 [25,26] ab I I I I I I I (fun _=>?x8) (fun aO aR=>?_)
 case x8=>
  refine cl 1 I LG ?_;rintro a0 aA av ⟨rfl,rfl,rfl⟩;refine aw 0 I fun aN ad=>?_;exact fin 1 I (bJ (ad.trans Au) rfl rfl rfl)
 refine fin 1 I (ac0 (Bh (Bh (Bh ?_))));exact af I I ⟨I,U,by simp_all⟩
end
section
def Et{b n ty c fr xs}(J:c.toList=xs)(N:c.size=n):aj (pt b c ty fr) (some ⟨b,0,none⟩) n n 1 xs:=by
 subst J;refine⟨by simpa using N,aac _,fun j u O=>⟨_,I,?_⟩⟩
 simp_all[bf,co.pt]
section
variable {w0:World}{K lh g:PH}{hs:Ac}{rb lb db c q z k:Nat}{R:Nd}{L:Lg}{D:Dk}{s:NS}
end
end
section
theorem EO(s l t):∀i,lp s l t i<=i
 |0=>aac _
 |i+1=>by
  unfold lp
  split
  ·split
   ·omega
   have:=EO s l t i;omega
  omega
def LB{m:bg}(h:m.ok)(J:m.kind=5):0<=m.whole/\m.whole<=2097152:=by
 have:=h.2.1 .whole (by rw[J];simp[eR]);exact this
section
variable {c q z k u n:Nat}{R:Nd}{L:Lg}{D:Dk}
def II(R:Nd)(m):(R.piece m).nd=R.nd/\(R.piece m).Je=R.Je/\(R.piece m).out=R.out/\(R.piece m).role=R.role/\(R.piece m).ps.idx=m.idx:=by
 rw[xw]
 have h:(R.Qg m).nd=R.nd/\(R.Qg m).Je=R.Je/\(R.Qg m).out=R.out/\(R.Qg m).role=R.role/\(R.Qg m).ps.idx=m.idx:=by
  unfold Nd.Qg
  grind
 split<;>exact h
def sY(h:R.leads=0):R.role=2:=by
 grind[Nd.leads]
end
end
section
def C4{ao cap ms}(J:dn 14 (jv K) K ao (eq ms) cap ms){k m}(N:ms[k]?=some m):
  ∃a p,ao=some a/\dF K m p/\∀(j:Nat) v,(mv m p).toList[j]?=some v->co K ((a.add (k*14)).add j) v:=by
 have U:k<eq ms:=(aav.1 N).1;obtain⟨a,rfl⟩:=J.addr qo Q9;obtain⟨c,⟨p,rfl,x⟩,_,O⟩:=J.cells N;exact⟨a,p,I,x,O⟩
end
section
open Go.En Go.ChangeShapes Go.WideShapes Go.ChangeAt Go.RowKit Go.Deep
set_option maxRecDepth 100000
section opens
variable {H:Type}{enc:TypeId×Value->H}{W:World}
theorem EQ{α R}:∀{css:List (Ad)} {xs:List α},fg R css xs->eG R css xs
 |[],[],_=>trivial
 |_::_,_::_,g=>⟨g.1,EQ g.2⟩
 |[],_::_,g=>g.elim
 |_::_,[],g=>g.elim
theorem Bz{α n R}(h:∀c x,R c x->eq c=n):∀{css:List (Ad)} {xs:List α},fg R css xs->∀d∈css,eq d=n
 |[],[],_=>by simp
 |c::cs,x::xs,g=>by
  intro d J;rcases aaB.1 J with rfl|J
  ·exact h _ _ g.1
  exact Bz h g.2 d J
 |[],_::_,g=>g.elim
 |_::_,[],g=>g.elim
end opens
end
section
section
variable {ε:Type}
def Pf(m:Nat)(A B:List ε):Prop:=m<=eq A/\m<=eq B/\A.take m=B.take m
theorem Pf.refl{m}{A:List ε}(h:m<=eq A):Pf m A A:=⟨h,h,rfl⟩
abbrev Cs:=@Pf.refl
theorem Pf.symm{m}{A B:List ε}(h:Pf m A B):Pf m B A:=⟨h.2.1,h.1,h.2.2.symm⟩
theorem Pf.trans{m}{A B C:List ε}(h:Pf m A B)(g:Pf m B C):Pf m A C:=⟨h.1,g.2.1,h.2.2.trans g.2.2⟩
def Pf.mono{m k}{A B:List ε}(h:Pf m A B)(J:k<=m):Pf k A B:=by
 refine⟨aat J h.1,aat J h.2.1,?_⟩;have:=congrArg (List.take k) h.2.2
 grind
theorem Pf.get{m}{A B:List ε}(h:Pf m A B){j}(hj:j<m):A[j]?=B[j]?:=by
 have:=congrArg (·[j]?) h.2.2;simpa[abL,hj]using this
theorem Pf.app{m}{A B:List ε}(h:Pf m A B)(X):Pf m A (B++X):=by
 refine⟨h.1,by have:=h.2.1;simp;omega,?_⟩;rw[h.2.2,aa3 h.2.1]
def F0(h:∃n,P n):∃n,P n/\∀m,m<n->¬P m:=by
 obtain⟨n,hn⟩:=h
 induction n using Nat.strongRecOn with
 |ind n J=>
  grind
structure kc (A B:List ε) (p:Nat):Prop where
 pf:Pf p A B
 mx:∀m,Pf m A B->m<=p
def kc.ex(A B:List ε):∃p,kc A B p:=by
 obtain⟨k,J,N⟩:=F0 (P:=fun k=>Pf (eq A-k) A B) ⟨eq A,by simp[Pf]⟩;refine⟨eq A-k,J,fun m hm=>?_⟩;have:=hm.1
 grind[Nat.sub_sub_self]
theorem kc.symm{A B:List ε}{p}(h:kc A B p):kc B A p:=⟨h.pf.symm,fun m hm=>h.mx m hm.symm⟩
def kc.two{A B X:List ε}{p a b}(h:kc A B p)(N:Pf a A X)(O:Pf b B X):a<=p\/b<=p:=by
 rcases ab4 a b with J|J
 ·exact .inl<|h.mx _ (N.trans (O.mono J).symm)
 exact .inr<|h.mx _ ((N.mono J).trans O.symm)
variable (cf:ε->Option (Ae)) (c0:Ae)
def bU(F:List ε):Ae:=(F.reverse.findSome? cf).getD c0
def L9(F e):bU cf c0 (F++[e])=(cf e).getD (bU cf c0 F):=by
 grind[bU]
def Ma(F):∀(X:List ε),(∀e∈X,cf e=none)->bU cf c0 (F++X)=bU cf c0 F:=by
 grind[bU]
def Nc(F:List ε)(p q:Nat):Prop:=∀j e,p<=j->j<q->F[j]?=some e->cf e=none
variable {cf c0}
def rv{F p q}(J:p<=q)(h:Nc cf F p q):bU cf c0 (F.take q)=bU cf c0 (F.take p):=by
 have e:F.take q=F.take p++(F.drop p).take (q-p):=by
  conv=>lhs;rw[show q=p+(q-p) by omega,List.take_add]
 rw[e,Ma];intro x N;obtain⟨j,hj⟩:=abe.1 N;rw[abL]at hj
 split at hj
 ·rw[aa0]at hj;exact h (p+j) x qo qo hj
 cases hj
def JE{F:List ε}{j e}(h:F[j]?=some e):F.take (j+1)=F.take j++[e]:=by
 rw[aaN,h]
 rfl
theorem FH{F j q e C}(hj:F[j]?=some e)(J:cf e=some C)(N:j<q)(h:Nc cf F (j+1) q):bU cf c0 (F.take q)=C:=by
 rw[rv N h,JE hj,L9,J]
 rfl
def zX(F p)(hp:p<=eq F):bU cf c0 F=bU cf c0 (F.take p) \/
  ∃j e C,p<=j/\F[j]?=some e/\cf e=some C/\bU cf c0 (F.take j)=bU cf c0 (F.take p)/\(bU cf c0 F=C\/∃O e2 Y,j<O/\F[O]?=some e2/\cf e2=some Y/\bU cf c0 (F.take O)=C/\Nc cf F (j+1) O):=by
 have key:∀p,p<=eq F->(Nc cf F p (eq F)\/∃j e C,p<=j/\F[j]?=some e/\cf e=some C/\Nc cf F p j):=fun p hp=>by
  by_cases h:∃j,p<=j/\∃e C,F[j]?=some e/\cf e=some C
  ·obtain⟨j,⟨J,e,C,N,U⟩,V⟩:=F0 h;refine .inr ⟨j,e,C,J,N,U,fun i x hi Z X=>?_⟩;cases hc:cf x with
   |none=>rfl
   |some D=>grind
  refine .inl fun i x hi _ X=>?_;cases hc:cf x with
  |none=>rfl
  |some D=>exact absurd ⟨i,hi,x,D,X,hc⟩ h
 have full:bU cf c0 F=bU cf c0 (F.take (eq F)):=by simp
 rcases key p hp with h|⟨j,e,C,J,N,U,V⟩
 ·exact .inl (by rw[full,rv hp h])
 have hj:=(aav.1 N).1;refine .inr ⟨j,e,C,J,N,U,rv J V,?_⟩
 grind[FH]
def Qr(C:Ae)(P:Int->Prop):Prop:=∃Q:Ae,Q.Nodup/\(∀v∈Q,v∈C/\P v)/\eq C/2<eq Q
def gC(C D:Ae):Prop:=∃U:Ae,(∀v∈C,v∈U)/\(∀v∈D,v∈U)/\eq U<eq C/2+eq D/2+2
theorem gC.refl(C):gC C C:=⟨C,fun _ h=>h,fun _ h=>h,qo⟩
def gC.symm{C D}(h:gC C D):gC D C:=let⟨U,J,N,O⟩:=h;⟨U,N,J,qo⟩
def Qr.meet{C D}{P R:Int->Prop}(h:Qr C P)(g:Qr D R)(a:gC C D):∃v,P v/\R v:=by
 obtain⟨Q,O,q2,Y⟩:=h;obtain⟨S,V,X,Z⟩:=g;obtain⟨U,u1,u2,u3⟩:=a;refine abq fun hn=>?_;have J:(Q++S).Nodup:=acl.2 ⟨O,V,fun v hv w N e=>hn ⟨v,(q2 v hv).2,by rw[e];exact(X w N).2⟩⟩
 have:=acr J (l₂:=U) (fun v hv=>by
  grind)
 rw[aaj]at this;omega
def Qr.imp{C}{P R:Int->Prop}(h:Qr C P)(hp:∀v,P v->R v):Qr C R:=let⟨Q,J,q2,N⟩:=h;⟨Q,J,fun v hv=>⟨(q2 v hv).1,hp v (q2 v hv).2⟩,N⟩
end
structure Gs (ε:Type) where
 E:Nat->Prop
 Ld:Nat->Int
 LL:Nat->List ε
 Cd:Nat->Int->Prop
 CL:Nat->Int->List ε
 Vt:Nat->Int->Int->Prop
 Ve:Nat->Int->Int->Prop
 Ak:Nat->Nat->Int->Prop
 Ct:Nat->Nat->Ae->Prop
 RN:Nat->Nat
 RB:Nat->Nat->Nat->Int->Int->Prop
def Gs.H{ε}(g:Gs ε)(T:Nat):List ε:=g.CL T (g.Ld T)
section
variable {ε:Type} (tm:ε->Nat) (cf:ε->Option (Ae)) (c0:Ae)
def Gs.T5(g:Gs ε)(T:Nat)(c:Int):Prop:=g.Cd T c/\Qr (bU cf c0 (g.CL T c)) (fun v=>g.Vt T v c)
def Gs.Good(g:Gs ε)(F:List ε):Prop:=∀k e,F[k]?=some e->g.E (tm e)/\Pf (k+1) F (g.LL (tm e))
structure Gd (g:Gs ε):Prop where
 hl:∀T,g.E T->Pf (eq (g.H T)) (g.H T) (g.LL T)
 ht:∀T k e,g.E T->(g.LL T)[k]?=some e->eq (g.H T)<=k->tm e=T
 hg:∀T,g.E T->g.Good tm (g.LL T)
 S0:∀T,g.E T->g.Cd T (g.Ld T)/\Qr (bU cf c0 (g.H T)) (fun v=>g.Ve T v (g.Ld T))
 cg:∀T c,g.Cd T c->g.Good tm (g.CL T c)/\∀e∈g.CL T c,tm e<T
 rc:∀T k e C,g.E T->(g.LL T)[k]?=some e->eq (g.H T)<=k->cf e=some C ->
  ∃n,g.Ct T n (bU cf c0 ((g.LL T).take k))/\n<=k/\Nc cf (g.LL T) n k/\gC (bU cf c0 ((g.LL T).take k)) C
 ct:∀T n C,g.Ct T n C->g.E T/\eq (g.H T)<n/\Qr C (g.Ak T n)/\∃k,n<=k/\k<=eq (g.LL T)/\C=bU cf c0 ((g.LL T).take k)
 Sb:∀T v c d,g.Vt T v c->g.Vt T v d->c=d
 vv:∀T v c,g.Ve T v c->g.Vt T v c
 vl:∀T v c,g.Vt T v c->g.Ve T v c\/g.E T
 vc:∀T v c,g.Vt T v c->g.Cd T c
 ve:∀T T' n v c,g.Ve T' v c->g.Ak T n v->T<T'->eq (g.H T)<n->Pf n (g.LL T) (g.CL T' c)\/∃S,T<S/\S<T'/\g.E S/\¬Pf n (g.LL T) (g.H S)
 va:∀T T' n v c,g.Vt T' v c->g.Ak T n v->T<T'->eq (g.H T)<n->Pf n (g.LL T) (g.CL T' c)\/∃S,T<S/\S<=T'/\g.E S/\¬Pf n (g.LL T) (g.H S)
 ak:∀T n v,g.Ak T n v->g.E T/\n<=eq (g.LL T)
 rb:∀T k t u c,g.RB T k t u c->g.Vt t u c
 Tu:∀T n m v,g.Ak T n v->m<=n->g.Ak T m v
 Ts:∀T,g.RN T≠0->g.E T
variable {tm cf c0}{g:Gs ε}
def Gd.SU(d:Gd tm cf c0 g){k:Nat}{e}(h:g.E T)(J:(g.LL T)[k]?=some e):(k<eq (g.H T)->tm e<T)/\(eq (g.H T)<=k->tm e=T):=by
 refine⟨fun N=>?_,d.ht T k e h J⟩;rw[<-(d.hl T h).get N]at J;exact(d.cg T _ (d.S0 T h).1).2 e (aam J)
def Gd.mono(d:Gd tm cf c0 g){F}(h:g.Good tm F){j k:Nat}{x y}(V:F[j]?=some x)(X:F[k]?=some y)(U:j<=k):tm x<=tm y:=by
 obtain⟨J,N⟩:=h k y X;have O:=N.get (show j<k+1 by omega);obtain⟨Y,Z⟩:=d.SU (k:=j) J (by rw[<-O];exact V);omega
structure z8 (g:Gs ε) (cf:ε->Option (Ae)) (c0:Ae) (F:List ε) (j t n:Nat) (C:Ae):Prop where
 e:g.E t
 ct:g.Ct t n (bU cf c0 (F.take j))
 h:eq (g.H t)<n
 nj:n<=j
 nc:Nc cf F n j
 SD:gC (bU cf c0 (F.take j)) C
 pf:Pf (j+1) F (g.LL t)
def Gd.Ty(d:Gd tm cf c0 g){F}(h:g.Good tm F){j e C}(hj:F[j]?=some e)(hc:cf e=some C):∃n,z8 g cf c0 F j (tm e) n C:=by
 obtain⟨N,J⟩:=h j e hj;have O:=J.get (acG j);rw[hj]at O
 have Y:eq (g.H (tm e))<=j:=by
  rcases aaz j (eq (g.H (tm e)))with hl|hl
  ·exact absurd ((d.SU N O.symm).1 hl)<|Nat.lt_irrefl _
  exact hl
 obtain⟨n,V,n3,n4,X⟩:=d.rc _ j e C N O.symm Y hc;have n2:=(d.ct _ _ _ V).2.1;have Z:=(J.mono (aaq j)).2.2;rw[<-Z]at V X;exact⟨n,N,V,n2,n3,fun i x hi U hx=>n4 i x hi U (by rw[<-J.get (show i<j+1 by omega)];exact hx),X,J⟩
theorem z8.at(d:Gd tm cf c0 g){F j t n C}(c:z8 g cf c0 F j t n C){k x}(O:n<=k+1)(N:k<=j)(J:F[k]?=some x):tm x=t:=by
 rw[c.pf.get (show k<j+1 by omega)]at J;exact d.ht _ k x c.e J (by have:=c.h;omega)
def Lc(g:Gs ε)(P:Nat->Prop):Prop:=∀s m C t,g.Ct s m C->g.E t->s<t->P t->Pf m (g.LL s) (g.H t)
def jP(tm:ε->Nat)(A:List ε)(s:Nat):Prop:=∃(k:Nat) (e:ε),A[k]?=some e/\tm e=s
def Lc.ll(d:Gd tm cf c0 g)(N:Lc g P){s m t C}(h:g.Ct s m C)(e:g.E t)(hs:s<t)(hp:P t):Pf m (g.LL s) (g.LL t):=by
 have J:=N s m C t h e hs hp;exact J.trans ((d.hl t e).mono J.2.1)
def Gd.Tp(d:Gd tm cf c0 g){A B p}(Z:g.Good tm A)(hB:g.Good tm B)(a:kc A B p)(aa:∀s,jP tm A s->P s)(ab:∀s,jP tm B s->P s)(lc:Lc g P)
  {i j x y C D} (hi:p<=i) (hx:A[i]?=some x) (X:cf x=some C) (ex:bU cf c0 (A.take i)=bU cf c0 (A.take p)) (ak:bU cf c0 A=C\/∃O U C2,i<O/\A[O]?=some U/\cf U=some C2/\bU cf c0 (A.take O)=C/\Nc cf A (i+1) O)
  (hj:p<=j) (hy:B[j]?=some y) (ad:cf y=some D) (ey:bU cf c0 (B.take j)=bU cf c0 (B.take p)) (am:tm x<tm y):∃s m C',g.Ct s m C'/\p<m/\Pf m (g.LL s) B/\jP tm B s/\gC C' (bU cf c0 A):=by
 obtain⟨n,cx⟩:=d.Ty Z hx X;obtain⟨m,J⟩:=d.Ty hB hy ad
 have ag:p<m:=by
  refine abq fun hm=>?_;have an:0<m:=by have:=J.h;omega
  have ae:m-1<eq B:=by grind
  obtain⟨w,hw⟩:∃w,B[m-1]?=some w:=⟨_,aai ae⟩;have h1:=J.at d (k:=m-1) qo qo hw;have V:=a.pf.get (show m-1<p by omega);rw[hw]at V;have:=d.mono Z V hx qo;omega
 have eC:bU cf c0 A=C:=by
  rcases ak with h|⟨O,U,C2,h1,V,h3,h4,h5⟩
  ·exact h
  exfalso
  obtain⟨n2,c2⟩:=d.Ty Z V h3
  have ap:i<n2:=by
   refine abq fun hn=>?_;have:=c2.nc i x qo h1 hx;rw[X]at this;cases this
  rcases act (tm U) (tm y)with h|h|h
  ·have Y:=lc.ll d c2.ct J.e h (ab _ ⟨j,y,hy,rfl⟩);have N:Pf n2 A (g.LL (tm y)):=(c2.pf.mono (by have:=c2.nj;omega)).trans Y;rcases a.two N J.pf with h|h<;>omega
  ·have N:=c2.pf;rw[h]at N;rcases a.two N J.pf with h|h<;>omega
  have Y:=lc.ll d J.ct c2.e h (aa _ ⟨O,U,V,rfl⟩);have N:Pf m B (g.LL (tm U)):=(J.pf.mono (by have:=J.nj;omega)).trans Y;rcases a.two c2.pf N with h|h<;>omega
 have e2:=a.pf.2.2;refine⟨tm y,m,_,J.ct,ag,(J.pf.mono (by have:=J.nj;omega)).symm,⟨j,y,hy,rfl⟩,?_⟩;rw[eC,ey,<-e2,<-ex];exact cx.SD
def Gd.To(d:Gd tm cf c0 g){A B p}(Z:g.Good tm A)(a:kc A B p){i x C}(hi:p<=i)(hx:A[i]?=some x)(N:cf x=some C)(ex:bU cf c0 (A.take i)=bU cf c0 (A.take p))(U:bU cf c0 A=C\/∃J O X,i<J/\A[J]?=some O/\cf O=some X/\bU cf c0 (A.take J)=C/\Nc cf A (i+1) J)
  (hB:bU cf c0 B=bU cf c0 (B.take p)):gC (bU cf c0 A) (bU cf c0 B)\/∃s m V,g.Ct s m V/\p<m/\Pf m (g.LL s) A/\jP tm A s/\gC V (bU cf c0 B):=by
 obtain⟨n,cx⟩:=d.Ty Z hx N;have h:=cx.SD;have e2:=a.pf.2.2;rw[ex,e2,<-hB]at h;rcases U with e|⟨J,O,X,h1,Y,h3,h4,h5⟩
 ·exact .inl (by rw[e];exact h.symm)
 obtain⟨n2,c2⟩:=d.Ty Z Y h3
 have aa:i<n2:=by
  refine abq fun hn=>?_;have:=c2.nc i x qo h1 hx;rw[N]at this;cases this
 exact .inr ⟨tm O,n2,_,c2.ct,qo,(c2.pf.mono (by have:=c2.nj;omega)).symm,⟨J,O,Y,rfl⟩,by rw[h4];exact h.symm⟩
def Gd.pair(d:Gd tm cf c0 g){A B p}(X:g.Good tm A)(Y:g.Good tm B)(a:kc A B p)(N:∀s,jP tm A s->P s)(O:∀s,jP tm B s->P s)(lc:Lc g P):
  gC (bU cf c0 A) (bU cf c0 B)\/(∃s m J,g.Ct s m J/\p<m/\Pf m (g.LL s) A/\jP tm A s/\gC J (bU cf c0 B))\/∃s m J,g.Ct s m J/\p<m/\Pf m (g.LL s) B/\jP tm B s/\gC J (bU cf c0 A):=by
 have e2:=a.pf.2.2;rcases zX (cf:=cf) (c0:=c0) A p a.pf.1 with h1|⟨i,x,C,i1,Z,i3,i4,i5⟩
 ·rcases zX (cf:=cf) (c0:=c0) B p a.pf.2.1 with h2|⟨j,y,D,j1,U,V,j4,j5⟩
  ·simp_all[gC.refl]
  rcases d.To Y a.symm j1 U V j4 j5 h1 with h|h
  ·exact .inl h.symm
  exact .inr (.inr h)
 rcases zX (cf:=cf) (c0:=c0) B p a.pf.2.1 with h2|⟨j,y,D,j1,U,V,j4,j5⟩
 ·rcases d.To X a i1 Z i3 i4 i5 h2 with h|h
  ·exact .inl h
  exact .inr (.inl h)
 rcases act (tm x) (tm y)with h|h|h
 ·exact .inr (.inr<|d.Tp X Y a N O lc i1 Z i3 i4 i5 j1 U V j4 h)
 ·obtain⟨n,cx⟩:=d.Ty X Z i3;obtain⟨m,cy⟩:=d.Ty Y U V;have g1:=cx.pf;rw[h]at g1;rcases a.two g1 cy.pf with h|h<;>omega
 exact .inr (.inl<|d.Tp Y X a.symm O N lc j1 U V j4 j5 i1 Z i3 i4 h)
def Gd.direct(d:Gd tm cf c0 g){n:Nat}{C:Ae}(h:g.Ct T n C){T' c}(w:Qr (bU cf c0 (g.CL T' c)) (fun v=>g.Ve T' v c))(hT:T<T')(U:Lc g (· < T'))(a:gC C (bU cf c0 (g.CL T' c))):Pf n (g.LL T) (g.CL T' c):=by
 obtain⟨v,J,N⟩:=(d.ct T n C h).2.2.1.meet w a;rcases d.ve T T' n v c N J hT (d.ct T n C h).2.1 with O|⟨S,V,X,Y,Z⟩
 ·exact O
 exact absurd (U T n C S h Y V X) Z
def Gd.late(d:Gd tm cf c0 g){n:Nat}{C:Ae}(h:g.Ct T n C){T' c}(w:g.T5 cf c0 T' c)(hT:T<T')(U:Lc g (· <= T'))(a:gC C (bU cf c0 (g.CL T' c))):Pf n (g.LL T) (g.CL T' c):=by
 obtain⟨v,J,N⟩:=(d.ct T n C h).2.2.1.meet w.2 a;rcases d.va T T' n v c N J hT (d.ct T n C h).2.1 with O|⟨S,V,X,Y,Z⟩
 ·exact O
 exact absurd (U T n C S h Y V X) Z
def Gd.Uo(d:Gd tm cf c0 g):∀(J:Nat),g.E J->∀T n C,g.Ct T n C->T<J->Pf n (g.LL T) (g.H J):=by
 intro J
 induction J using Nat.strongRecOn with
 |ind J ih=>
  intro e' T n C hc hT;have Z:Lc g (· < J):=fun s m C t N U O X=>ih t X U s m C N O;obtain⟨cd,w⟩:=d.S0 J e';obtain⟨gB,tB⟩:=d.cg J _ cd;unfold Gs.H at w⊢;obtain⟨c,ab⟩:=a9 (g.Ld J);rw[<-ab]at cd w gB tB⊢;obtain⟨eT,hn,qr,k,k1,k2,rfl⟩:=d.ct T n C hc
  have gA:g.Good tm ((g.LL T).take k):=fun i e hi=>by
   rw[abL]at hi
   split at hi
   ·obtain⟨N,U⟩:=d.hg T eT i e hi
    grind[Pf]
   cases hi
  have ad:eq ((g.LL T).take k)=k:=by rw[aal];omega
  have pA:Pf k ((g.LL T).take k) (g.LL T):=⟨qo,k2,by rw[aaK,abB]⟩
  have aa:∀s,jP tm ((g.LL T).take k) s->s<J:=fun s ⟨i,e,hi,he⟩=>by
   rw[abL]at hi
   split at hi
   ·obtain⟨N,U⟩:=d.SU eT hi;omega
   cases hi
  have Y:∀s,jP tm (g.CL J c) s->s<J:=fun s ⟨i,e,hi,he⟩=>by grind
  obtain⟨p,a⟩:=kc.ex ((g.LL T).take k) (g.CL J c);rcases aaz p n with hp|hp
  ·exfalso
   rcases d.pair gA gB a aa Y Z with h|⟨s,m,C',N,U,O,X,h5⟩|⟨s,m,C',N,U,O,X,h5⟩
   ·have:=d.direct hc w hT Z h;have:=a.mx n ((pA.mono k1).trans this);omega
   ·have hs:s<=T:=by
     obtain⟨i,e,hi,he⟩:=X;rw[abL]at hi
     split at hi
     ·obtain⟨N,U⟩:=d.SU eT hi;omega
     cases hi
    have:=d.direct N w qo Z h5;have:=a.mx m (O.symm.trans this);omega
   have hs:=Y s X;rcases act s T with h|h|h
   ·have V:=Z.ll d N eT h hT;rcases a.two pA (O.symm.trans V)with h|h<;>omega
   ·subst h;rcases a.two pA O.symm with h|h<;>omega
   have es:=(d.ct s m C' N).1;have V:=Z T n _ s hc es h hs;have g2:=(d.ct s m C' N).2.1;have g3:Pf n (g.LL T) (g.LL s):=V.trans ((d.hl s es).mono V.2.1);have g4:Pf n (g.LL s) (g.CL J c):=O.mono (by have:=V.2.1;omega);have:=a.mx n ((pA.mono k1).trans (g3.trans g4));omega
  exact(pA.mono k1).symm.trans<|a.pf.mono hp
def Gd.lc(d:Gd tm cf c0 g)(P):Lc g P:=fun s m C t J N O _=>d.Uo t N s m C J O
def Gd.one(d:Gd tm cf c0 g){c}(e:g.E T)(w:g.T5 cf c0 T c):g.Ld T=c:=by
 obtain⟨cd,q⟩:=d.S0 T e;obtain⟨gA,tA⟩:=d.cg T _ cd;obtain⟨gB,tB⟩:=d.cg T c w.1;obtain⟨p,a⟩:=kc.ex (g.CL T (g.Ld T)) (g.CL T c);have N:∀s,jP tm (g.CL T (g.Ld T)) s->s<T:=fun s ⟨i,e,hi,he⟩=>by grind
 have O:∀s,jP tm (g.CL T c) s->s<T:=fun s ⟨i,e,hi,he⟩=>by grind
 rcases d.pair gA gB a N O (d.lc _)with h|⟨s,m,Z,J,U,V,X,Y⟩|⟨s,m,Z,J,U,V,X,Y⟩
 ·obtain⟨v,J,U⟩:=Qr.meet q w.2 h;exact d.Sb T v _ c (d.vv _ _ _ J) U
 ·have:=d.late J w (N s X) (d.lc _) Y;have:=a.mx m (V.symm.trans this);omega
 have:=d.direct J q (O s X) (d.lc _) Y;have:=a.mx m (this.symm.trans V);omega
def Gd.still(d:Gd tm cf c0 g)(V:g.E T){J:Nat->Prop}(h0:∀t,J t->g.E t)(h1:∀t,J t->∀s,jP tm (g.H t) s->J s){R}(q:Qr (bU cf c0 (g.LL T)) R)
  (hr:∀v t c,R v->J t->T<t->¬g.Ve t v c):∀t,J t->t<=T:=by
 intro t
 induction t using Nat.strongRecOn with
 |ind t ih=>
  intro ht;refine abq fun N=>?_;have N:T<t:=qo
  have et:=h0 t ht;obtain⟨cd,w⟩:=d.S0 t et;obtain⟨gB,tB⟩:=d.cg t _ cd;obtain⟨p,a⟩:=kc.ex (g.LL T) (g.H t);rcases d.pair (P:=fun _=>True) (d.hg T V) gB a (fun _ _=>trivial) (fun _ _=>trivial) (d.lc _)with h|⟨s,m,Y,X,k2,O,U,k5⟩|⟨s,m,Y,X,k2,O,U,k5⟩
  ·obtain⟨v,v1,v2⟩:=Qr.meet q w h;exact hr v t _ v1 ht N v2
  ·obtain⟨i,e,hi,he⟩:=U
   have hs:s<=T:=by
    obtain⟨Z,g2⟩:=d.SU V hi;omega
   have:=d.Uo t et s m Y X qo;have:=a.mx m (O.symm.trans this);omega
  have hs:s<t:=by
   obtain⟨i,e,hi,he⟩:=U
   grind
  have aa:=ih s hs (h1 t ht s U);rcases aaz s T with h|h
  ·have Z:=(d.lc (fun _=>True)).ll d X V h trivial;have:=a.mx m (Z.symm.trans O);omega
  have hh:s=T:=qo
  subst hh;have:=a.mx m O;omega
end
end
section
section
variable {ε:Type}
structure Gr (v:Int) (g h:Gs ε):Prop where
 e:∀T,g.E T->h.E T/\h.Ld T=g.Ld T
 ll:∀T,g.E T->∃X,h.LL T=g.LL T++X/\(g.Ld T≠v->X=[])
 cl:∀T c,g.Cd T c->h.Cd T c/\h.CL T c=g.CL T c
 vt:∀T u c,g.Vt T u c->h.Vt T u c
 ve:∀T u c,g.Ve T u c->h.Ve T u c
 ak:∀T n u,g.Ak T n u->h.Ak T n u
 ct:∀T n C,g.Ct T n C->h.Ct T n C
 e2:∀T,h.E T->g.E T\/h.Ld T=v
 c2:∀T u,h.Cd T u->g.Cd T u\/u=v
 v2:∀T u c,h.Vt T u c->g.Vt T u c\/u=v
 a2:∀T n u,h.Ak T n u->g.Ak T n u\/u=v
 rn:∀T,g.RN T<=h.RN T/\(g.Ld T≠v->g.E T->h.RN T=g.RN T)
 rb:∀T k,k<=g.RN T->h.RB T k=g.RB T k
 TA:∀T n C,h.Ct T n C->g.Ct T n C\/(h.E T/\h.Ld T=v)
 TJ:∀T u c,h.Ve T u c->g.Ve T u c\/¬g.E T
theorem Gr.refl(v)(g:Gs ε):Gr v g g:=⟨fun _ h=>⟨h,rfl⟩,fun _ _=>⟨[],Q8,fun _=>rfl⟩,fun _ _ h=>⟨h,rfl⟩,fun _ _ _ h=>h,fun _ _ _ h=>h,fun _ _ _ h=>h,fun _ _ _ h=>h,fun _ h=>.inl h,fun _ _ h=>.inl h,fun _ _ _ h=>.inl h,fun _ _ _ h=>.inl h,fun _=>⟨aac _,fun _ _=>rfl⟩,fun _ _ _=>rfl,fun _ _ _ h=>.inl h,fun _ _ _ h=>.inl h⟩
abbrev Cw:=@Gr.refl
def Gr.trans{v}{g h k:Gs ε}(a:Gr v g h)(b:Gr v h k):Gr v g k where
 e T x:=⟨(b.e T (a.e T x).1).1,by rw[(b.e T (a.e T x).1).2,(a.e T x).2]⟩
 ll T x:=by
  obtain⟨X,J,N⟩:=a.ll T x;obtain⟨Y,U,V⟩:=b.ll T (a.e T x).1;refine⟨X++Y,by rw[U,J,aaH],fun hn=>?_⟩;rw[N hn,V (by rw[(a.e T x).2];exact hn)]
  rfl
 cl T c x:=⟨(b.cl T c (a.cl T c x).1).1,by rw[(b.cl T c (a.cl T c x).1).2,(a.cl T c x).2]⟩
 vt T u c x:=b.vt T u c (a.vt T u c x)
 ve T u c x:=b.ve T u c (a.ve T u c x)
 ak T n u x:=b.ak T n u (a.ak T n u x)
 ct T n C x:=b.ct T n C (a.ct T n C x)
 e2 T x:=by
  rcases b.e2 T x with h|h
  ·rcases a.e2 T h with O|O
   ·exact .inl O
   exact .inr (by rw[(b.e T h).2];exact O)
  omega
 c2 T u x:=(b.c2 T u x).elim (fun h=>a.c2 T u h) .inr
 v2 T u c x:=(b.v2 T u c x).elim (fun h=>a.v2 T u c h) .inr
 a2 T n u x:=(b.a2 T n u x).elim (fun h=>a.a2 T n u h) .inr
 rn T:=⟨aat (a.rn T).1 (b.rn T).1,fun J N=>by rw[(b.rn T).2 (by rw[(a.e T N).2];exact J) (a.e T N).1,(a.rn T).2 J N]⟩
 rb T k hk:=by rw[b.rb T k (aat hk (a.rn T).1),a.rb T k hk]
 TA T n C x:=(b.TA T n C x).elim (fun h=>(a.TA T n C h).imp id fun⟨J,N⟩=>⟨(b.e T J).1,by rw[(b.e T J).2];exact N⟩) .inr
 TJ T u c x:=(b.TJ T u c x).elim (fun h=>a.TJ T u c h) fun h=>.inr fun e=>h (a.e T e).1
variable {tm:ε->Nat}{cf:ε->Option (Ae)}{c0:Ae}{g h:Gs ε}{v:Int}
def Gr.pf(a:Gr v g h){n:Nat}{F}(e:g.E T)(p:Pf n F (g.LL T)):Pf n F (h.LL T):=by
 obtain⟨X,J,_⟩:=a.ll T e;rw[J];exact p.app X
def Gr.Ur(a:Gr v g h){n:Nat}{F}(e:g.E T)(hn:n<=eq (g.LL T))(p:Pf n (h.LL T) F):Pf n (g.LL T) F:=
 (a.pf e (Cs hn)).trans p
def Gr.hh(a:Gr v g h)(d:Gd tm cf c0 g)(e:g.E T):h.H T=g.H T:=by
 unfold Gs.H;rw[(a.e T e).2];exact(a.cl T _ (d.S0 T e).1).2
def Gr.Jj(a:Gr v g h){F}(x:g.Good tm F):h.Good tm F:=fun k e J=>⟨(a.e _ (x k e J).1).1,a.pf (x k e J).1 (x k e J).2⟩
def Gs.Good.pre{F G}(x:g.Good tm F){n}(p:Pf n G F)(V:eq G<=n):g.Good tm G:=fun k e J=>by
 have U:=(aav.1 J).1;rw[p.get (show k<n by omega)]at J;obtain⟨N,O⟩:=x k e J;exact⟨N,(p.mono qo).trans O⟩
def jN(tm:ε->Nat)(F:List ε):Nat:=(F.getLast?.map tm).getD 0
def wP{F}(J:F≠[]):∃e,F[eq F-1]?=some e/\jN tm F=tm e:=by
 have hl:eq F-1<eq F:=by have:=abz.2 J;omega
 simp_all[List.getLast?_eq_getElem?,jN]
structure Dv (tm:ε->Nat) (g:Gs ε) (v:Int) (kt:Nat) (kv:Int) (F:List ε):Prop where
 Jj:g.Good tm F
 le:∀e∈F,tm e<=kt
 ak:∀T n,g.Ak T n v->T<=kt/\(eq (g.H T)<n->Pf n (g.LL T) F\/∃S,T<S/\S<=kt/\g.E S/\¬Pf n (g.LL T) (g.H S))
 vt:∀T c,g.Vt T v c->T<kt\/(T=kt/\kv=c/\c ≠ -1)
 cd:∀T,g.Cd T v->T<=kt
def dC(g:Gs ε)(t:Nat)(F:List ε)(n:Nat):Prop:=n=0\/∃T m C,g.Ct T m C/\T<=t/\n<=m/\Pf n (g.LL T) F
theorem dC.mono{t t' n m F}(x:dC g t F n)(ht:t<=t')(hm:m<=n):dC g t' F m:=by
 rcases x with rfl|⟨T,k,C,J,O,U,N⟩
 ·exact .inl qo
 exact .inr ⟨T,k,C,J,qo,qo,N.mono hm⟩
def dC.pf{t n F G}(x:dC g t F n)(p:Pf n F G):dC g t G n:=by
 rcases x with rfl|⟨T,k,C,J,N,O,U⟩
 ·exact .inl I
 exact .inr ⟨T,k,C,J,N,O,U.trans p⟩
def dC.gr{t n F}(x:dC g t F n)(a:Gr v g h)(d:Gd tm cf c0 g):dC h t F n:=by
 rcases x with rfl|⟨T,k,C,J,N,O,U⟩
 ·exact .inl I
 exact .inr ⟨T,k,C,a.ct _ _ _ J,N,O,(a.pf (d.ct _ _ _ J).1 U.symm).symm⟩
theorem dC.ll{t n F}(x:dC g t F n)(d:Gd tm cf c0 g){t'}(e:g.E t')(ht:t<=t'):Pf n F (g.LL t'):=by
 rcases x with rfl|⟨T,k,C,N,U,O,J⟩
 ·exact⟨aad _,aad _,I⟩
 rcases aaz T t' with hT|hT
 ·have:=(d.lc (fun _=>True)).ll d N e hT trivial;exact J.symm.trans (this.mono O)
 obtain rfl:T=t':=qo
 exact J.symm
def Dv.gr{u kt kv F}(x:Dv tm g u kt kv F)(a:Gr v g h)(d:Gd tm cf c0 g)
  (Z:∀T n,h.Ak T n u->g.Ak T n u\/(T<=kt/\Pf n (h.LL T) F)) (hv:∀T c,h.Vt T u c->g.Vt T u c\/(T=kt/\kv=c/\c ≠ -1)) (hc:∀T,h.Cd T u->g.Cd T u\/T<=kt):Dv tm h u kt kv F where
 Jj:=a.Jj x.Jj
 le:=x.le
 ak T n J:=by
  rcases Z T n J with J|⟨O,U⟩
  ·obtain⟨O,U⟩:=x.ak T n J;obtain⟨N,hn⟩:=d.ak T n u J;refine⟨O,fun V=>?_⟩;rw[a.hh d N]at V;rcases U V with Y|⟨S,s1,s2,X,s4⟩
   ·exact .inl (a.pf N Y.symm).symm
   exact .inr ⟨S,s1,s2,(a.e S X).1,fun p=>s4 (a.Ur N hn (by rw[a.hh d X]at p;exact p))⟩
  exact⟨O,fun _=>.inl U⟩
 vt T c J:=by
  rcases hv T c J with J|J
  ·exact x.vt T c J
  omega
 cd T J:=(hc T J).elim (x.cd T) id
def Dv.other{u kt kv F}(x:Dv tm g u kt kv F)(a:Gr v g h)(d:Gd tm cf c0 g)(N:u≠v):Dv tm h u kt kv F:=
 x.gr a d (fun T n J=>(a.a2 T n u J).elim .inl fun h=>absurd h N) (fun T c J=>(a.v2 T u c J).elim .inl fun h=>absurd h N) (fun T J=>(a.c2 T u J).elim .inl fun h=>absurd h N)
theorem Dv.up{kt kt' kv kv' F}(x:Dv tm g v kt kv F)(U:kt<kt'\/(kt=kt'/\(kv = -1\/kv=kv'))):Dv tm g v kt' kv' F where
 Jj:=x.Jj
 le e he:=by have:=x.le e he;omega
 ak T n ha:=by
  obtain⟨J,N⟩:=x.ak T n ha
  grind
 vt T c ht:=by
  rcases x.vt T c ht with h|⟨J,N,O⟩
  all_goals omega
 cd T hc:=by have:=x.cd T hc;omega
def Mg(F G A:List ε):Prop:=∀n,Pf n F A->Pf n F G
theorem Mg.refl(F A:List ε):Mg F F A:=fun n h=>Cs h.1
theorem Dv.merge{kt kv F G}(x:Dv tm g v kt kv F)(d:Gd tm cf c0 g)(e:g.E kt)(m:Mg F G (g.LL kt))(Y:g.Good tm G)(N:∀e∈G,tm e<=kt):Dv tm g v kt kv G where
 Jj:=Y
 le:=N
 ak T n ha:=by
  obtain⟨O,U⟩:=x.ak T n ha;refine⟨O,fun V=>?_⟩;rcases U V with J|J
  ·rcases aaz T kt with hT|hT
   ·by_cases hb:Pf n (g.LL T) (g.H kt)
    ·have X:=hb.trans ((d.hl kt e).mono hb.2.1);exact .inl (J.trans (m n (J.symm.trans X)))
    grind
   obtain rfl:T=kt:=qo
   exact .inl<|J.trans (m n J.symm)
  exact .inr J
 vt:=x.vt
 cd:=x.cd
theorem dC.merge{kt n F G}(x:dC g kt F n)(d:Gd tm cf c0 g)(e:g.E kt)(m:Mg F G (g.LL kt)):dC g kt G n:=
 x.pf (m n (x.ll d e (aac _)))
def Gd.SQ(d:Gd tm cf c0 g){n:Nat}{kv F}(x:Dv tm g v T kv F)(e:g.E T)(p:Pf n (g.LL T) F):∃h,Gr v g h/\Gd tm cf c0 h/\Dv tm h v T kv F/\(∀m,m<=n->h.Ak T m v)/\h.E=g.E/\h.Ld=g.Ld/\h.LL=g.LL/\h.Cd=g.Cd/\h.CL=g.CL/\h.Ct=g.Ct/\h.RN=g.RN:=by
 obtain⟨h,Y⟩:∃h:Gs ε,h={g with Ak:=fun S m u=>g.Ak S m u\/(u=v/\S=T/\m<=n)}:=⟨_,rfl⟩
 have a:Gr v g h:=by
  subst Y;exact {Cw v g with ak:=fun _ _ _ h=>.inl h,a2:=fun _ _ _ h=>h.imp id (·.1)}
 have no:∀N c,g.Vt N v c->T<N->False:=fun N c hv hT=>by
  rcases x.vt N c hv with h|h<;>omega
 refine⟨h,a,?_,x.gr a d (fun S m U=>?_) (fun S c U=>?_) (fun S U=>?_),?_⟩
 ·subst Y
  exact {d with
   ct:=fun T n C hc=>by
    obtain⟨V,X,Z,h4⟩:=d.ct T n C hc;exact⟨V,X,Z.imp fun v hv=>.inl hv,h4⟩
   ve:=fun S N m u c hv J O=>by
    rcases J with J|⟨rfl,rfl,_⟩
    ·exact d.ve S N m u c hv J O
    exact(no N c (d.vv _ _ _ hv) O).elim
   va:=fun S N m u c hv J O=>by
    rcases J with J|⟨rfl,rfl,_⟩
    ·exact d.va S N m u c hv J O
    exact(no N c hv O).elim
   ak:=fun S m u J=>by
    rcases J with J|⟨rfl,rfl,hm⟩
    ·exact d.ak S m u J
    exact⟨e,by have:=p.1;show m<=eq (g.LL S);omega⟩
   Tu:=fun S m i u J hi=>J.imp (fun J=>d.Tu S m i u J hi) fun⟨V,X,Z⟩=>⟨V,X,qo⟩}
 ·subst Y;rcases U with U|⟨_,rfl,hm⟩
  ·exact .inl U
  exact .inr ⟨aac _,p.mono hm⟩
 all_goals simp_all
def Gd.Tf(d:Gd tm cf c0 g){n:Nat}(e:g.E T)(hv:g.Ld T=v)(hn:eq (g.H T)<n)(hl:n<=eq (g.LL T))(q:Qr (bU cf c0 (g.LL T)) (g.Ak T n)):∃h,Gr v g h/\Gd tm cf c0 h/\h.Ct T n (bU cf c0 (g.LL T))/\(∀S m C,h.Ct S m C->g.Ct S m C\/m=n)/\h={g with Ct:=h.Ct}:=by
 refine⟨{g with Ct:=fun S m C=>g.Ct S m C\/(S=T/\m=n/\C=bU cf c0 (g.LL T))},{Cw v g with ct:=fun _ _ _ h=>.inl h,TA:=fun S m C h=>h.imp id fun h=>by rw[h.1];exact⟨e,hv⟩},{d with
  rc:=fun S k x C N O U V=>by
   obtain⟨m,m1,m2,X,Y⟩:=d.rc S k x C N O U V;exact⟨m,.inl m1,m2,X,Y⟩
  ct:=fun S m C J=>by
   rcases J with J|⟨rfl,rfl,rfl⟩
   ·exact d.ct S m C J
   exact⟨e,hn,q,eq (g.LL S),hl,aac _,Q8⟩},.inr ⟨I,I,I⟩,fun S m C h=>h.imp id (·.2.1),I⟩
def Dv.Tn{kt kv F B}(d:Gd tm cf c0 g)(x:Dv tm g v kt kv F)(gB:g.Good tm B)(tB:∀e∈B,tm e<kt)(hn:jN tm F<jN tm B\/(jN tm F=jN tm B/\eq F<=eq B)){n:Nat}(Z:g.Ak T n v)(hT:T<kt)(hh:eq (g.H T)<n):
  Pf n (g.LL T) B\/∃S,T<S/\S<=kt/\g.E S/\(g.E kt->True)/\(S=kt->g.E kt)/\¬Pf n (g.LL T) (g.H S):=by
 obtain⟨eT,ab⟩:=d.ak T n v Z;rcases(x.ak T n Z).2 hh with p|⟨S,s1,s2,s3,s4⟩
 ·have hF:F≠[]:=fun h=>by have:=p.2.1;rw[h,aaT]at this;omega
  obtain⟨z,hz,ez⟩:=wP (tm:=tm) hF
  have aa:T<=jN tm F:=by
   obtain⟨y,U⟩:∃y,(g.LL T)[n-1]?=some y:=⟨_,aai qo⟩;have h1:=d.ht T (n-1) y eT U qo;rw[p.get (show n-1<n by omega)]at U;have h2:=d.mono x.Jj U hz (by have:=p.2.1;omega);omega
  have Y:B≠[]:=fun h=>by
   simp_all[jN]
  obtain⟨w,O,ew⟩:=wP (tm:=tm) Y;obtain⟨V,J⟩:=gB _ w O;have N:eq B-1+1=eq B:=by have:=abz.2 Y;omega
  rw[N]at J;have ae:=tB w (aam O)
  have ad:eq (g.H (tm w))<eq B:=by
   have X:=J.get (show eq B-1<eq B by omega);rw[O]at X;rcases aaz (eq B-1) (eq (g.H (tm w)))with h|h
   ·exact absurd ((d.SU V X.symm).1 h)<|Nat.lt_irrefl _
   omega
  rcases aaz T (tm w)with h|h
  ·by_cases hb:Pf n (g.LL T) (g.H (tm w))
   ·have h5:=hb.trans ((d.hl (tm w) V).mono hb.2.1);exact .inl (h5.trans (J.mono (by have:=hb.2.1;omega)).symm)
   grind
  have e1:tm w=T:=qo
  have e2:jN tm F=T:=qo
  have hl:eq F<=eq B:=qo
  rw[e1]at J;have:=p.2.1;exact .inl (J.mono qo).symm
 grind
theorem Gd.Qe(d:Gd tm cf c0 g){c F}(x:Dv tm g v T c F)(hc:g.Cd T c)(aa:c ≠ -1)(hn:jN tm F<jN tm (g.CL T c)\/(jN tm F=jN tm (g.CL T c)/\eq F<=eq (g.CL T c))):
  ∃h,Gr v g h/\Gd tm cf c0 h/\Dv tm h v T c F/\h.Vt T v c/\h.E=g.E/\h.Ld=g.Ld/\h.LL=g.LL/\h.Cd=g.Cd/\h.CL=g.CL/\h.Ct=g.Ct/\h.Ak=g.Ak/\h.RN=g.RN:=by
 obtain⟨gB,tB⟩:=d.cg T c hc;obtain⟨h,U⟩:∃h:Gs ε,h={g with Vt:=fun S u b=>g.Vt S u b\/(S=T/\u=v/\b=c),Ve:=fun S u b=>g.Ve S u b\/((S=T/\u=v/\b=c)/\¬g.E T)}:=⟨_,rfl⟩
 have a:Gr v g h:=by
  subst U;exact {Cw v g with vt:=fun _ _ _ h=>.inl h,ve:=fun _ _ _ h=>.inl h,v2:=fun _ _ _ h=>h.imp id (·.2.1),TJ:=fun _ _ _ h=>h.imp id fun h=>by rw[h.1.1];exact h.2}
 have uq:∀b,g.Vt T v b->b=c:=fun b hb=>by
  rcases x.vt T b hb with h|⟨_,h,_⟩
  all_goals omega
 refine⟨h,a,?_,x.gr a d (fun S m Y=>?_) (fun S b Y=>?_) (fun S Y=>?_),?_⟩
 ·subst U
  exact {d with
   S0:=fun S eS=>⟨(d.S0 S eS).1,(d.S0 S eS).2.imp fun u hu=>.inl hu⟩
   Sb:=fun S u b b' J X=>by
    rcases J with J|⟨rfl,rfl,rfl⟩
    ·rcases X with X|⟨rfl,rfl,rfl⟩
     ·exact d.Sb S u b b' J X
     exact uq b J
    grind
   vv:=fun S u b J=>J.imp (d.vv S u b) (·.1)
   vl:=fun S u b J=>by
    rcases J with J|J
    ·exact(d.vl S u b J).imp .inl id
    grind
   rb:=fun S k r u b J=>.inl (d.rb S k r u b J)
   vc:=fun S u b J=>by
    rcases J with J|⟨rfl,_,rfl⟩
    ·exact d.vc S u b J
    exact hc
   ve:=fun S V n u b J O N hl=>by
    rcases J with J|⟨⟨rfl,rfl,rfl⟩,J⟩
    ·exact d.ve S V n u b J O N hl
    refine(x.Tn d gB tB hn O N hl).imp id fun⟨R,Z,r2,r3,_,r4,r5⟩=>⟨R,Z,?_,r3,r5⟩
    grind
   va:=fun S V n u b J O N hl=>by
    rcases J with J|⟨rfl,rfl,rfl⟩
    ·exact d.va S V n u b J O N hl
    exact(x.Tn d gB tB hn O N hl).imp id fun⟨R,Z,r2,r3,_,r4,r5⟩=>⟨R,Z,r2,r3,r5⟩}
 ·subst U;exact .inl Y
 ·subst U
  grind
 all_goals simp_all
def Gd.asks(d:Gd tm cf c0 g){kt:Nat}{kv F}(x:Dv tm g v kt kv F)(hT:kt<T):∃h,Gr v g h/\Gd tm cf c0 h/\Dv tm h v T v F/\h.Cd T v/\h.CL T v=F/\h.E=g.E/\h.Ld=g.Ld/\h.LL=g.LL/\h.Ct=g.Ct/\h.Ak=g.Ak:=by
 have no:¬g.Cd T v:=fun U=>by have:=x.cd T U;omega
 obtain⟨h,hh⟩:∃h:Gs ε,h={g with Cd:=fun S u=>g.Cd S u\/(S=T/\u=v),CL:=fun S u=>if S=T/\u=v then F else g.CL S u}:=⟨_,rfl⟩
 have cl:∀S u,g.Cd S u->h.CL S u=g.CL S u:=fun S u U=>by
  subst hh
  grind
 have a:Gr v g h:=by
  have aa:=cl;subst hh;exact {Cw v g with cl:=fun S u U=>⟨.inl U,aa S u U⟩,c2:=fun _ _ h=>h.imp id (·.2)}
 have Z:∀S,g.E S->h.H S=g.H S:=fun S J=>a.hh d J
 have x1:Dv tm h v T v F:=(x.up (kv':=v) (.inl hT)).gr a d (fun S m X=>by subst hh;exact .inl X) (fun S b X=>by subst hh;exact .inl X) (fun S X=>by
  subst hh
  grind)
 have cF:h.CL T v=F:=by subst hh;simp
 have cT:h.Cd T v:=by subst hh;omega
 have e0:h.E=g.E/\h.Ld=g.Ld/\h.LL=g.LL/\h.Vt=g.Vt/\h.Ve=g.Ve/\h.Ak=g.Ak/\h.Ct=g.Ct/\h.RB=g.RB/\h.RN=g.RN:=by simp_all
 obtain⟨O,e2,Y,e4,e5,e6,e7,e8,e9⟩:=e0;refine⟨h,a,?_,x1,cT,cF,O,e2,Y,e7,e6⟩;have gd:∀G,g.Good tm G->h.Good tm G:=fun G hG=>a.Jj hG;refine⟨fun S J=>?_,fun S k y J hy X=>?_,fun S J=>?_,fun S J=>?_,fun S c U=>?_,fun S k y C J hy X ab=>?_,fun S n C U=>?_,fun S u b b'=>?_,fun S u b=>?_,fun S u b=>?_,fun S u b hb=>?_,fun S T' n u b hb N hS hl=>?_,fun S T' n u b hb N hS hl=>?_,fun S n u N=>?_,fun S k r u b hb=>?_,fun S m i u N hi=>?_,fun S hS=>?_⟩
 ·rw[O]at J;rw[Z S J,Y];exact d.hl S J
 ·rw[O]at J;rw[Z S J]at X;rw[Y]at hy;exact d.ht S k y J hy X
 ·rw[O]at J;rw[Y];exact gd _ (d.hg S J)
 ·rw[O]at J;rw[Z S J,e2,e5];exact⟨(a.cl _ _ (d.S0 S J).1).1,(d.S0 S J).2⟩
 ·have V:g.Cd S c\/(S=T/\c=v):=by subst hh;exact U
  rcases V with V|⟨rfl,rfl⟩
  ·rw[cl S c V];exact⟨gd _ (d.cg S c V).1,(d.cg S c V).2⟩
  rw[cF];exact⟨gd _ x.Jj,fun e he=>by have:=x.le e he;omega⟩
 ·rw[O]at J;rw[Z S J]at X;rw[Y]at hy⊢;rw[e7];exact d.rc S k y C J hy X ab
 ·rw[e7]at U;rw[Z S (d.ct S n C U).1,O,Y,e6];exact d.ct S n C U
 ·rw[e4];exact d.Sb S u b b'
 ·rw[e4,e5];exact d.vv S u b
 ·rw[O,e4,e5];exact d.vl S u b
 ·rw[e4]at hb;exact(a.cl S b (d.vc S u b hb)).1
 ·rw[e5]at hb;rw[e6]at N;rw[Z S (d.ak S n u N).1]at hl;rw[cl T' b (d.vc _ _ _ (d.vv _ _ _ hb)),O,Y];exact(d.ve S T' n u b hb N hS hl).imp id fun⟨R,r1,r2,r3,r4⟩=>⟨R,r1,r2,r3,by rw[Z R r3];exact r4⟩
 ·rw[e4]at hb;rw[e6]at N;rw[Z S (d.ak S n u N).1]at hl;rw[cl T' b (d.vc _ _ _ hb),O,Y];exact(d.va S T' n u b hb N hS hl).imp id fun⟨R,r1,r2,r3,r4⟩=>⟨R,r1,r2,r3,by rw[Z R r3];exact r4⟩
 ·rw[e6]at N;rw[O,Y];exact d.ak S n u N
 ·rw[e8]at hb;rw[e4];exact d.rb S k r u b hb
 ·rw[e6]at N⊢;exact d.Tu S m i u N hi
 rw[e9]at hS;rw[O];exact d.Ts S hS
def Gd.TY(d:Gd tm cf c0 g){kt:Nat}{kv F}(x:Dv tm g v kt kv F)(hT:kt<T)(hv:v ≠ -1):∃h,Gr v g h/\Gd tm cf c0 h/\Dv tm h v T v F/\h.Cd T v/\h.CL T v=F/\h.Vt T v v/\h.E=g.E/\h.Ld=g.Ld/\h.LL=g.LL/\h.Ct=g.Ct:=by
 obtain⟨h,a,N,x1,J,c2,U,e2,V,X,e5⟩:=d.asks x hT;obtain⟨k,b,O,x2,v2,f1,f2,Y,Z,f5,f6,f7,f8⟩:=N.Qe x1 J hv (.inr (by rw[c2];omega));exact⟨k,a.trans b,O,x2,by rw[Z];exact J,by rw[f5];exact c2,v2,f1.trans U,f2.trans e2,Y.trans V,f6.trans X⟩
theorem Gd.leads(d:Gd tm cf c0 g){kv F}(x:Dv tm g v T kv F)(w:g.T5 cf c0 T v)(hF:g.CL T v=F)(ne:¬(g.E T/\g.Ld T=v)):
  ∃h,Gr v g h/\Gd tm cf c0 h/\Dv tm h v T kv F/\h.E T/\h.Ld T=v/\h.LL T=F/\h.H T=F/\h.Ak=g.Ak/\h.Vt=g.Vt/\h.Ct=g.Ct/\¬g.E T/\h.RN T=0/\∀S,h.E S->h.LL S=F\/(g.E S/\h.LL S=g.LL S):=by
 have ne:¬g.E T:=fun e=>ne ⟨e,d.one e w⟩;obtain⟨h,hh⟩:∃h:Gs ε,h={g with E:=fun S=>g.E S\/S=T,Ld:=fun S=>if S=T then v else g.Ld S,LL:=fun S=>if S=T then F else g.LL S}:=⟨_,rfl⟩
 have Jd:∀S,g.E S->h.E S/\h.Ld S=g.Ld S/\h.LL S=g.LL S:=fun S J=>by
  have:S≠T:=fun e=>ne (by rw[<-e];exact J)
  simp_all
 have N:h.E T/\h.Ld T=v/\h.LL T=F:=by simp_all
 have e0:h.Cd=g.Cd/\h.CL=g.CL/\h.Vt=g.Vt/\h.Ve=g.Ve/\h.Ak=g.Ak/\h.Ct=g.Ct/\(∀S,h.E S->g.E S\/S=T)/\h.RN=g.RN/\h.RB=g.RB:=by simp_all
 obtain⟨e1,e2,X,e4,Y,e6,e7,e8,e9⟩:=e0
 have a:Gr v g h:={
  e:=fun S J=>⟨(Jd S J).1,(Jd S J).2.1⟩
  ll:=fun S J=>⟨[],by rw[(Jd S J).2.2];simp,fun _=>rfl⟩
  cl:=fun S u V=>by rw[e1,e2];exact⟨V,I⟩
  vt:=fun S u b hb=>by rw[X];exact hb
  ve:=fun S u b hb=>by rw[e4];exact hb
  ak:=fun S u b hb=>by rw[Y];exact hb
  ct:=fun S u b hb=>by rw[e6];exact hb
  e2:=fun S J=>(e7 S J).imp id fun e=>by rw[e];exact N.2.1
  c2:=fun S u V=>by rw[e1]at V;exact .inl V
  v2:=fun S u b hb=>by rw[X]at hb;exact .inl hb
  a2:=fun S u b hb=>by rw[Y]at hb;exact .inl hb
  rn:=fun S=>by simp_all
  rb:=fun S k _=>by rw[e9]
  TA:=fun S n C h=>by rw[e6]at h;exact .inl h
  TJ:=fun S u b hb=>by rw[e4]at hb;exact .inl hb}
 have Z:∀S,g.E S->h.H S=g.H S:=fun S J=>a.hh d J;have aa:h.H T=F:=by unfold Gs.H;rw[N.2.1,e2];exact hF
 obtain⟨gF,tF⟩:=d.cg T v w.1;rw[hF]at gF tF;refine⟨h,a,(⟨fun S J=>?_,fun S k y J hy U=>?_,fun S J=>?_,fun S J=>?_,fun S c V=>?_,fun S k y C J hy U ab=>?_,fun S n C V=>?_,fun S u b b'=>?_,fun S u b=>?_,fun S u b hb=>?_,fun S u b hb=>?_,fun S T' n u b hb O hS hl=>?_,fun S T' n u b hb O hS hl=>?_,fun S n u O=>?_,fun S k r u b hb=>?_,fun S m i u O hi=>?_,fun S hS=>?_⟩),x.gr a d (fun S m U=>by rw[Y]at U;exact .inl U) (fun S b U=>by rw[X]at U;exact .inl U) (fun S U=>by rw[e1]at U;exact .inl U),N.1,N.2.1,N.2.2,aa,Y,X,e6,ne,by rw[e8];exact Decidable.byContradiction fun h=>ne (d.Ts T h),fun S J=>(e7 S J).elim (fun h=>.inr ⟨h,(Jd S h).2.2⟩) fun h=>.inl (by rw[h];exact N.2.2)⟩
 ·rcases e7 S J with J|rfl
  ·rw[Z S J,(Jd S J).2.2];exact d.hl S J
  simp_all[Cs]
 ·rcases e7 S J with J|rfl
  ·rw[Z S J]at U;rw[(Jd S J).2.2]at hy;exact d.ht S k y J hy U
  simp_all
 ·rcases e7 S J with J|rfl
  ·rw[(Jd S J).2.2];exact a.Jj (d.hg S J)
  rw[N.2.2];exact a.Jj gF
 ·rcases e7 S J with J|rfl
  ·rw[Z S J,(Jd S J).2.1,e1,e4];exact d.S0 S J
  rw[aa,N.2.1,e1,e4];refine⟨w.1,?_⟩;have:=w.2.imp (R:=fun u=>g.Ve S u v) fun u hu=>(d.vl S u v hu).resolve_right ne;rw[hF]at this;exact this
 ·rw[e1]at V;rw[e2];exact⟨a.Jj (d.cg S c V).1,(d.cg S c V).2⟩
 ·rcases e7 S J with J|rfl
  ·rw[Z S J]at U;rw[(Jd S J).2.2]at hy⊢;rw[e6];exact d.rc S k y C J hy U ab
  simp_all
 ·rw[e6]at V;have J:=(d.ct S n C V).1;rw[Z S J,(Jd S J).2.2,Y];exact⟨(Jd S J).1,(d.ct S n C V).2⟩
 ·rw[X];exact d.Sb S u b b'
 ·rw[X,e4];exact d.vv S u b
 ·rw[X]at hb;rw[e4];exact(d.vl S u b hb).imp id fun J=>(Jd S J).1
 ·rw[X]at hb;rw[e1];exact d.vc S u b hb
 ·rw[e4]at hb;rw[Y]at O;have J:=(d.ak S n u O).1;rw[Z S J]at hl;rw[e2,(Jd S J).2.2];exact(d.ve S T' n u b hb O hS hl).imp id fun⟨R,r1,r2,r3,r4⟩=>⟨R,r1,r2,(Jd R r3).1,by rw[Z R r3];exact r4⟩
 ·rw[X]at hb;rw[Y]at O;have J:=(d.ak S n u O).1;rw[Z S J]at hl;rw[e2,(Jd S J).2.2];exact(d.va S T' n u b hb O hS hl).imp id fun⟨R,r1,r2,r3,r4⟩=>⟨R,r1,r2,(Jd R r3).1,by rw[Z R r3];exact r4⟩
 ·rw[Y]at O;have J:=(d.ak S n u O).1;rw[(Jd S J).2.2];exact⟨(Jd S J).1,(d.ak S n u O).2⟩
 ·rw[e9]at hb;rw[X];exact d.rb S k r u b hb
 ·rw[Y]at O⊢;exact d.Tu S m i u O hi
 rw[e8]at hS;exact(Jd S (d.Ts S hS)).1
def Gd.Ug(d:Gd tm cf c0 g){kv F}(x:Dv tm g v T kv F)(e:g.E T)(hv:g.Ld T=v)(hF:g.LL T=F){y}(hy:tm y=T)
  (rc:∀C,cf y=some C->∃n,g.Ct T n (bU cf c0 F)/\n<=eq F/\Nc cf F n (eq F)/\gC (bU cf c0 F) C):
  ∃h,Gr v g h/\Gd tm cf c0 h/\Dv tm h v T kv (F++[y])/\Dv tm h v T kv F/\h.LL T=F++[y]/\h.E=g.E/\h.Ld=g.Ld/\h.H=g.H/\h.Ak=g.Ak/\h.Ct=g.Ct/\h.Vt=g.Vt/\h.RN=g.RN/\(∀S,S≠T->h.LL S=g.LL S):=by
 obtain⟨h,hh⟩:∃h:Gs ε,h={g with LL:=fun S=>if S=T then F++[y]else g.LL S}:=⟨_,rfl⟩
 have ll:∀S,∃X,h.LL S=g.LL S++X/\(S≠T->X=[]):=fun S=>by
  subst hh
  by_cases O:S=T
  all_goals simp_all
 have nT:h.LL T=F++[y]:=by subst hh;simp
 have e0:h.E=g.E/\h.Ld=g.Ld/\h.H=g.H/\h.Cd=g.Cd/\h.CL=g.CL/\h.Vt=g.Vt/\h.Ve=g.Ve/\h.Ak=g.Ak/\h.Ct=g.Ct/\h.RN=g.RN/\h.RB=g.RB:=by subst hh;exact⟨I,I,I,I,I,I,I,I,I,I,I⟩
 obtain⟨U,e2,e3,e4,e5,e6,e7,e8,e9,ae,ag⟩:=e0
 have a:Gr v g h:={
  e:=fun S J=>by rw[U,e2];exact⟨J,I⟩
  ll:=fun S J=>by
   obtain⟨X,V,h2⟩:=ll S
   grind
  cl:=fun S u hc=>by rw[e4,e5];exact⟨hc,I⟩
  vt:=fun S u b hb=>by rw[e6];exact hb
  ve:=fun S u b hb=>by rw[e7];exact hb
  ak:=fun S u b hb=>by rw[e8];exact hb
  ct:=fun S u b hb=>by rw[e9];exact hb
  e2:=fun S J=>by rw[U]at J;exact .inl J
  c2:=fun S u hc=>by rw[e4]at hc;exact .inl hc
  v2:=fun S u b hb=>by rw[e6]at hb;exact .inl hb
  a2:=fun S u b hb=>by rw[e8]at hb;exact .inl hb
  rn:=fun S=>by simp_all
  rb:=fun S k _=>by rw[ag]
  TA:=fun S n C h=>by rw[e9]at h;exact .inl h
  TJ:=fun S u b hb=>by rw[e7]at hb;exact .inl hb}
 have x1:Dv tm h v T kv F:=x.gr a d (fun S m N=>by rw[e8]at N;exact .inl N) (fun S b N=>by rw[e6]at N;exact .inl N) (fun S N=>by rw[e4]at N;exact .inl N)
 have gN:h.Good tm (F++[y]):=fun k z N=>by
  rcases aaz k (eq F)with hl|hl
  ·rw[abE hl]at N;obtain⟨V,h2⟩:=x1.Jj k z N;exact⟨V,Pf.trans ((Pf.app (Cs hl) [y]).symm) h2⟩
  grind[Pf.refl]
 have x2:Dv tm h v T kv (F++[y]):=by
  refine⟨gN,fun z Z=>?_,fun S m N=>?_,x1.vt,x1.cd⟩
  ·rcases aao.1 Z with Z|Z
   ·exact x1.le z Z
   simp_all
  obtain⟨V,h2⟩:=x1.ak S m N;exact⟨V,fun h3=>(h2 h3).imp (fun p=>p.app [y]) id⟩
 refine⟨h,a,?_,x2,x1,nT,U,e2,e3,e8,e9,e6,ae,fun S O=>by
  simp_all⟩
 have tk:∀S k,k<=eq (g.LL S)->(h.LL S).take k=(g.LL S).take k:=fun S k N=>by
  obtain⟨X,V,_⟩:=ll S;rw[V,aa3 N]
 have aa:∀S n B,g.E S->n<=eq (g.LL S)->(Pf n (h.LL S) B↔Pf n (g.LL S) B):=fun S n B J hn=>⟨a.Ur J hn,fun p=>(a.pf J p.symm).symm⟩;refine⟨fun S J=>?_,fun S k z J Z N=>?_,fun S J=>?_,fun S J=>?_,fun S c hc=>?_,fun S k z C J Z N ab=>?_,fun S n C hc=>?_,fun S u b b'=>?_,fun S u b=>?_,fun S u b hb=>?_,fun S u b hb=>?_,fun S T' n u b hb Y O hl=>?_,fun S T' n u b hb Y O hl=>?_,fun S n u Y=>?_,fun S k r u b hb=>?_,fun S m i u Y hi=>?_,fun S O=>?_⟩
 ·rw[U]at J;rw[e3];exact a.pf J (d.hl S J)
 ·rw[U]at J;rw[e3]at N
  by_cases O:S=T
  ·subst O;rw[nT]at Z;rcases aaz k (eq F)with hl|hl
   ·rw[abE hl,<-hF]at Z;exact d.ht S k z J Z N
   grind
  obtain⟨X,V,h2⟩:=ll S;rw[V,h2 O,aaw]at Z;exact d.ht S k z J Z N
 ·rw[U]at J
  by_cases O:S=T
  ·rw[O,nT];exact gN
  obtain⟨X,V,h2⟩:=ll S;rw[V,h2 O,aaw];exact a.Jj (d.hg S J)
 ·rw[U]at J;rw[e4,e2,e3,e7];exact d.S0 S J
 ·rw[e4]at hc;rw[e5];exact⟨a.Jj (d.cg S c hc).1,(d.cg S c hc).2⟩
 ·rw[U]at J;rw[e3]at N;rw[e9]
  by_cases am:k<eq (g.LL S)
  ·have ap:(g.LL S)[k]?=some z:=by
    obtain⟨X,V,_⟩:=ll S
    grind
   obtain⟨n,n1,n2,n3,n4⟩:=d.rc S k z C J ap N ab;rw[tk S k (abg am)];refine⟨n,n1,n2,fun i w hi ad hw=>n3 i w hi ad ?_,n4⟩;obtain⟨X,V,_⟩:=ll S
   grind
  have O:S=T:=by
   refine abq fun O=>?_
   simp_all
  subst O;rw[nT]at Z⊢;rw[hF]at am;have an:k=eq F:=by grind
  subst an;have aq:z=y:=by simpa using Z.symm
  rw[aq]at ab;obtain⟨n,n1,n2,n3,n4⟩:=rc C ab;rw[List.take_left];refine⟨n,n1,n2,fun i w hi ad hw=>n3 i w hi ad ?_,n4⟩
  grind
 ·rw[e9]at hc;obtain⟨V,h2,h3,k,k1,k2,k3⟩:=d.ct S n C hc;rw[U,e3,e8];obtain⟨X,l1,_⟩:=ll S
  grind
 ·rw[e6];exact d.Sb S u b b'
 ·rw[e6,e7];exact d.vv S u b
 ·rw[e6]at hb;rw[e7,U];exact d.vl S u b hb
 ·rw[e6]at hb;rw[e4];exact d.vc S u b hb
 ·rw[e7]at hb;rw[e8]at Y;rw[e3]at hl;obtain⟨J,hn⟩:=d.ak S n u Y;rw[e5,U,e3,aa S n _ J hn];exact(d.ve S T' n u b hb Y O hl).imp id fun⟨R,r1,r2,r3,r4⟩=>⟨R,r1,r2,r3,by rw[aa S n _ J hn];exact r4⟩
 ·rw[e6]at hb;rw[e8]at Y;rw[e3]at hl;obtain⟨J,hn⟩:=d.ak S n u Y;rw[e5,U,e3,aa S n _ J hn];exact(d.va S T' n u b hb Y O hl).imp id fun⟨R,r1,r2,r3,r4⟩=>⟨R,r1,r2,r3,by rw[aa S n _ J hn];exact r4⟩
 ·rw[e8]at Y;obtain⟨J,hn⟩:=d.ak S n u Y;obtain⟨X,l1,_⟩:=ll S
  grind
 ·rw[ag]at hb;rw[e6];exact d.rb S k r u b hb
 ·rw[e8]at Y⊢;exact d.Tu S m i u Y hi
 rw[ae]at O;rw[U];exact d.Ts S O
def Gd.round(d:Gd tm cf c0 g){k:Nat}(e:g.E T)(hv:g.Ld T=v)(N:g.RN T<k):∃h,Gr v g h/\Gd tm cf c0 h/\h.RN T=k/\h.RB T k=g.Vt/\(∀S,S≠T->h.RN S=g.RN S/\h.RB S=g.RB S)/\h={g with RN:=h.RN,RB:=h.RB}:=by
 refine⟨{g with RN:=fun S=>if S=T then k else g.RN S,RB:=fun S i=>if S=T/\i=k then g.Vt else g.RB S i},{Cw v g with
  rn:=fun S=>?_
  rb:=fun S i hi=>?_},{d with
  rb:=fun S i t u c h=>?_
  Ts:=fun S J=>?_},aab rfl,aab ⟨rfl,rfl⟩,fun S J=>⟨aaa J,funext fun i=>aaa fun h=>J h.1⟩,rfl⟩
 ·grind
 ·grind
 ·have h:(if S=T/\i=k then g.Vt else g.RB S i) t u c:=h
  split at h
  ·exact h
  exact d.rb S i t u c h
 by_cases h:S=T
 ·rw[h];exact e
 exact d.Ts S (by simp_all)
def Gd.Uj(d:Gd tm cf c0 g){k:Nat}(e:g.E T)(hv:g.Ld T=v)(N:g.RN T<=k):∃h,Gr v g h/\Gd tm cf c0 h/\h.RN T=k/\h={g with RN:=h.RN}:=by
 refine⟨{g with RN:=fun S=>if S=T then k else g.RN S},{Cw v g with
  rn:=fun S=>?_},{d with Ts:=fun S J=>?_},aab rfl,rfl⟩
 ·grind
 by_cases h:S=T
 ·rw[h];exact e
 exact d.Ts S (by simp_all)
end
end
section
abbrev SF:=Int->Option gx
def kF(s s':Option gx):Prop:=
 match s with
 |none=>s'=none
 |some s=>(s.R6=false/\s'=none)\/∃v∈s.vs,s'=some ⟨[v],true⟩
def Pk(f f':SF):Prop:=∀n,kF (f n) (f' n)
def f9(f:SF)(n:Int):Option (Aa):=(f n).map fun s=>s.vs.getLastD []
def Fm(D:Dk)(a n:Int):D.read a n=f9 (D.sec a) n:=rfl
def Fx(f:SF):Prop:=∀n s,f n=some s->s.R6=true/\∃v,s.vs=[v]
def Pk.fx{f f':SF}(h:Pk f f'):Fx f':=by
 intro n s hs;have:=h n;unfold kF at this
 grind
def Fx.pk{f f':SF}(h:Fx f)(p:Pk f f'):f'=f:=by
 funext n
 have:=p n;unfold kF at this;cases hf:f n with
 |none=>rw[hf]at this;exact this
 |some t=>
  rw[hf]at this;obtain⟨O,v,U⟩:=h n t hf;rcases this with⟨J,_⟩|⟨u,N,J⟩
  ·rw[O]at J;cases J
  rw[U]at N;simp only[aaC]at N;rw[J,N];obtain⟨vs,V⟩:=t;cases O;cases U
  rfl
def jt(f:SF):Nat->Nat->Aa
 |0,_=>[]
 |k+1,n=>match f9 f n with
  |none=>[]
  |some s=>(s.drop 1).take (iM s)++(if iM s<63 then []else jt f k (n+1))
def lL(f:SF):Aa:=jt f 65537 0
theorem FN(D:Dk)(num:Nat):∀(k n:Nat),lW D num k n=jt (D.sec (aM num)) k n
 |0,_=>rfl
 |k+1,n=>by
  rw[tw,jt,Fm];cases f9 (D.sec (aM num)) n with
  |none=>rfl
  |some s=>dsimp only;rw[FN D num k (n+1)]
theorem tU(D:Dk)(num:Nat):fY D num=lL (D.sec (aM num)):=FN D num 65537 0
def BA{f:SF}{n:Nat}{s:Aa}(h:f9 f n=some s)(k:Nat):jt f (k+1) n=(s.drop 1).take (iM s)++(if iM s<63 then []else jt f k (n+1)):=by
 rw[jt,h]
def qU{f:SF}{n:Nat}(h:f n=none)(k:Nat):jt f (k+1) n=[]:=by
 simp_all[f9,jt]
def lT(c:Aa):Aa:=fp (UInt8.ofNat (eq c)::c)
def Ci{c}(h:eq c<=63):iM (lT c)=eq c/\((lT c).drop 1).take (eq c)=c/\eq (lT c)=64:=by
 refine⟨?_,?_,?_⟩
 ·unfold iM lT fp
  simp
  omega
 all_goals simp_all[lT,fp]
structure gH (f:SF) (T:Aa) (t0:Nat):Prop where
 le:t0<=eq T
 has:∀n:Nat,63*n<eq T->∃s,f n=some s/\s.vs.getLast?=some (lT ((T.drop (63*n)).take 63))/\(s.R6=false->t0<=63*n) /\
  ∀v∈s.vs,∃k,k<=63/\63*n+k<=eq T/\(63*(n+1)<=63*n+k\/t0<=63*n+k)/\v=lT ((T.drop (63*n)).take k)
 no:∀n:Nat,eq T<=63*n->f n=none
 neg:∀n:Int,n<0->f n=none
theorem H6(T:Aa)(n m):(T.drop (63*n)).take 63++(T.drop (63*(n+1))).take m=(T.drop (63*n)).take (63+m):=by
 rw[List.take_add,aaP,show 63*n+63=63*(n+1) by omega]
theorem gH.read{f:SF}{T:Aa}{t0:Nat}(o:gH f T t0):∀(k n:Nat),eq T<63*(n+k)->jt f k n=T.drop (63*n)
 |0,n,h=>by rw[abj qo];rfl
 |k+1,n,h=>by
  rcases aaz (63*n) (eq T)with N|J
  ·obtain⟨s,Y,Z,_,_⟩:=o.has n N;have X:f9 f n=some (lT ((T.drop (63*n)).take 63)):=by simp_all[f9]
   have V:eq ((T.drop (63*n)).take 63)<=63:=by rw[aal];omega
   obtain⟨O,U,_⟩:=Ci V;rw[BA X,O,U,gH.read o k (n+1) qo];rw[aal,aar]
   split
   ·rw[aaw,aaA (by rw[aar];omega)]
   grind[List.drop_drop,List.take_append_drop]
  rw[qU (o.no n J),abj J]
def gH.text{f:SF}{T:Aa}{t0:Nat}(o:gH f T t0)(h:eq T<=63*65536):lL f=T:=by
 unfold lL;rw[o.read 65537 0 qo,Nat.mul_zero,abC]
theorem gH.pick{f f':SF}{T:Aa}{t0:Nat}(o:gH f T t0)(p:Pk f f'):∀(k n:Nat),eq T<63*(n+k)->∃m,jt f' k n=(T.drop (63*n)).take m/\(63*n+m<=eq T\/m=0)/\t0<=63*n+m
 |0,n,h=>⟨0,by rfl,.inr rfl,by have:=o.le;omega⟩
 |k+1,n,h=>by
  rcases aaz (63*n) (eq T)with U|O
  ·obtain⟨s,Z,_,h3,h4⟩:=o.has n U;have hp:=p n;unfold kF at hp;rw[Z]at hp;rcases hp with⟨V,N⟩|⟨v,hv,N⟩
   ·exact⟨0,by rw[abS,qU N],.inr I,by have:=h3 V;omega⟩
   obtain⟨j,aa,ab,ad,rfl⟩:=h4 v hv;have hr:f9 f' n=some (lT ((T.drop (63*n)).take j)):=by unfold f9;rw[N];rfl
   have hc:eq ((T.drop (63*n)).take j)=j:=by grind
   obtain⟨X,Y,_⟩:=Ci (c:=(T.drop (63*n)).take j) qo;rw[hc]at X Y;rw[BA hr,X,Y]
   by_cases J:j<63
   ·grind
   rw[aaa J];obtain rfl:j=63:=qo
   obtain⟨m,ae,ag,ak⟩:=gH.pick o p k (n+1) qo
   grind[H6]
  have hp:=p n;unfold kF at hp;rw[o.no n O]at hp;exact⟨0,by rw[abS,qU hp],.inr I,by have:=o.le;omega⟩
def gH.Ke{f f':SF}{T:Aa}{t0:Nat}(o:gH f T t0)(h:eq T<=63*65536)(p:Pk f f'):∃m,m<=eq T/\t0<=m/\lL f'=T.take m:=by
 obtain⟨m,J,N,O⟩:=o.pick p 65537 0 qo;rw[Nat.mul_zero,abC]at J;exact⟨m,qo,qo,J⟩
structure zM (f:SF) (T:Aa):Prop where
 fx:Fx f
 text:lL f=T
def gG(f:SF):SF:=fun n=>(f n).map jJ
def xU(f:SF):Fx (gG f):=by
 intro n s h;unfold gG at h;cases hf:f n with
 |none=>rw[hf]at h;cases h
 |some t=>rw[hf]at h;cases h;exact⟨I,_,I⟩
theorem t6(f:SF)(n:Int):f9 (gG f) n=f9 f n:=by
 unfold f9 gG;cases f n with
 |none=>rfl
 |some t=>simp[jJ]
theorem A3{f g:SF}(h:∀n,f9 f n=f9 g n):∀(k n:Nat),jt f k n=jt g k n
 |0,_=>rfl
 |k+1,n=>by rw[jt,jt,h,A3 h k (n+1)]
def JC(f:SF):lL (gG f)=lL f:=A3 (t6 f) _ _
def gH.R6{f:SF}{T:Aa}{t0:Nat}(o:gH f T t0):gH (gG f) T (eq T):=by
 refine⟨aac _,fun n hn=>?_,fun n hn=>by unfold gG;rw[o.no n hn];rfl,fun n hn=>by unfold gG;rw[o.neg n hn];rfl⟩;obtain⟨s,N,J,O,U⟩:=o.has n hn;refine⟨jJ s,by unfold gG;rw[N];rfl,?_,fun h=>(by cases h),fun v hv=>?_⟩
 ·show [s.vs.getLastD []].getLast?=_;rw[abH,J]
  rfl
 have hv:v∈[s.vs.getLastD []]:=hv;rw[abH,J]at hv;simp only[aaZ,aaC]at hv;refine⟨min 63 (eq T-63*n),qo,qo,qo,?_⟩
 grind[List.length_drop]
def gH.closed{f:SF}{T:Aa}{t0:Nat}(o:gH f T t0)(h:eq T<=63*65536):zM (gG f) T:=⟨xU f,by rw[JC,o.text h]⟩
def jI(f:SF)(n:Int)(s:gx):SF:=fun k=>if k=n then some s else f k
def gH.write{f:SF}{T c:Aa}{t0 n:Nat}(o:gH f T t0)(hn:63*n<=eq T)(ag:eq T<=63*(n+1))(hc:eq c<=63)(aa:0<eq c)(hp:T.drop (63*n) <+: c):
  gH (jI f n (gp (f n) (UInt8.ofNat (eq c)::c))) (T.take (63*n)++c) t0:=by
 have hl:eq (T.take (63*n))=63*n:=by rw[aal];omega
 have Z:eq (T.take (63*n)++c)=63*n+eq c:=by rw[aaj,hl]
 have V:=hp.length_le;rw[aar]at V;have ae:=o.le;refine⟨qo,fun j hj=>?_,fun j hj=>?_,fun j hj=>?_⟩
 ·by_cases e:j=n
  ·subst e;unfold jI;rw[aab rfl];have Y:(T.take (63*j)++c).drop (63*j)=c:=by simp_all
   refine⟨_,I,?_,?_,?_⟩
   ·simp_all[aaA,gp,lT]
   ·intro hs;unfold gp at hs;cases hf:f j with
    |none=>
     have:¬63*j<eq T:=fun h=>by obtain⟨s,J,_⟩:=o.has j h;rw[hf]at J;cases J
     omega
    |some s=>
     rw[hf]at hs;rcases aaz (63*j) (eq T)with h|h
     ·obtain⟨s',J,_,h3,_⟩:=o.has j h
      simp_all
     omega
   intro v hv;unfold gp at hv;rw[Y];rcases aao.1 hv with hv|hv
   ·cases hf:f j with
    |none=>rw[hf]at hv;simp at hv
    |some s=>
     rw[hf]at hv
     have h:63*j<eq T:=by
      rcases aaz (63*j) (eq T)with h|h
      ·exact h
      have:=o.no j h;rw[hf]at this;cases this
     obtain⟨s',J,_,_,X⟩:=o.has j h;rw[hf]at J;cases J;obtain⟨k,N,ad,O,U⟩:=X v hv;refine⟨k,N,qo,O,?_⟩;rw[U]
     congr 1
     obtain⟨r,hr⟩:=hp
     grind
   simp only[aaC]at hv;exact⟨eq c,hc,qo,qo,by rw[hv,aaG];rfl⟩
  have ab:j<n:=qo
  obtain⟨s,J,h2,h3,X⟩:=o.has j qo
  have Y:∀k,k<=63->((T.take (63*n)++c).drop (63*j)).take k=(T.drop (63*j)).take k:=by
   intro k hk;rw[abP qo,aa3 (by rw[aar];omega),aa2,aaK,abk qo]
  grind[jI]
 ·unfold jI;rw[aaa qo];exact o.no j qo
 unfold jI;rw[aaa qo];exact o.neg j hj
end
section
abbrev dm:=Aa
def jL(rs:List dm):Aa:=(rs.map cJ).flatten
def te(r:dm)(rs:List dm):jL (r::rs)=cJ r++jL rs:=rfl
def eA(i:Nat)(rs:List dm):Aa:=aK i++jL rs
def AT{i m}{P more:Aa}(h:P++more=aK i)(hm:more≠[])(hi:i<2^64):(aG m (P,0)).2.2≠0:=by
 intro U;obtain⟨N,V⟩:=pH U;have O:=(pI m P 0).1;have J:=jQ (m:=18446744073709551615) (n:=i) [] hi qo;have e2:=jQ (m:=18446744073709551615) (n:=(aG m (P,0)).1) ((aG m (P,0)).2.1++more) O qo;rw[<-aaH,<-N,h]at e2;rw[aaw,e2]at J;have:=congrArg (fun x=>x.2.1) J;simp at this;exact hm this.2
def AF{r P more:Aa}(h:P++more=cJ r)(hm:more≠[])(V:eq r<=512):(bW 512 (P,0)).2.2≠0:=by
 intro O;obtain⟨_,N,U⟩:=sV O;have J:=sU (most:=512) (x:=r) [] qo qo;have e2:=sU (most:=512) (x:=(bW 512 (P,0)).1) ((bW 512 (P,0)).2.1++more) qo (by have:((512:Int)).toNat=512:=rfl;omega);rw[<-aaH,<-N,h]at e2;rw[aaw,e2]at J;have:=congrArg (fun x=>x.2.1) J;simp at this;exact hm this.2
theorem AG(r):0<eq (cJ r):=by
 grind[pz,rj]
def IE:(bW 512 ([],0)).2.2≠0:=AF (r:=[]) (P:=[]) (more:=cJ []) rfl (by grind[AG]) Q8
theorem A4:∀(rs:List dm) (m f:Nat),(∀r∈rs,eq r<=512)->eq ((jL rs).take m)<f ->
  ∃j,j<=eq rs/\jR f ((jL rs).take m,0)=rs.take j/\eq (jL (rs.take j))<=m/\∀k,k<=eq rs->eq (jL (rs.take k))<=m->k<=j
 |[],m,f,_,O=>by
  cases f with
  |zero=>omega
  |succ f=>
   refine⟨0,aac _,?_,aad _,fun k U _=>U⟩;rw[qO,aaa]
   ·rfl
   show ¬(bW 512 (([]:Aa).take m,0)).2.2=0;simp[IE]
 |r::rs,m,f,V,O=>by
  cases f with
  |zero=>omega
  |succ f=>
   rw[te]at O⊢;have N:=V r Q8
   by_cases hm:eq (cJ r)<=m
   ·have ht:(cJ r++jL rs).take m=cJ r++(jL rs).take (m-eq (cJ r)):=by
     rw[ace,aaA hm]
    rw[ht]at O⊢;have hp:=AG r;rw[aaj]at O;have e:=sU (most:=512) (x:=r) ((jL rs).take (m-eq (cJ r))) qo qo;obtain⟨j,Z,X,h3,h4⟩:=A4 rs (m-eq (cJ r)) f (fun x Y=>V x (by simp[Y])) qo;refine⟨j+1,by simp;omega,?_,?_,fun k U J=>?_⟩
    ·rw[qO,e,aab rfl,X]
     rfl
    ·rw[abN,te,aaj];omega
    cases k with
    |zero=>omega
    |succ k=>
     rw[abN,te,aaj]at J
     grind
   refine⟨0,aad _,?_,aad _,fun k U J=>?_⟩
   ·rw[aa3 qo,qO,aaa]
    ·rfl
    exact AF (aaE m<|cJ r) (by simp_all) N
   cases k with
   |zero=>omega
   |succ k=>
    rw[abN,te,aaj]at J;omega
def qG(t:Aa):Option (Nat×List dm)->Prop
 |none=>(aG bt (t,0)).2.2≠0
 |some (i,rs)=>i<=bt/\(aG bt (t,0)).2.2=0/\(aG bt (t,0)).1=i/\jR (eq t+1) (aG bt (t,0)).2=rs
def jk(D:Dk)(n:Nat)(o:Option (Nat×List dm)):Prop:=qG (fY D n) o
def jk.void{D n}(h:jk D n none)(W):kx D n W=(W,true,true):=aab h
def jk.Rf{D:Dk}{n i:Nat}{rs:List dm}(h:jk D n (some (i,rs)))(W:Wl):kx D n W=if(W.follows n i).2=false then((W.follows n i).1,false,false)else({ (W.follows n i).1 with Ja:=(W.follows n i).1.Ja++rs},true,false):=by
 obtain⟨_,J,N,O⟩:=h;unfold kx;rw[J,N,O]
 rfl
structure oU (f:SF) (s:Nat×List dm):Prop where
 fx:Fx f
 rd:qG (lL f) (some s)
def CW{i:Nat}{rs:List dm}(m:Nat)(hi:i<=bt)(Z:∀r∈rs,eq r<=512):
  (m<eq (aK i)/\qG ((eA i rs).take m) none)\/(eq (aK i)<=m/\∃j,j<=eq rs/\qG ((eA i rs).take m) (some (i,rs.take j))/\∀k,k<=eq rs->eq (eA i (rs.take k))<=m->k<=j):=by
 have J:i<2^64:=by unfold bt at hi;omega
 unfold eA;rcases aaz m (eq (aK i))with hm|hm
 ·refine .inl ⟨hm,?_⟩;rw[aa3 qo];exact AT (aaE m (aK i)) (by simp_all) J
 refine .inr ⟨hm,?_⟩;rw[ace,aaA hm];have O:=jQ (m:=bt) (n:=i) ((jL rs).take (m-eq (aK i))) J hi;obtain⟨j,U,V,h3,X⟩:=A4 rs (m-eq (aK i)) (eq (aK i++(jL rs).take (m-eq (aK i)))+1) Z (by rw[aaj];omega);refine⟨j,U,⟨hi,by rw[O],by rw[O],by rw[O,V]⟩,fun k Y N=>X k Y ?_⟩;rw[aaj]at N;omega
def Lu{i:Nat}{rs:List dm}(hi:i<=bt)(N:∀r∈rs,eq r<=512):qG (eA i rs) (some (i,rs)):=by
 rcases CW (i:=i) (rs:=rs) (eq (eA i rs)) hi N with⟨O,_⟩|⟨_,j,U,V,J⟩
 ·grind[eA]
 have:=J (eq rs) (aac _) Q8
 grind
def DX:qG [] none:=AT (i:=0) (P:=[]) (more:=aK 0) rfl (by grind[rj]) qo
def zM.Uk{f:SF}{i:Nat}{rs:List dm}(h:zM f (eA i rs))(hi:i<=bt)(J:∀r∈rs,eq r<=512):oU f (i,rs):=⟨h.fx,by rw[h.text];exact Lu hi J⟩
def oU.Ke{f f':SF}{s:Nat×List dm}(o:oU f s)(p:Pk f f'):f'=f:=o.fx.pk p
end
section
theorem pF{κ ν}[DecidableEq κ](k j):∀(m:List (κ×ν)),(m.map (·.1)).Nodup->aZ j (dN k m)=if j=k then none else aZ j m
 |[],_=>by simp[dN,aZ]
 |(i,v)::m,h=>by
  simp only[aay,aa9]at h
  by_cases e:k=i
  ·subst e;simp only[dN,if_true]
   by_cases e2:j=k
   ·subst e2;rw[aab rfl];exact gI.2 h.1
   simp_all[aZ]
  simp only[dN,aaa e,aZ]
  by_cases e2:j=i
  ·grind
  simp_all[pF]
theorem B7{κ ν}[DecidableEq κ](g:ν->ν)(j):∀(m:List (κ×ν)),aZ j (m.map fun x=>(x.1,g x.2))=(aZ j m).map g
 |[]=>rfl
 |(i,v)::m=>by
  by_cases e:j=i
  ·simp[aZ,e]
  simp[aZ,e,B7 g j m]
def DT(D:Dk)(a):D.Ji.sec a=D.sec a:=rfl
def CQ(D:Dk)(a n b a'):(D.laid a n b).sec a'=if a'=a then jI (D.sec a) n (gp (D.sec a n) b)else D.sec a':=by
 funext k
 unfold Dk.sec Dk.ar Dk.laid;dsimp only;rw[l8]
 by_cases e:a'=a
 ·subst e;rw[aab rfl,aab rfl];unfold jI;show aZ k (cj n _ _)=_;rw[l8]
  rfl
 rw[aaa e,aaa e]
def CO(D:Dk)(a a'):({D with Iz:=D.RF a}:Dk).sec a'=if a'=a then gG (D.sec a)else D.sec a':=by
 funext k
 unfold Dk.sec Dk.ar Dk.RF;dsimp only;cases hg:aZ a D.Iz with
 |none=>
  dsimp only
  by_cases e:a'=a
  ·subst e;rw[aab rfl,hg]
   rfl
  rw[aaa e]
 |some l=>
  dsimp only;rw[l8]
  by_cases e:a'=a
  ·subst e;rw[aab rfl,aab rfl]
   grind[B7,gG]
  rw[aaa e,aaa e]
def CP{D:Dk}(h:(D.Iz.map (·.1)).Nodup)(a a'):({D with Iz:=dN a D.Iz}:Dk).sec a'=if a'=a then fun _=>none else D.sec a':=by
 funext k
 unfold Dk.sec Dk.ar;dsimp only;rw[pF _ _ _ h]
 by_cases e:a'=a
 ·rw[aab e,aab e];rfl
 rw[aaa e,aaa e]
def uJ(D E:Dk)(a:Int)(f:SF):Prop:=E.sec a=f/\∀J,J≠a->E.sec J=D.sec J
structure cC (n:Nat) (D:Dk):Prop where
 left : -1<=D.left
 dead:D.dead=false
 room:(n:Int)<=D.room
 keys:(D.Iz.map (·.1)).Nodup
def cC.mono{n m D}(h:cC n D)(k:m<=n):cC m D:=⟨h.left,h.dead,by have:=h.room;omega,h.keys⟩
def GZ(n:Nat)(E:Dk)(c:Int):Prop:=(c=0/\cC n E)\/(c=30/\E.dead=true)
def yH{D:Dk}(h : -1<=D.left): -1<=D.Ji.left:=by
 unfold Dk.Ji;dsimp only;omega
def Kk{D:Dk}(h:(D.Iz.map (·.1)).Nodup)(a n)(b:Aa):((D.laid a n b).Iz.map (·.1)).Nodup:=nG h
theorem cC.write{n D}(h:cC (n+1) D)(a i b)(h0:0<=i)(hi:i<65536)(hb:eq b<=64):
  GZ n (D.write a i b).1 (D.write a i b).2/\uJ D (D.write a i b).1 a (jI (D.sec a) i (gp (D.sec a i) b)):=by
 have O:=h.room;unfold Dk.write;rw[aaa (by rw[h.dead];decide),aaa qo,aaa qo];dsimp only;refine⟨?_,?_,fun N J=>?_⟩
 ·cases hd:((D.laid a i b).Ji).dead with
  |true=>exact .inr ⟨Q8,hd⟩
  |false=>
   refine .inl ⟨Q8,yH h.left,hd,?_,Kk h.keys a i b⟩;show(n:Int)<=(D.laid a i b).room
   grind[Dk.laid]
 ·rw[DT,CQ,aab rfl]
 rw[DT,CQ,aaa J]
theorem cC.sync{n D}(h:cC n D)(a):
  ((D.sync a).2=0/\cC n (D.sync a).1/\uJ D (D.sync a).1 a (gG (D.sec a)))\/((D.sync a).2=30/\(D.sync a).1.dead=true/\∀J,(D.sync a).1.sec J=D.sec J):=by
 unfold Dk.sync;rw[aaa (by rw[h.dead];decide)];cases hd:D.Ji.dead with
 |true=>rw[aab rfl];exact .inr ⟨I,hd,fun _=>I⟩
 |false=>
  rw[aaa Q9];refine .inl ⟨I,⟨yH h.left,hd,h.room,?_⟩,?_,fun J N=>?_⟩
  ·show((D.RF a).map (·.1)).Nodup;rw[qX];exact h.keys
  ·show({D with Iz:=D.RF a}:Dk).sec a=_;rw[CO,aab rfl]
  show({D with Iz:=D.RF a}:Dk).sec J=_;rw[CO,aaa N]
theorem cC.free{n D}(h:cC n D)(a):
  ((D.free a).2=0/\cC n (D.free a).1/\uJ D (D.free a).1 a (fun _=>none))\/((D.free a).2=30/\(D.free a).1.dead=true/\∀J,(D.free a).1.sec J=D.sec J):=by
 unfold Dk.free;rw[aaa (by rw[h.dead];decide)];cases hd:D.Ji.dead with
 |true=>rw[aab rfl];exact .inr ⟨I,hd,fun _=>I⟩
 |false=>
  rw[aaa Q9];refine .inl ⟨I,⟨yH h.left,hd,by have:=h.room;dsimp only;omega,(lB (k:=a) D.Iz).map (·.1) |>.nodup h.keys⟩,?_,fun J N=>?_⟩
  ·show({D with Iz:=dN a D.Iz}:Dk).sec a=_;rw[CP h.keys,aab rfl]
  show({D with Iz:=dN a D.Iz}:Dk).sec J=_;rw[CP h.keys,aaa N]
theorem Dy:∀(f:Nat) (o:ji) (D:Dk) (n:Nat) (T:Aa) (t0:Nat),cC (n+(eq o.rest/63+1)) D->eq o.rest<63*f->o.full+eq o.rest/63<65536->0<eq o.rest ->
  gH (D.sec (aM o.num)) T t0->63*o.full<=eq T->eq T<=63*o.full+62->T.drop (63*o.full) <+: o.rest ->
  ∃O,gH ((RY f o D).2.1.sec (aM o.num)) O t0/\(∀Z,Z≠aM o.num->(RY f o D).2.1.sec Z=D.sec Z)/\T <+: O/\O <+: T.take (63*o.full)++o.rest/\GZ n (RY f o D).2.1 (RY f o D).2.2 /\
   ((RY f o D).2.2=0->O=T.take (63*o.full)++o.rest/\eq O=63*(RY f o D).1.full+eq (RY f o D).1.rest/\(RY f o D).1.rest=O.drop (63*(RY f o D).1.full)/\eq (RY f o D).1.rest<=62)
 |0,o,D,n,T,t0,_,hf,_,_,_,_,_,_=>by omega
 |f+1,o,D,n,T,t0,h,hf,av,ay,hS,ae,ap,hp=>by
  have X:eq (o.rest.take (min (eq o.rest) 63))=min (eq o.rest) 63:=by simp
  have ag:UInt8.ofNat (min (eq o.rest) 63)::o.rest.take (min (eq o.rest) 63)=UInt8.ofNat (eq (o.rest.take (min (eq o.rest) 63)))::o.rest.take (min (eq o.rest) 63):=by rw[X]
  have hw:=cC.write (n:=n+eq o.rest/63) (h.mono qo) (aM o.num) o.full (UInt8.ofNat (min (eq o.rest) 63)::o.rest.take (min (eq o.rest) 63)) qo qo (by simp only[aas,X];omega);have ak:=hp.length_le;rw[aar]at ak
  have ad:T.drop (63*o.full) <+: o.rest.take (min (eq o.rest) 63):=by
   grind
  have N:=hS.write ae qo (c:=o.rest.take (min (eq o.rest) 63)) qo qo ad;rw[<-ag,<-hw.2.1]at N;have am:eq (T.take (63*o.full))=63*o.full:=by rw[aal];omega
  have J:T <+: T.take (63*o.full)++o.rest.take (min (eq o.rest) 63):=by
   obtain⟨r,hr⟩:=ad
   grind[List.take_append_drop]
  have U:T.take (63*o.full)++o.rest.take (min (eq o.rest) 63) <+: T.take (63*o.full)++o.rest:=(List.prefix_append_right_inj _).2 (List.take_prefix _ _);rw[nL];generalize D.write (aM o.num) o.full (UInt8.ofNat (min (eq o.rest) 63)::o.rest.take (min (eq o.rest) 63))=W at hw N;obtain⟨ab,aq,Y⟩:=hw
  by_cases hc:W.2≠0\/eq o.rest<63
  ·rw[aab hc];refine⟨_,N,Y,J,U,?_,fun h0=>?_⟩
   ·rcases ab with⟨g1,g2⟩|g
    ·exact .inl ⟨g1,g2.mono qo⟩
    exact .inr g
   grind
  rw[aaa hc];have hc:=not_or.1 hc;have h0:W.2=0:=aag.1 hc.1
  have aa:cC (n+eq o.rest/63) W.1:=by
   rcases ab with⟨_,g⟩|⟨g,_⟩
   all_goals omega
  have an:eq (T.take (63*o.full)++o.rest.take (min (eq o.rest) 63))=63*(o.full+1):=by rw[aaj,am,X];omega
  by_cases he:eq o.rest=63
  ·rw[aab he];have ht:o.rest.take (min (eq o.rest) 63)=o.rest:=aaA qo;refine⟨_,N,Y,J,U,.inl ⟨I,aa.mono qo⟩,fun _=>⟨by rw[ht],qo,?_,Q8⟩⟩
   simp_all
  rw[aaa he];have V:=Dy f {o with full:=o.full+1,rest:=o.rest.drop 63} W.1 n (T.take (63*o.full)++o.rest.take (min (eq o.rest) 63)) t0 (aa.mono (by dsimp only;rw[aar];omega)) (by dsimp only;rw[aar];omega) (by dsimp only;rw[aar];omega) (by dsimp only;rw[aar];omega) N aC aC (by grind);dsimp only at V;obtain⟨O,r1,r2,r3,r4,r5,r6⟩:=V
  have hU:(T.take (63*o.full)++o.rest.take (min (eq o.rest) 63)).take (63*(o.full+1))++o.rest.drop 63=T.take (63*o.full)++o.rest:=by
   rw[aaA qo,aaH,show min (eq o.rest) 63=63 by omega,aaE]
  rw[hU]at r4 r6;exact⟨O,r1,fun Z ha=>by rw[r2 Z ha,Y Z ha],J.trans r3,r4,r5,r6⟩
end
section
abbrev Vl:=Option (Nat×List dm)
def ef:Vl->Nat×List dm->Nat×List dm
 |none,s=>s
 |some (f,r),s=>if s.1<f then s else(f,r.take (s.1-f)++s.2)
def iA:Vl->Nat->Prop
 |none,_=>True
 |some (f,r),i=>i<=f+eq r
def er:Vl->List (Nat×List dm)->Vl
 |v,[]=>v
 |v,s::t=>er (some (ef v s)) t
def fK:Vl->List (Nat×List dm)->Prop
 |_,[]=>True
 |v,s::t=>iA v s.1/\s.1+eq s.2<=bt/\fK (some (ef v s)) t
theorem ta:∀(a b:List (Nat×List dm)) (v:Vl),er v (a++b)=er (er v a) b
 |[],b,v=>rfl
 |s::a,b,v=>by simp[ta,er]
theorem yi:∀(a b:List (Nat×List dm)) (v:Vl),fK v (a++b)↔fK v a/\fK (er v a) b
 |[],b,v=>by simp[fK,er]
 |s::a,b,v=>by simp[yi,and_assoc,fK,er]
theorem mT{v:Vl}{s:Nat×List dm}(h:iA v s.1):(ef v s).1+eq (ef v s).2=s.1+eq s.2:=by
 cases v with
 |none=>rfl
 |some x=>
  grind[ef,iA]
def CN{v:Vl}{s:Nat×List dm}:(ef v s).1<=s.1:=by
 cases v with
 |none=>exact aac _
 |some x=>
  grind[ef]
def qu(i:Nat)(a b:Nat×List dm):Prop:=a.1<=i/\b.1<=i/\a.1+eq a.2=b.1+eq b.2/\a.2.drop (i-a.1)=b.2.drop (i-b.1)
def ES{i:Nat}{v u:Vl}{s:Nat×List dm}(hv:iA v s.1)(J:iA u s.1)(hi:s.1<=i):qu i (ef v s) (ef u s):=by
 have e:∀w:Vl,iA w s.1->(ef w s).2.drop (i-(ef w s).1)=s.2.drop (i-s.1):=by
  intro w N;cases w with
  |none=>rfl
  |some x=>
   obtain⟨f,r⟩:=x;unfold ef;unfold iA at N;dsimp only
   split
   ·rfl
   dsimp only;rw[acK,abj (by rw[aal];omega),abl,aal]
   congr 1
   omega
 have O:=CN (v:=v) (s:=s);have U:=CN (v:=u) (s:=s);have V:=mT hv;have X:=mT J;exact⟨qo,qo,qo,by rw[e v hv,e u J]⟩
def Mm{i:Nat}{a b:Nat×List dm}(h:qu i a b){s:Nat×List dm}(J:iA (some a) s.1):iA (some b) s.1/\qu i (ef (some a) s) (ef (some b) s):=by
 obtain⟨V,X,Z,Y⟩:=h;have hb:iA (some b) s.1:=by simp_all[iA]
 refine⟨hb,?_⟩;rcases aaz i s.1 with aa|U
 ·have N:=mT J;have O:=mT hb;obtain⟨f,r⟩:=a;obtain⟨g,q⟩:=b;unfold iA at J hb;dsimp only at V X Y J hb Z;unfold ef at N O⊢;dsimp only at N O⊢;rw[aaa qo]at N⊢;rw[aaa qo]at O⊢;refine⟨V,X,qo,?_⟩;dsimp only;rw[abP (by rw[aal];omega),abP (by rw[aal];omega),aa2,aa2,Y]
  congr 2
  omega
 exact ES J hb U
theorem Dp{i:Nat}:∀(l:List (Nat×List dm)) (a b:Nat×List dm),qu i a b->fK (some a) l->fK (some b) l/\∃J N,er (some a) l=some J/\er (some b) l=some N/\qu i J N
 |[],a,b,h,_=>⟨trivial,a,b,rfl,rfl,h⟩
 |s::l,a,b,h,ho=>by
  obtain⟨Y,Z,o3⟩:=ho;obtain⟨O,U⟩:=Mm h Y;obtain⟨V,X⟩:=Dp l _ _ U o3;exact⟨⟨O,Z,V⟩,X⟩
theorem BT{i:Nat}:∀(l:List (Nat×List dm)) (x:Nat×List dm) (u:Vl),(u=none\/∃y,u=some y/\y.1+eq y.2=x.1+eq x.2)->fK (some x) l->(∃s∈l,s.1<=i)->fK u l/\∃a b,er (some x) l=some a/\er u l=some b/\qu i a b
 |[],x,u,_,_,h=>by obtain⟨s,hs,_⟩:=h;simp at hs
 |s::l,x,u,hu,ho,aa=>by
  obtain⟨V,X,Y⟩:=ho
  have J:iA u s.1:=by
   rcases hu with rfl|⟨y,rfl,e⟩
   all_goals simp_all[iA]
  by_cases hs:s.1<=i
  ·have Z:=ES V J hs;obtain⟨O,U⟩:=Dp l _ _ Z Y;exact⟨⟨J,X,O⟩,U⟩
  have N:∃t∈l,t.1<=i:=by
   simp_all
  obtain⟨O,U⟩:=BT l (ef (some x) s) (some (ef u s)) (.inr ⟨_,rfl,by rw[mT V,mT J]⟩) Y N;exact⟨⟨J,X,O⟩,U⟩
def VW(W:Wl)(v:Vl):Prop:=(v=none/\W.Jd=[])\/(W.Jd≠[]/\v=some (W.first,W.Ja))
def Jx{D:Dk}{n i:Nat}{rs:List dm}{W:Wl}{v:Vl}(V:jk D n (some (i,rs)))(hv:VW W v)(ho:iA v i):
  ∃W',kx D n W=(W',true,false)/\VW W' (some (ef v (i,rs)))/\W'.Jd=W.Jd++[(n,i)]/\W'.op=W.op/\W'.next=W.next/\W'.code=W.code/\W'.first+eq W'.Ja=i+eq rs:=by
 have X:=mT (s:=(i,rs)) ho;rw[V.Rf W];rcases hv with⟨rfl,O⟩|⟨O,rfl⟩
 ·have N:W.follows n i=({W with first:=i,Ja:=[],Jd:=W.Jd++[(n,i)]},true):=by simp_all[Wl.follows]
  rw[N,aaa Q8];exact⟨_,I,.inr ⟨Q8,by simp[ef]⟩,I,I,I,I,Q8⟩
 by_cases J:i<W.first
 ·have N:W.follows n i=({W with first:=i,Ja:=[],Jd:=W.Jd++[(n,i)]},true):=by unfold Wl.follows;rw[aab (.inr J)]
  rw[N,aaa Q8];exact⟨_,I,.inr ⟨Q8,by simp[ef,J]⟩,I,I,I,I,Q8⟩
 unfold iA at ho;dsimp only at ho;have U:eq W.Jd≠0:=by simp_all
 have N:W.follows n i=({W with Ja:=W.Ja.take (i-W.first),Jd:=W.Jd++[(n,i)]},true):=by
  grind[Wl.follows]
 rw[N,aaa Q8];refine⟨_,I,.inr ⟨Q8,by simp[ef,J]⟩,I,I,I,I,?_⟩
 grind
def gg(fr:Nat)(l:List (Nat×Option (Nat×List dm))):List (Nat×Nat×List dm):=l.filterMap fun x=>if x.1<fr then none else x.2.map fun s=>(x.1,s.1,s.2)
def vL(fr)(x:Nat×Option (Nat×List dm))(l:List (Nat×Option (Nat×List dm))):gg fr (x::l)=(match(if x.1<fr then none else x.2.map fun s=>(x.1,s.1,s.2))with
  |none=>gg fr l
  |some y=>y::gg fr l):=by
 unfold gg
 grind
theorem sZ{D:Dk}{fr:Nat}:∀(l:List (Nat×Option (Nat×List dm))) (W:Wl) (v:Vl) (g:Af),(∀x∈l,fr<=x.1->jk D x.1 x.2)->VW W v->W.first+eq W.Ja<=bt->fK v ((gg fr l).map (·.2)) ->
  ∃W' J,ic D fr (l.map (·.1)) W g=(W',J,true)/\VW W' (er v ((gg fr l).map (·.2)))/\W'.Jd=W.Jd++(gg fr l).map (fun s=>(s.1,s.2.1))/\W'.op=W.op/\W'.next=W.next/\W'.code=W.code/\(gg fr l=[]->W'.first=W.first/\W'.Ja=W.Ja) /\
   ∀n,n∈J↔n∈g\/∃x∈l,x.1=n/\(n<fr\/x.2=none)
 |[],W,v,g,_,hv,_,_=>⟨W,g,rfl,hv,by simp[gg],rfl,rfl,rfl,fun _=>⟨rfl,rfl⟩,fun n=>by simp⟩
 |(n,o)::l,W,v,g,hr,hv,ht,ho=>by
  have N:∀x∈l,fr<=x.1->jk D x.1 x.2:=fun x hx=>hr x (by simp[hx]);rw[vL]at ho⊢;rw[aay];unfold ic
  have skip:((n<fr\/o=none))->fD D fr n W=(W,true,true):=by
   intro h;unfold fD
   by_cases hn:n<fr
   ·rw[aab hn]
   rw[aaa hn];rcases h with h|h
   ·omega
   have:=hr (n,o) Q8 qo;rw[h]at this;exact this.void W
  by_cases hs:n<fr\/o=none
  ·have Z:(if n<fr then none else o.map fun s=>(n,s.1,s.2))=(none:Option (Nat×Nat×List dm)):=by
    grind
   dsimp only at ho⊢;rw[Z]at ho⊢;dsimp only at ho⊢;obtain⟨W',J,O,U,h3,V,X,Y,h7,h8⟩:=sZ l W v (g++[n]) N hv ht ho;rw[skip hs];rw[aaa (by simp_all)];refine⟨W',J,by simpa using O,U,h3,V,X,Y,h7,fun m=>?_⟩;rw[h8 m];simp only[aao,aaB,acQ,or_false]
   constructor
   ·rintro((h|h)|⟨x,hx,h⟩)
    ·exact .inl h
    ·simp_all
    exact .inr ⟨x,.inr hx,h⟩
   grind
  have hs:=not_or.1 hs;obtain⟨⟨i,rs⟩,rfl⟩:=Option.ne_none_iff_exists'.1 hs.2;dsimp only at ho⊢;rw[aaa hs.1]at ho⊢;simp only[abi,aay]at ho⊢;obtain⟨aa,ab,ad⟩:=ho;obtain⟨W1,k1,k2,k3,k4,k5,k6,k7⟩:=Jx (hr (n,some (i,rs)) Q8 qo) hv aa;have ae:fD D fr n W=(W1,true,false):=by unfold fD;rw[aaa hs.1,k1]
  obtain⟨W',J,O,U,h3,V,X,Y,h7,h8⟩:=sZ l W1 _ g N k2 (by rw[k7];exact ab) ad;rw[ae];rw[aaa (by simp_all)];refine⟨W',J,by simpa using O,U,?_,V.trans k4,X.trans k5,Y.trans k6,fun h=>(by cases h),fun m=>?_⟩
  all_goals grind
theorem rz{a b}(h:a≠b):aM a≠aM b:=fun e=>h (l9 e)
def Lf{D k}(h:gz k D)(X:(D.Iz.map (·.1)).Nodup)(g:Af)(n):
  (fO D g n).2=0/\gz k (fO D g n).1/\((fO D g n).1.Iz.map (·.1)).Nodup/\uJ D (fO D g n).1 (aM n) (if n∈g then fun _=>none else gG (D.sec (aM n)))/\∀a∈(fO D g n).1.Iz.map (·.1),a∈D.Iz.map (·.1)/\(n∈g->a≠aM n):=by
 have V:cC 0 D:=⟨by rw[h.left];decide,h.dead,by have:=h.room;omega,X⟩;unfold fO
 by_cases hn:n∈g
 ·rw[aab hn,aab hn];have N:=h.free (aM n);rcases V.free (aM n)with⟨_,O,U⟩|⟨Y,_⟩
  ·refine⟨N.1,N.2,O.keys,U,fun a J=>?_⟩;unfold Dk.free at J;rw[aaa (by rw[h.dead];decide),aaa (by rw[h.Ji.dead];decide)]at J;have J:a∈(dN (aM n) D.Iz).map (·.1):=J;refine⟨((lB (k:=aM n) D.Iz).map (·.1)).subset J,fun _ e=>?_⟩;subst e;have:=pF (aM n) (aM n) D.Iz X;rw[aab rfl]at this;exact gI.1 this J
  omega
 rw[aaa hn,aaa hn];have N:=h.sync (aM n);rcases V.sync (aM n)with⟨_,O,U⟩|⟨Y,_⟩
 ·refine⟨N.1,N.2,O.keys,U,fun a J=>?_⟩;unfold Dk.sync at J;rw[aaa (by rw[h.dead];decide),aaa (by rw[h.Ji.dead];decide)]at J
  simp_all[qX]
 omega
theorem vU(g:Af):∀(l:Af) (D:Dk) (k:Nat),l.Nodup->gz k D->(D.Iz.map (·.1)).Nodup ->
  (wsettle g l D).2=0/\gz k (wsettle g l D).1/\((wsettle g l D).1.Iz.map (·.1)).Nodup/\(∀n∈l,(wsettle g l D).1.sec (aM n)=if n∈g then fun _=>none else gG (D.sec (aM n)))/\(∀a,(∀n∈l,a≠aM n)->(wsettle g l D).1.sec a=D.sec a) /\
   ∀a∈(wsettle g l D).1.Iz.map (·.1),a∈D.Iz.map (·.1)/\∀n∈l,n∈g->a≠aM n
 |[],D,k,_,h,N=>⟨rfl,h,N,Q8,fun _ _=>rfl,fun a J=>⟨J,Q8⟩⟩
 |n::r,D,k,hn,h,N=>by
  have hn:=aa9.1 hn;obtain⟨X,Y,Z,⟨h4,h5⟩,h6⟩:=Lf h N g n;obtain⟨O,U,V,g4,g5,g6⟩:=vU g r (fO D g n).1 k hn.2 Y Z;unfold wsettle;rw[aab X];refine⟨O,U,V,fun m hm=>?_,fun a J=>?_,fun a J=>?_⟩
  ·rcases aaB.1 hm with rfl|hm
   all_goals grind[rz]
  all_goals grind
end
section
structure Sg where
 num:Nat
 idx:Nat
 Ja:List dm
def Sg.v(s:Sg):Nat×List dm:=(s.idx,s.Ja)
structure Og where
 num:Nat
 idx:Nat
 Ja:List dm
 T:Aa
 t0:Nat
structure gt (E:Dk) (S:List Sg) (op:Option Og):Prop where
 keys:∀a∈E.Iz.map (·.1),a%4=1->(∃s∈S,a=aM s.num)\/∃o,op=some o/\a=aM o.num
 Ry:S.Pairwise fun a b=>a.num<b.num
 bd:∀s∈S,s.idx<=bt/\∀r∈s.Ja,eq r<=512
 cl:∀s∈S,oU (E.sec (aM s.num)) s.v
 op:∀o,op=some o->(∀s∈S,s.num<o.num)/\o.idx<=bt/\(∀r∈o.Ja,eq r<=512)/\gH (E.sec (aM o.num)) o.T o.t0/\o.T <+: eA o.idx o.Ja/\eq o.T<=63*65536
structure Cr (D D':Dk):Prop where
 left:D'.left = -1
 dead:D'.dead=false
 pk:∀a,Pk (D.sec a) (D'.sec a)
 keys:∀k∈D'.Iz.map (·.1),k∈D.Iz.map (·.1)
 nd:(D'.Iz.map (·.1)).Nodup
 ne:∀a,a∈D'.Iz.map (·.1)↔∃n x,D'.sec a n=some x
 pos:∀k∈D'.Iz.map (·.1),0<=k
structure sN (D D':Dk):Prop where
 left:D'.left = -1
 dead:D'.dead=false
 pk:∀n,Pk (D.sec (aM n)) (D'.sec (aM n))
 keys:∀n,aM n∈D'.Iz.map (·.1)->aM n∈D.Iz.map (·.1)
 nd:(D'.Iz.map (·.1)).Nodup
 ne:∀n,aM n∈D'.Iz.map (·.1)↔∃k x,D'.sec (aM n) k=some x
 pos:∀k∈D'.Iz.map (·.1),0<=k
def Cr.UA{D D'}(h:Cr D D')(J:0<=D'.room):gz 0 D':=⟨h.left,h.dead,qo⟩
def A8{f}(h:∀n,f n=none):lL f=[]:=qU (h _) _
def JD{f}(h:f 0=none):lL f=[]:=qU (n:=0) h _
def oU.TX{f s}(h:oU f s):∃x,f 0=some x:=by
 cases hf:f 0 with
 |some x=>simp
 |none=>
  have J:=h.rd;rw[JD hf]at J;exact absurd J.2.1 DX
def p8(o:Og):Option (Nat×List dm)->Prop
 |none=>o.t0<eq (aK o.idx)
 |some (i,rs)=>i=o.idx/\∃j,j<=eq o.Ja/\rs=o.Ja.take j/\∀k,k<=eq o.Ja->eq (eA o.idx (o.Ja.take k))<=o.t0->k<=j
def MD{D D'}{S:List Sg}{op:Option Og}(d:gt D S op)(c:sN D D')(o)(ho:op=some o):∃J,p8 o J/\jk D' o.num J/\(aM o.num∉D'.Iz.map (·.1)->J=none):=by
 obtain⟨h1,h2,h3,h4,h5,h6⟩:=d.op o ho;obtain⟨m,m1,m2,V⟩:=h4.Ke h6 (c.pk o.num)
 have N:fY D' o.num=(eA o.idx o.Ja).take m:=by
  rw[tU,V];obtain⟨r,hr⟩:=h5
  grind
 by_cases X:aM o.num∈D'.Iz.map (·.1)
 ·rcases CW (i:=o.idx) (rs:=o.Ja) m h2 h3 with⟨Y,O⟩|⟨Y,j,O,Z,g4⟩
  ·exact⟨none,by unfold p8;omega,by unfold jk;rw[N];exact O,fun _=>I⟩
  exact⟨some (o.idx,o.Ja.take j),⟨I,j,O,I,fun k U aa=>g4 k U qo⟩,by unfold jk;rw[N];exact Z,fun h=>absurd X h⟩
 have hn:∀n,D'.sec (aM o.num) n=none:=by
  intro n;cases hx:D'.sec (aM o.num) n with
  |none=>rfl
  |some x=>exact absurd ((c.ne _).2 ⟨n,x,hx⟩) X
 refine⟨none,?_,by simp_all[tU,A8,DX,jk],fun _=>I⟩;rw[A8 hn]at V;have:=congrArg List.length V
 grind[rj,p8]
theorem uB:∀{a b:Af},a.Pairwise (· < ·)->b.Pairwise (· < ·)->(∀n,n∈a↔n∈b)->a=b
 |[],[],_,_,_=>rfl
 |[],y::b,_,_,h=>by have:=(h y).2 Q8;simp at this
 |x::a,[],_,_,h=>by have:=(h x).1 Q8;simp at this
 |x::a,y::b,J,hb,h=>by
  have J:=aa4.1 J;have hb:=aa4.1 hb
  have N:x=y:=by
   rcases aaB.1 ((h x).1 Q8)with O|O
   ·exact O
   rcases aaB.1 ((h y).2 Q8)with U|U
   all_goals grind
  subst N
  congr 1
  refine uB J.2 hb.2 fun n=>?_
  grind
def BD{D:Dk}(h:(D.Iz.map (·.1)).Nodup)(h0:∀k∈D.Iz.map (·.1),0<=k):(ci (aU D)).Pairwise (· < ·):=by
 have hp:∀k∈aU D,k∈D.Iz.map (·.1):=fun k J=>(dW _).mem_iff.1 J;have N:(ci (aU D)).Nodup:=qJ ((dW _).symm.nodup h) (fun k J=>h0 k (hp k J))
 have O:(ci (aU D)).Pairwise (· <= ·):=by
  unfold ci;rw[abJ];refine((nM (D.Iz.map (·.1))).filter _).imp fun {a b} V=>?_;omega
 have U:=abK.1 N;exact(O.and U).imp fun⟨a,b⟩=>by omega
def nH{D:Dk}(h0:∀k∈D.Iz.map (·.1),0<=k)(n):n∈ci (aU D)↔aM n∈D.Iz.map (·.1):=by
 have hp:∀k,k∈aU D↔k∈D.Iz.map (·.1):=fun k=>(dW _).mem_iff
 constructor
 ·grind[BC,aM]
 intro h;unfold ci;refine aau.2 ⟨aM n,abA.2 ⟨(hp _).2 h,by simp[aM]⟩,by unfold aM;omega⟩
def I9{D D'}{S:List Sg}{op:Option Og}(d:gt D S op)(c:sN D D'):
  ∃l:List (Nat×Option (Nat×List dm)),ci (aU D')=l.map (·.1)/\(∀x∈l,jk D' x.1 x.2) /\
   ((op=none/\l=S.map fun s=>(s.num,some s.v))\/∃o N,op=some o/\p8 o N/\(l=(S.map fun s=>(s.num,some s.v))++[(o.num,N)]\/(l=(S.map fun s=>(s.num,some s.v))/\N=none))):=by
 have X:∀s∈S,D'.sec (aM s.num)=D.sec (aM s.num):=fun s hs=>(d.cl s hs).Ke (c.pk _)
 have Z:∀s∈S,aM s.num∈D'.Iz.map (·.1):=fun s hs=>by
  obtain⟨x,hx⟩:=(d.cl s hs).TX;exact(c.ne _).2 ⟨0,x,by rw[X s hs];exact hx⟩
 have hR:∀s∈S,jk D' s.num (some s.v):=fun s hs=>by unfold jk;rw[tU,X s hs];exact(d.cl s hs).rd
 have U:=BD c.nd c.pos
 have O:((S.map fun s=>(s.num,some s.v)).map (·.1):Af).Pairwise (· < ·):=by
  rw[aa8,abJ];exact d.Ry.imp fun h=>h
 have J:∀n,n∈((S.map fun s=>(s.num,some s.v)).map (·.1):Af)↔∃s∈S,s.num=n:=by
  simp
 have V:∀x∈(S.map fun s=>(s.num,some s.v)),jk D' x.1 x.2:=by
  simp_all
 cases hop:op with
 |none=>
  refine⟨_,uB U O fun n=>?_,V,.inl ⟨I,I⟩⟩;rw[nH c.pos,J]
  constructor
  ·intro h;rcases d.keys _ (c.keys _ h) (by simp[aM])with⟨s,hs,e⟩|⟨o,ho,_⟩
   all_goals grind[l9]
  grind
 |some o=>
  obtain⟨N,Y,t2,t3⟩:=MD d c o hop;obtain⟨aa,_⟩:=d.op o hop
  by_cases hk:aM o.num∈D'.Iz.map (·.1)
  ·refine⟨(S.map fun s=>(s.num,some s.v))++[(o.num,N)],uB U ?_ fun n=>?_,?_,.inr ⟨o,N,I,Y,.inl I⟩⟩
   ·grind
   ·rw[nH c.pos,aa1,aao,J]
    constructor
    ·intro h;rcases d.keys _ (c.keys _ h) (by simp[aM])with⟨s,hs,e⟩|⟨o',ho,e⟩
     all_goals grind[l9]
    grind
   grind
  refine⟨_,uB U O fun n=>?_,V,.inr ⟨o,N,I,Y,.inr ⟨I,t3 hk⟩⟩⟩;rw[nH c.pos,J]
  constructor
  ·intro h;rcases d.keys _ (c.keys _ h) (by simp[aM])with⟨s,hs,e⟩|⟨o',ho,e⟩
   all_goals grind[l9]
  grind
end
section
def mz(op:Option Og)(t:Option (Nat×List dm)):Prop:=match op with
 |none=>t=none
 |some o=>p8 o t
def jw(op:Option Og)(t:Option (Nat×List dm)):List Sg:=match op,t with
 |some o,some (i,rs)=>[⟨o.num,i,rs⟩]
 |_,_=>[]
theorem DJ{op t b}(h:b∈jw op t):∃o,op=some o/\b.num=o.num:=by
 cases op with
 |none=>simp[jw]at h
 |some o=>cases t with
  |none=>simp[jw]at h
  |some x=>
   obtain⟨i,rs⟩:=x;simp only[jw,aaC]at h;exact⟨o,I,by rw[h]⟩
theorem qP{fr}:∀(S:List Sg),(∀s∈S,fr<=s.num)->gg fr (S.map fun s=>(s.num,some s.v))=S.map fun s=>(s.num,s.idx,s.Ja)
 |[],_=>rfl
 |s::S,h=>by
  rw[aay,vL];dsimp only;rw[aaa (by have:=h s Q8;omega)];simp only[abi,aay];rw[qP S (fun x J=>h x (by simp[J]))]
  rfl
theorem Bq(fr a b):gg fr (a++b)=gg fr a++gg fr b:=by simp[gg]
def Bp{fr l}(h:∀x∈l,x.1<fr):gg fr l=[]:=by
 unfold gg;rw[List.filterMap_eq_nil_iff];intro x J;rw[aab (h x J)]
def Nq{f}(h:Fx f):gG f=f:=(h.pk (f':=gG f) (by
 intro n;unfold kF gG;cases hf:f n with
 |none=>rfl
 |some s=>
  obtain⟨J,v,N⟩:=h n s hf
  simp_all[jJ]))
def Cz{l M}(h:∀n∈ci l,n<M):iL l<=M:=by
 have:∀(q:Af) (z:Nat),z<=M->(∀n∈q,n<M)->q.foldl (fun _ n=>n+1) z<=M:=by
  intro q
  induction q with
  |nil=>simp
  |cons a q J=>grind
 exact this _ 0 (aad _) h
structure Hh (W:Wl) (E:Dk) (S:List Sg) (fr M:Nat):Prop where
 op:W.op=none
 code:W.code=0
 Jd:W.Jd=S.map fun s=>(s.num,s.idx)
 lt:∀s∈S,s.num<W.next
 Sn:fr<=W.next
 next:W.next<=M
 Rf:gt E S none
 vw:VW W (er none (S.map Sg.v))
def HE{D F}{S:List Sg}{op:Option Og}(d:gt D S op)(c:sN D F)(hr:0<=F.room){fr first M}(az:first<=bt)(hM:M<=c9)(aT:fr<=M)
  (hS:∀s∈S,s.num<M) (ho:∀o,op=some o->o.num<M)
  (aD:((∀s∈S,fr<=s.num)/\(∀o,op=some o->fr<=o.num)/\∀t,mz op t->fK none (S.map Sg.v++t.toList))\/((∀s∈S,s.num<fr)/\∀o,op=some o->o.num<fr)):
  ∃N W E,((∃t,mz op t/\N=S++jw op t/\(∀s∈S,fr<=s.num)/\∀o,op=some o->fr<=o.num)\/(N=[]/\(∀s∈S,s.num<fr)/\∀o,op=some o->o.num<fr))/\dL F fr first=(some W,E,0)/\Hh W E N fr M/\(N=[]->W.first=first/\W.Ja=[])/\gz 0 E/\(E.Iz.map (·.1)).Nodup /\
   (∀a,a%4≠1->E.sec a=F.sec a)/\∀a∈E.Iz.map (·.1),a∈F.Iz.map (·.1):=by
 obtain⟨l,hl,hR,ae⟩:=I9 d c;have ap:gz 0 F:=⟨c.left,c.dead,qo⟩
 have aF:∀n∈ci (aU F),n<M:=by
  intro n hn;rw[nH c.pos]at hn;rcases d.keys _ (c.keys n hn) (by simp[aM])with⟨s,hs,e⟩|⟨o,J,e⟩
  all_goals grind[l9]
 have aY:=Cz aF;have aq:=qJ ((dW _).symm.nodup c.nd) (fun k hk=>c.pos k ((dW _).mem_iff.1 hk))
 obtain⟨N,ak,O,aA,Y⟩:∃N:List Sg,((∃t,mz op t/\N=S++jw op t/\(∀s∈S,fr<=s.num)/\∀o,op=some o->fr<=o.num)\/(N=[]/\(∀s∈S,s.num<fr)/\∀o,op=some o->o.num<fr))/\gg fr l=(N.map fun s=>(s.num,s.idx,s.Ja))/\fK none (N.map Sg.v) /\
   (∀s∈N,(s∈S\/∃o t,op=some o/\p8 o (some t)/\s=⟨o.num,t.1,t.2⟩)/\fr<=s.num/\(s.num,some s.v)∈l):=by
  rcases aD with⟨J,U,h3⟩|⟨J,U⟩
  ·rcases ae with⟨V,rfl⟩|⟨o,ag,V,ht,ae⟩
   ·refine⟨S,.inl ⟨none,by unfold mz;rw[V],by simp[jw],J,U⟩,qP S J,?_,fun s hs=>⟨.inl hs,J s hs,aau.2 ⟨s,hs,rfl⟩⟩⟩
    simp_all[mz]
   have aa:mz op ag:=by unfold mz;rw[V];exact ht
   have hk:=h3 ag aa;have ab:∀ad:Option (Nat×List dm),ad=none->fK none (S.map Sg.v++ad.toList)->fK none (S.map Sg.v):=fun r J U=>by subst J;simpa using U
   rcases ae with rfl|⟨rfl,rfl⟩
   ·cases ag with
    |none=>
     refine⟨S,.inl ⟨none,aa,by simp[jw],J,U⟩,?_,ab none I hk,fun s hs=>⟨.inl hs,J s hs,aao.2 (.inl<|aau.2 ⟨s,hs,I⟩)⟩⟩
     grind[Bq,qP,gg]
    |some t=>
     obtain⟨i,rs⟩:=t;refine⟨S++[⟨o.num,i,rs⟩],.inl ⟨some (i,rs),aa,by simp[jw,V],J,U⟩,?_,?_,fun s hs=>?_⟩
     ·rw[Bq,qP S J,vL]
      simp_all[aaa,gg]
     ·simpa[Sg.v]using hk
     rcases aao.1 hs with hs|hs
     ·grind
     simp only[aaC]at hs;subst hs;exact⟨.inr ⟨o,(i,rs),V,ht,I⟩,U o V,aao.2 (.inr (by simp[Sg.v]))⟩
   exact⟨S,.inl ⟨none,aa,by simp[jw],J,U⟩,qP S J,ab none I hk,fun s hs=>⟨.inl hs,J s hs,aau.2 ⟨s,hs,I⟩⟩⟩
  refine⟨[],.inr ⟨I,J,U⟩,Bp ?_,trivial,Q8⟩
  grind
 have aO:VW (dY fr first (aU F)) none:=.inl ⟨rfl,rfl⟩;have ay:(gg fr l).map (·.2)=N.map Sg.v:=by rw[O,aa8];rfl
 obtain⟨W,g,r1,r2,r3,r4,r5,r6,r7,r8⟩:=sZ (D:=F) (fr:=fr) l (dY fr first (aU F)) none [] (fun x hx _=>hR x hx) aO (by simp[dY];omega) (by rw[ay];exact aA);rw[ay]at r2;obtain⟨s1,s2,s3,s4,s5,s6⟩:=vU g (ci (aU F)) F 0 aq ap c.nd;have aN:(dY fr first (aU F)).next<=M:=by simp_all[Nat.max_le,dY]
 have av:W.Jd=N.map fun s=>(s.num,s.idx):=by
  rw[r3,O,aa8]
  rfl
 have X:∀s∈N,s.num∈ci (aU F)/\s.num∉g:=by
  intro s hs;obtain⟨_,U,h3⟩:=Y s hs;refine⟨by grind,fun hg=>?_⟩;rcases(r8 s.num).1 hg with h|⟨x,hx,h4,h5⟩
  ·simp at h
  have a0:x=(s.num,some s.v):=by
   have aL:(l.map (·.1)).Nodup:=by rw[<-hl];exact aq
   have:∀(q:List (Nat×Option (Nat×List dm))),(q.map (·.1)).Nodup->∀a∈q,∀b∈q,a.1=b.1->a=b:=by
    intro q
    induction q with
    |nil=>simp
    |cons y q ih=>
     intro hn a Z b hb e;simp only[aay,aa9]at hn;rcases aaB.1 Z with J|J
     all_goals grind
   exact this l aL x hx _ h3 h4
  grind
 have aE:∀x∈l,(∀s∈N,s.num≠x.1)->x.1∈g:=by
  intro x hx hn;refine(r8 x.1).2 (.inr ⟨x,hx,I,?_⟩)
  by_cases J:x.1<fr
  ·exact .inl J
  right
  cases U:x.2 with
  |none=>rfl
  |some t=>
   exfalso
   have:(x.1,t.1,t.2)∈gg fr l:=by
    grind[gg]
   grind
 have am:∀s∈N,(wsettle g (ci (aU F)) F).1.sec (aM s.num)=F.sec (aM s.num)/\oU (F.sec (aM s.num)) s.v:=by
  intro s hs;obtain⟨J,U,h3⟩:=Y s hs;have h4:=X s hs;have an:Fx (F.sec (aM s.num)):=(c.pk s.num).fx;refine⟨by rw[s4 s.num h4.1,aaa h4.2,Nq an],an,?_⟩
  grind[tU,jk]
 refine⟨N,W,(wsettle g (ci (aU F)) F).1,ak,?_,⟨r4,r6,av,?_,by rw[r5];unfold dY;exact Nat.le_max_right _ _,by rw[r5];exact aN,?_,r2⟩,fun h=>r7 (by rw[O,h];rfl),s2,s3,fun a Z=>s5 a (fun n _ e=>Z (by rw[e];simp[aM])),fun a Z=>(s6 a Z).1⟩
 ·unfold dL;rw[aaa (by rw[c.dead];decide),aaa qo,aaa qo,hl,r1,aaa Q8,<-hl,aaa (by rw[s1];simp)]
 ·intro s hs;rw[r5];have h4:=(X s hs).1;have:=wY (l:=aU F) (nM _) s.num h4
  grind[dY]
 refine⟨fun a Z J=>.inl ?_,?_,fun s hs=>?_,fun s hs=>by rw[(am s hs).1];exact(am s hs).2,fun o h=>by cases h⟩
 ·obtain⟨k1,k2⟩:=s6 a Z;have aS:=c.pos a k1;have O:a=aM (a.toNat/4):=by unfold aM;omega
  have aV:a.toNat/4∈ci (aU F):=by rw[nH c.pos,<-O];exact k1
  grind
 ·have aR:=BD c.nd c.pos;rcases ak with⟨t,ht,rfl,_⟩|⟨rfl,_⟩
  ·rw[acf];refine⟨d.Ry,?_,fun a Z b hb=>?_⟩
   ·unfold jw
    split<;>simp
   obtain⟨o,J,U⟩:=DJ hb;rw[U];exact(d.op o J).1 a Z
  simp
 rcases(Y s hs).1 with h|⟨o,t,J,U,h3⟩
 ·exact d.bd s h
 obtain⟨_,g2,g3,_⟩:=d.op o J;obtain⟨k1,j,k2,k3,_⟩:=U
 grind
end
section
def iw(f:SF)(i:Nat):Nat×Aa:=match f9 f i with
 |none=>(0,[])
 |some b=>jm b i
def di(f:SF):cW:=(cW.pick ⟨0,[]⟩ (iw f 0)).pick (iw f 1)
def Ia(b i):(jm b i).1=0\/(jm b i).1%2=i:=by
 unfold jm
 grind
def Bn(f i):(iw f i).1=0\/(iw f i).1%2=i:=by
 unfold iw
 split
 ·omega
 simp[Ia]
def HF{n v i}(hv:eq v<=48)(hn:n<2^64)(hi:n%2=i):jm (cM n v) i=(n,v):=by
 have e0:cM n v=fP 8 n++(UInt8.ofNat (eq v)::(v++(List.replicate (51-eq v) 0++fP 4 (mN (iy n v)).toNat))):=by
  simp[cM,iy]
 have J:(cM n v).getD 8 0=UInt8.ofNat (eq v):=by
  rfl
 have e2:(cM n v).take 8=fP 8 n:=by rfl
 have N:(UInt8.ofNat (eq v)).toNat=eq v:=by simp;omega
 have O:((cM n v).drop 9).take (eq v)=v:=by
  rw[e0,acK,abj (by simp[mR]),mR,abl,show 9-8=1 from rfl,List.drop_succ_cons,abC,aa3 (aac _),aaG]
 have U:eF (fP 8 n)=n:=DE 8 n qo;unfold jm
 grind
def J5{n v}(hv:eq v<=48):fp (cM n v)=cM n v:=by
 unfold fp;rw[qK hv]
 simp
def J4{a b n v}(J:a.1=0\/a.1%2=0)(hb:b.1=0\/b.1%2=1)(hn:n=((cW.pick ⟨0,[]⟩ a).pick b).num+1)(N:n%2=0):
  (cW.pick ⟨0,[]⟩ (n,v)).pick b=⟨n,v⟩/\∀x:Nat×Aa,x.1=0->(cW.pick ⟨0,[]⟩ x).pick b=(cW.pick ⟨0,[]⟩ a).pick b:=by
 grind[cW.pick]
def Ly{a b n v}(N:a.1=0\/a.1%2=0)(hb:b.1=0\/b.1%2=1)(hn:n=((cW.pick ⟨0,[]⟩ a).pick b).num+1)(O:n%2=1):
  (cW.pick ⟨0,[]⟩ a).pick (n,v)=⟨n,v⟩/\∀x:Nat×Aa,x.1=0->(cW.pick ⟨0,[]⟩ a).pick x=(cW.pick ⟨0,[]⟩ a).pick b:=by
 generalize hp:cW.pick ⟨0,[]⟩ a=p at *
 have J:p.num=a.1\/p.num=0:=by
  rw[<-hp];unfold cW.pick
  grind
 grind[cW.pick]
theorem sQ{f g}{i:Nat}(h:f i=g i):iw f i=iw g i:=by unfold iw f9;rw[h]
def Fx.Us{f}(h:Fx f){n s'}(p:kF (f n) s'):s'=f n:=by
 cases hf:f n with
 |none=>rw[hf]at p;exact p
 |some t=>
  rw[hf]at p;obtain⟨O,v,U⟩:=h n t hf;rcases p with⟨J,_⟩|⟨u,N,J⟩
  ·rw[O]at J;cases J
  rw[U]at N;simp only[aaC]at N;rw[J,N];obtain⟨vs,V⟩:=t;cases O;cases U
  rfl
def lY(f:SF)(n:Nat)(v:Aa):SF:=jI f ((n%2:Nat):Int) (gp (f ((n%2:Nat):Int)) (cM n v))
def Ib{f}(X:Fx f){v}(hv:eq v<=48)(hn:(di f).num+1<2^64):
  (∀f',Pk (lY f ((di f).num+1) v) f'->di f'=di f\/di f'=⟨(di f).num+1,v⟩)/\di (gG (lY f ((di f).num+1) v))=⟨(di f).num+1,v⟩:=by
 have ha:=Bn f 0;have hb:=Bn f 1;obtain⟨n,O⟩:=a9 ((di f).num+1);rw[<-O]at hn⊢
 have aa:∀(g:SF) (i:Nat) (b:Bool),n%2=i->g i=some ⟨[fp (cM n v)],b⟩->iw g i=(n,v):=by
  simp_all[J5,HF,iw,f9]
 have Y:∀(g:SF) (i:Nat),g i=none->(iw g i).1=0:=by
  simp_all[iw,f9]
 have N:∀(i:Nat),n%2=i->∀(s':Option gx),kF (lY f n v i) s'->s'=f i\/s'=none\/s'=some ⟨[fp (cM n v)],true⟩:=by
  intro i hi s' hp;have e:lY f n v i=some (gp (f i) (cM n v)):=by unfold lY jI;rw[hi,aab rfl]
  rw[e]at hp;rcases hp with⟨_,h⟩|⟨u,hu,h⟩
  ·exact .inr (.inl h)
  unfold gp at hu;rcases aao.1 hu with hu|hu
  ·cases hfi:f i with
   |none=>rw[hfi]at hu;simp at hu
   |some t=>
    rw[hfi]at hu;obtain⟨U,w,Z⟩:=X _ t hfi;simp only[aaZ,Z,aaC]at hu
    left
    rw[h,hu];obtain⟨vs,sy⟩:=t;cases U;cases Z
    rfl
  simp_all
 have J:∀(i:Nat),n%2≠i->lY f n v i=f i:=by
  intro i hi;unfold lY jI;rw[aaa qo]
 have ab:∀(i:Nat),n%2=i->gG (lY f n v) i=some ⟨[fp (cM n v)],true⟩:=by
  intro i hi;unfold gG lY jI;rw[hi,aab rfl];simp[jJ,gp]
 rcases Nat.mod_two_eq_zero_or_one n with he|he
 ·obtain⟨k1,k2⟩:=J4 (v:=v) ha hb O he;refine⟨fun f' p=>?_,?_⟩
  ·have U:f' ((1:Nat):Int)=f ((1:Nat):Int):=X.Us (by have:=p ((1:Nat):Int);rwa[J 1 qo]at this);have V:iw f' 1=iw f 1:=sQ U;unfold di;rw[V];rcases N 0 he _ (p ((0:Nat):Int))with h|h|h
   all_goals grind[sQ]
  grind[t6,di,iw,f9]
 obtain⟨k1,k2⟩:=Ly (v:=v) ha hb O he;refine⟨fun f' p=>?_,?_⟩
 ·have U:f' ((0:Nat):Int)=f ((0:Nat):Int):=X.Us (by have:=p ((0:Nat):Int);rwa[J 0 qo]at this);have V:iw f' 0=iw f 0:=sQ U;unfold di;rw[V];rcases N 1 he _ (p ((1:Nat):Int))with h|h|h
  all_goals grind[sQ]
 grind[t6,di,iw,f9]
def BP{n D}(h:cC (n+1) D)(J:Nat)(hf:Fx (D.sec J)){S}(hS:di (D.sec J)=S){v}(hv:eq v<=48)(hn:S.num+1<2^64):
  (∀a,a≠((J:Nat):Int)->(S.save J D v).2.1.sec a=D.sec a) /\
  (((S.save J D v).2.2=0/\(S.save J D v).1=⟨S.num+1,v⟩/\cC n (S.save J D v).2.1/\Fx ((S.save J D v).2.1.sec J)/\di ((S.save J D v).2.1.sec J)=⟨S.num+1,v⟩) \/
   ((S.save J D v).2.2=30/\(S.save J D v).2.1.dead=true/\∀f',Pk ((S.save J D v).2.1.sec J) f'->di f'=S\/di f'=⟨S.num+1,v⟩)):=by
 subst hS;obtain⟨w1,w2⟩:=Ib hf hv hn;have X:=h.write J (((di (D.sec J)).num+1)%2:Nat) (cM ((di (D.sec J)).num+1) v) qo qo (by rw[qK hv];omega);unfold cW.save;rw[aaa qo];have e:jI (D.sec J) (((di (D.sec J)).num+1)%2:Nat) (gp (D.sec J (((di (D.sec J)).num+1)%2:Nat)) (cM ((di (D.sec J)).num+1) v))=lY (D.sec J) ((di (D.sec J)).num+1) v:=rfl;rw[e]at X;generalize D.write J (((di (D.sec J)).num+1)%2:Nat) (cM ((di (D.sec J)).num+1) v)=W at X;obtain⟨V,aa,U⟩:=X;rcases V with⟨h0,N⟩|⟨h0,O⟩
 ·rw[aab h0];rcases N.sync J with⟨Y,s2,s3,s4⟩|⟨Y,s2,s3⟩
  ·rw[aab Y];refine⟨fun a Z=>by rw[s4 a Z,U a Z],.inl ⟨Y,I,s2,?_,?_⟩⟩
   all_goals simp_all[xU]
  simp_all
 simp_all
structure js (f:SF) (data:Aa):Prop where
 fx:Fx f
 rd:∀n:Nat,64*n<eq data->f9 f n=some (fp ((data.drop (64*n)).take 64))
theorem CX{D place data}(o:js (D.sec (bz place)) data):∀(k n:Nat) (J:Aa),J=data.take (64*n)->eq J=64*n->eq data<64*(n+k) ->
  ∃d,nZ D place (eq data) k n J=some d/\d.take (eq data)=data
 |0,n,J,U,V,Z=>by
  rw[U,aal]at V;omega
 |k+1,n,J,U,V,Z=>by
  rw[wa]
  by_cases N:eq J<eq data
  ·rw[aab N,Fm,o.rd n qo];dsimp only;have Y:eq ((data.drop (64*n)).take 64)=min 64 (eq data-64*n):=by simp
   by_cases O:64*(n+1)<=eq data
   ·have hp:fp ((data.drop (64*n)).take 64)=(data.drop (64*n)).take 64:=by unfold fp;rw[Y,show 64-min 64 (eq data-64*n)=0 by omega];simp
    rw[hp];refine CX o k (n+1) _ ?_ (by rw[aaj,Y];omega) qo
    grind
   have X:J++(data.drop (64*n)).take 64=data:=by
    grind[List.take_append_drop]
   cases k with
   |zero=>
    refine⟨_,I,?_⟩
    grind[fp]
   |succ k=>
    rw[wa,aaa (by grind[fp])];refine⟨_,I,?_⟩
    grind[fp]
  rw[aaa N]
  grind
end
section
def eB:Nat:=2^61
def Ea:bX+1000000<=eB:=by decide
def kX(S:cW)(J:Ae)(sn:bE)(place fr:Nat):Prop:=
 (S.num=0/\sn=⟨0,0,J,[]⟩/\place=0/\fr=0) \/
 (S.num≠0/\S.val=Lg.Nl sn place fr/\sn.idx<=bX/\sn.term<=ac/\place<=bX/\eq sn.data<=2097152/\fr<=bX/\(bG sn.Jq).isSome=true)
def AU{l}(h:(bG l).isSome=true):∃c,bG l=some [c]:=by
 unfold bG at h⊢
 simp_all
def JU{D S vot0 sn place fr}(h:kX S vot0 sn place fr)(hd:S.num≠0->js (D.sec (bz place)) sn.data):kq D S vot0=some (sn,place,fr):=by
 unfold kq;rcases h with⟨J,N,O,U⟩|⟨J,N,O,U,h5,h6,h7,h8⟩
 ·rw[aab J,N,O,U]
 rw[aaa J];obtain⟨c,X⟩:=AU h8;have hg:=A1 X;unfold bX at O h5 h7;unfold ac at U
 have Y:mM S.val=(sn.idx,(aK sn.term++(aK place++(aK (eq sn.data)++(aK fr++[c]))),0)):=by
  unfold mM;rw[N];unfold Lg.Nl;rw[X];exact jQ _ qo (by unfold bX;omega)
 have e2:mK S.val=(sn.term,(aK place++(aK (eq sn.data)++(aK fr++[c])),0)):=by grind[jQ,mK,ac]
 have Z:qB S.val=(place,(aK (eq sn.data)++(aK fr++[c]),0)):=by grind[jQ,qB,bX]
 have e4:pd S.val=(eq sn.data,(aK fr++[c],0)):=by grind[jQ,pd]
 have V:sH S.val=(fr,([c],0)):=by grind[jQ,sH,bX]
 have e6:qA S.val=(c.toNat,([],0)):=by unfold qA;rw[V];rfl
 have e7:UInt8.ofNat c.toNat=c:=by simp
 rw[e6,e4,Z,e2,Y,V];dsimp only;rw[e7,hg,aaa (by rintro(h|h);exact h I;cases h)];obtain⟨d,r1,r2⟩:=CX (hd J) 32769 0 [] Q8 rfl qo;rw[r1];dsimp only;rw[r2]
 rfl
def ID{n t v}(hn:n≠0)(ht:t<=ac)(hv : -1<=v/\v<=6):jo ⟨n,aK t++aK (v+1).toNat⟩=some (t,v):=by
 unfold ac at ht;unfold jo;rw[aaa hn];dsimp only;have J:=jQ (m:=ac) (n:=t) (aK (v+1).toNat) qo (by unfold ac;omega);have e2:=jQ (m:=7) (n:=(v+1).toNat) [] qo qo;rw[aaw]at e2;rw[J];dsimp only;rw[e2];dsimp only;rw[aab (show kB (([]:Aa),0)=0 from rfl)]
 congr 2
 omega
theorem wq(J):∀(l:Ae) (D:Dk),gz 0 D->(D.Iz.map (·.1)).Nodup ->
  (Na J l D).2=0/\gz 0 (Na J l D).1/\((Na J l D).1.Iz.map (·.1)).Nodup/\(∀a,(a%4≠2\/a=((bz J:Nat):Int))->(Na J l D).1.sec a=D.sec a/\(a∈(Na J l D).1.Iz.map (·.1)↔a∈D.Iz.map (·.1))) /\
   ∀a∈(Na J l D).1.Iz.map (·.1),a∈D.Iz.map (·.1)
 |[],D,h,N=>⟨rfl,h,N,fun a _=>⟨rfl,Iff.rfl⟩,fun a O=>O⟩
 |b::r,D,h,N=>by
  rw[qN]
  by_cases hb:b%4=2/\b≠((bz J:Nat):Int)
  ·rw[aab hb];have h1:=h.free b;have O:cC 0 D:=⟨by rw[h.left];decide,h.dead,by have:=h.room;omega,N⟩;rw[aaa qo];rcases O.free b with⟨_,Y,g3,Z⟩|⟨g1,_⟩
   ·obtain⟨r1,r2,r3,r4,r5⟩:=wq J r _ h1.2 Y.keys
    have U:(D.free b).1.Iz=dN b D.Iz:=by
     grind[Dk.free]
    refine⟨r1,r2,r3,fun a V=>?_,fun a O=>?_⟩
    ·obtain⟨k1,k2⟩:=r4 a V
     have hne:a≠b:=by
      omega
     refine⟨by rw[k1,Z a hne],k2.trans ?_⟩;rw[U]
     constructor
     ·grind[lB]
     intro hm;have X:=pF b a D.Iz N;rw[aaa hne]at X;cases hy:aZ a D.Iz with
     |none=>exact absurd hm (gI.1 hy)
     |some v=>rw[hy]at X;exact aau.2 ⟨_,gS X,I⟩
    grind[lB]
   omega
  rw[aaa hb];exact wq J r D h N
def ig(sn:bE)(l:List ah):Prop:=eH sn.idx sn.term l=0/\∀e∈l,i9 e
def HB{e}(h:i9 e):gD e.bytes=some e:=IW h.2.1 h.2.2 (B2 h.1)
theorem BY:∀(l:List ah) (i t:Nat),eH i t l=0->(∀e∈l,i9 e)->j6 (i+1) (l.map ah.bytes)=some l
 |[],_,_,_,_=>rfl
 |e::l,i,t,h,hg=>by
  obtain⟨O,_,J⟩:=rD h;rw[aay,xu,HB (hg e Q8)];dsimp only;have:=BY l e.idx e.term J (fun x N=>hg x (by simp[N]))
  simp_all
def LV(sn:bE):Vl->List ah->Prop
 |none,l=>l=[]
 |some (f,r),l=>f<=sn.idx+1/\sn.idx+1<=f+eq r/\r.drop (sn.idx+1-f)=l.map ah.bytes
def JW{sn W v l}(hv:VW W v)(hn:v=none->W.first=sn.idx+1/\W.Ja=[])(hl:LV sn v l)(hg:ig sn l):lF sn W=some l:=by
 unfold lF;rcases hv with⟨rfl,J⟩|⟨J,rfl⟩
 ·obtain⟨N,O⟩:=hn rfl;have hl:l=[]:=hl
  simp_all[j6]
 obtain⟨N,O,U⟩:=hl;rw[aaa qo,U];exact BY l _ _ hg.1 hg.2
def bD(op:Option Og):List Sg:=match op with
 |none=>[]
 |some o=>[⟨o.num,o.idx,o.Ja⟩]
structure cH (vot0:Ae) (M:Nat) (L:Lg) (D:Dk) (S:List Sg) (op:Option Og):Prop where
 code:L.code=0
 Rh:L.w.code=0
 Jd:L.w.Jd=(S++bD op).map fun s=>(s.num,s.idx)
 Rf:gt D S op
 Sz:op=none->L.w.op=none
 ops:∀o,op=some o->∃q,L.w.op=some q/\q.num=o.num/\o.T=eA o.idx o.Ja/\eq o.T=63*q.full+eq q.rest/\q.rest=o.T.drop (63*q.full)/\eq q.rest<=62/\q.full<=24
 lt:∀s∈S++bD op,s.num<L.w.next
 Sm:∀s∈S++bD op,L.fr<=s.num
 Sn:L.fr<=L.w.next
 next:L.w.next<=M
 ok:fK none ((S++bD op).map Sg.v)
 val:(S++bD op=[]/\L.w.Ja=[]/\L.w.first=L.sn.idx+1/\L.l=[])\/∃f r,er none ((S++bD op).map Sg.v)=some (f,r)/\f<=L.w.first/\L.w.first<=L.sn.idx+1/\L.sn.idx+1<=f+eq r/\L.w.Ja=r.drop (L.w.first-f)/\r.drop (L.sn.idx+1-f)=L.l.map ah.bytes
 RG:Fx (D.sec 0)
 RH:di (D.sec 0)=L.Qh
 RJ:jo L.Qh=some (L.kt,L.kv)
 RL:Fx (D.sec 4)
 RM:di (D.sec 4)=L.head
 RD:kX L.head vot0 L.sn L.place L.fr
 S9:L.head.num≠0->js (D.sec (bz L.place)) L.sn.data
 Jj:ig L.sn L.l
theorem vX:∀(l:List (Nat×List dm)) (v:Vl),v≠none->er v l≠none
 |[],v,h=>h
 |s::l,v,h=>vX l _ Q8
def eM(D:Dk)(fr M:Nat)(sn:bE)(Q:List ah->Prop):Prop:=
 ∀F,sN D F->0<=F.room->∃J W E l,dL F fr (sn.idx+1)=(some W,E,0)/\Hh W E J fr M/\(J=[]->W.first=sn.idx+1/\W.Ja=[])/\gz 0 E/\(E.Iz.map (·.1)).Nodup/\(∀a,a%4≠1->E.sec a=F.sec a)/\(∀a∈E.Iz.map (·.1),a∈F.Iz.map (·.1)) /\
  Q l/\ig sn l/\LV sn (er none (J.map Sg.v)) l/\fK none (J.map Sg.v)/\∀s∈J,fr<=s.num
def eM.frame{D E:Dk}{fr M sn}(h:eM D fr M sn Q)(hs:∀n,E.sec (aM n)=D.sec (aM n))(J:∀n,aM n∈E.Iz.map (·.1)->aM n∈D.Iz.map (·.1)):eM E fr M sn Q:=
 fun F c N=>h F ⟨c.left,c.dead,fun n=>by rw[<-hs];exact c.pk n,fun n hn=>J n (c.keys n hn),c.nd,c.ne,c.pos⟩ N
def eM.imp{D fr M sn}{Q':List ah->Prop}(h:eM D fr M sn Q)(hq:∀l,Q l->Q' l):eM D fr M sn Q':=fun F c J=>by
 obtain⟨N,W,E,l,O,U,V,X,Y,Z,h7,h8,h9⟩:=h F c J
 grind
def dT(S:List Sg)(op:Option Og)(sn:bE)(Q:List ah->Prop):Prop:=∀t,mz op t->fK none (S.map Sg.v++t.toList)/\∃l,Q l/\ig sn l/\LV sn (er none (S.map Sg.v++t.toList)) l
def Gm{S op t}(h:mz op t):(S++jw op t).map Sg.v=S.map Sg.v++t.toList:=by
 cases op with
 |none=>
  have:t=none:=h;subst this;simp[jw]
 |some o=>cases t with
  |none=>simp[jw]
  |some x=>simp[jw,Sg.v]
def A6{D S op}(d:gt D S op){sn fr M}(J:sn.idx<=eB)(hM:M<=c9)(O:fr<=M)(V:∀s∈S,fr<=s.num/\s.num<M)(ho:∀o,op=some o->fr<=o.num/\o.num<M)(hp:dT S op sn Q):eM D fr M sn Q:=by
 intro F c hr;obtain⟨S',W,E,w1,w2,w3,w4,w5,w6,w7,w8⟩:=HE d c hr (fr:=fr) (first:=sn.idx+1) (M:=M) (by unfold eB at J;unfold bt;omega) hM O (fun s hs=>(V s hs).2) (fun o h=>(ho o h).2) (.inl ⟨fun s hs=>(V s hs).1,fun o h=>(ho o h).1,fun t ht=>(hp t ht).1⟩);rcases w1 with⟨t,ht,rfl,_,_⟩|⟨rfl,h1,h2⟩
 ·obtain⟨k1,l,X,Y,Z⟩:=hp t ht;refine⟨_,W,E,l,w2,w3,w4,w5,w6,w7,w8,X,Y,by rw[Gm ht];exact Z,by rw[Gm ht];exact k1,fun s hs=>?_⟩;rcases aao.1 hs with hs|hs
  all_goals grind[DJ]
 have N:S=[]:=by
  rw[List.eq_nil_iff_forall_not_mem]
  grind
 have U:op=none:=by
  cases op with
  |none=>rfl
  |some o=>
   grind
 subst N;subst U;obtain⟨_,l,X,Y,Z⟩:=hp none rfl
 grind
def AO{D:Dk}{sn:bE}{fr M}(J:sn.idx<=eB)(hM:M<=c9)(ae:fr<=M)(Y:∀n,aM n∈D.Iz.map (·.1)->n<fr)(hQ:Q []):eM D fr M sn Q:=by
 intro F c hr;have X:gz 0 F:=⟨c.left,c.dead,qo⟩
 have Z:∀n∈ci (aU F),n<fr:=fun n hn=>by
  rw[nH c.pos]at hn;exact Y n (c.keys n hn)
 have aa:=qJ ((dW _).symm.nodup c.nd) (fun k Y=>c.pos k ((dW _).mem_iff.1 Y));have ag:=Cz Z
 have N:gg fr ((ci (aU F)).map fun n=>((n,none):Nat×Option (Nat×List dm)))=[]:=by
  refine Bp ?_
  simp_all
 obtain⟨W,g,r1,r2,r3,r4,r5,r6,r7,r8⟩:=sZ (D:=F) (fr:=fr) ((ci (aU F)).map fun n=>(n,none)) (dY fr (sn.idx+1) (aU F)) none [] (fun x hx h=>by
  grind) (.inl ⟨rfl,rfl⟩) (by unfold eB at J;simp[dY];unfold bt;omega) (by rw[N];trivial)
 rw[N]at r2 r3 r7;have e:((ci (aU F)).map fun n=>((n,none):Nat×Option (Nat×List dm))).map (·.1)=ci (aU F):=by rw[aa8];exact List.map_id _
 rw[e]at r1;obtain⟨s1,s2,s3,s4,s5,s6⟩:=vU g (ci (aU F)) F 0 aa X c.nd;have ab:(dY fr (sn.idx+1) (aU F)).next<=M:=by simp_all[dY]
 have hg:∀n∈ci (aU F),n∈g:=fun n hn=>(r8 n).2 (.inr ⟨(n,none),aau.2 ⟨n,hn,rfl⟩,rfl,.inr rfl⟩);refine⟨[],W,(wsettle g (ci (aU F)) F).1,[],?_,⟨r4,r6,by rw[r3];rfl,Q8,by simp_all[dY],by rw[r5];exact ab,?_,r2⟩,fun _=>r7 I,s2,s3,fun a U=>s5 a (fun n _ e=>U (by rw[e];unfold aM;omega)),fun a U=>(s6 a U).1,hQ,⟨rfl,Q8⟩,rfl,trivial,Q8⟩
 ·unfold dL;rw[aaa (by rw[c.dead];decide),aaa (by unfold eB at J;unfold bt;omega),aaa qo,r1,aaa Q8,aaa (by rw[s1];simp)]
 refine⟨fun a U h1=>?_,List.Pairwise.nil,Q8,Q8,fun o h=>by cases h⟩
 exfalso
 obtain⟨k1,k2⟩:=s6 a U;have ad:=c.pos a k1;have O:a=aM (a.toNat/4):=by unfold aM;omega
 have V:a.toNat/4∈ci (aU F):=by rw[nH c.pos,<-O];exact k1
 exact k2 _ V (hg _ V) O
def HQ{D D'}(c:Cr D D')(hr:0<=D'.room){J:Ae}(hv:(bG J).isSome=true){kh:Nat×Int}(hh:jo (di (D'.sec 0))=some kh){sn place fr M}
  (hE:kX (di (D'.sec 4)) J sn place fr) (U:(di (D'.sec 4)).num≠0->js (D'.sec (bz place)) sn.data) {Q:List ah->Prop} (hw:eM D fr M sn Q):
  ∃L E S',eZ D' J=(some L,E,0)/\L.sn=sn/\(L.kt,L.kv)=kh/\Q L.l/\cH J M L E S' none/\gz 0 E/\(E.Iz.map (·.1)).Nodup/\L.Qh=di (D'.sec 0)/\L.head=di (D'.sec 4)/\L.place=place:=by
 obtain⟨f1,f2,f3,f4,f5⟩:=wq place (aU D') D' (c.UA hr) c.nd;obtain⟨F,hF⟩:=a9 ((Na place (aU D') D').1);rw[<-hF]at f2 f3 f4 f5;have N:∀n,aM n%4≠2\/aM n=((bz place:Nat):Int):=fun n=>.inl (by simp[aM]);have cF:sN D F:=⟨f2.left,f2.dead,fun n=>by rw[(f4 _ (N n)).1];exact c.pk _,fun n h=>c.keys _ (f5 _ h),f3,fun n=>by rw[(f4 _ (N n)).2,(f4 _ (N n)).1];exact c.ne _,fun k hk=>c.pos k (f5 k hk)⟩;have Z:0<=F.room:=by have:=f2.room;omega
 obtain⟨S',W,E,l,w2,O,w4,w5,w6,w7,w8,hQ,hG,hL,ab,aa⟩:=hw F cF Z
 have V:er none (S'.map Sg.v)=none->S'=[]:=by
  intro h;cases S' with
  |nil=>rfl
  |cons s q=>exact absurd h (vX (q.map Sg.v) (some (ef none s.v)) (fun e=>by cases e))
 have ad:=JW O.vw (fun h=>w4 (V h)) hL hG;have X:¬D'.dead=true:=by rw[c.dead];decide
 have Y:eZ D' J=(some ⟨W,iF D' 0,iF D' 4,kh.1,kh.2,sn,place,fr,l,0⟩,E,0):=by
  unfold eZ;rw[aaa (by rw[hv];decide),aaa X];rw[show jo (iF D' 0)=some kh from hh];dsimp only;rw[JU (S:=iF D' 4) hE U]
  simp_all[rJ,rI]
 have e0:E.sec 0=D'.sec 0:=by simp_all
 have e4:E.sec 4=D'.sec 4:=by simp_all
 have ep:E.sec (bz place)=D'.sec (bz place):=by rw[w7 _ (by simp[bz]),(f4 _ (.inr rfl)).1]
 refine⟨_,E,S',Y,I,I,hQ,?_,w5,w6,I,I,I⟩
 exact {
  code:=rfl
  Rh:=O.code
  Jd:=by rw[show bD none=[]from rfl,aaw];exact O.Jd
  Rf:=O.Rf
  Sz:=fun _=>O.op
  ops:=fun o h=>by cases h
  lt:=by rw[show bD none=[]from rfl,aaw];exact O.lt
  Sm:=by rw[show bD none=[]from rfl,aaw];exact aa
  Sn:=O.Sn
  next:=O.next
  ok:=by rw[show bD none=[]from rfl,aaw];exact ab
  val:=by
   rw[show bD none=[]from rfl,aaw];rcases O.vw with⟨h1,h2⟩|⟨h1,h2⟩
   ·have hS:=V h1;obtain⟨g1,g2⟩:=w4 hS;rw[h1]at hL;exact .inl ⟨hS,g2,g1,hL⟩
   rw[h2]at hL;obtain⟨g1,g2,g3⟩:=hL
   grind
  RG:=by rw[e0];exact(c.pk 0).fx
  RH:=by rw[e0];rfl
  RJ:=hh
  RL:=by rw[e4];exact(c.pk 4).fx
  RM:=by rw[e4];rfl
  RD:=hE
  S9:=fun h=>by rw[ep];exact U h
  Jj:=hG}
end
section
def gt.frame{D E:Dk}{S:List Sg}{op:Option Og}(d:gt D S op)(hs:∀n,E.sec (aM n)=D.sec (aM n))(O:∀a∈E.Iz.map (·.1),a%4=1->a∈D.Iz.map (·.1)):gt E S op:=
 ⟨fun a N J=>d.keys a (O a N J) J,d.Ry,d.bd,fun s h=>by rw[hs];exact d.cl s h,fun o h=>by
  obtain⟨J,U,V,X,Y⟩:=d.op o h
  simp_all⟩
structure WI (W:Wl) (D:Dk) (S:List Sg) (op:Option Og):Prop where
 code:W.code=0
 Rf:gt D S op
 Sz:op=none->W.op=none
 ops:∀o,op=some o->∃q,W.op=some q/\q.num=o.num/\o.T=eA o.idx o.Ja/\eq o.T=63*q.full+eq q.rest/\q.rest=o.T.drop (63*q.full)/\eq q.rest<=62/\q.full<=24
 lt:∀s∈S++bD op,s.num<W.next
def Og.SX(o:Og):Og:={o with t0:=eq o.T}
def oZ(D E:Dk):Prop:=E.dead=true/\(∀a,E.sec a=D.sec a)/\∀a∈E.Iz.map (·.1),a∈D.Iz.map (·.1)
def JF(D:Dk)(a):∀k∈(D.sync a).1.Iz.map (·.1),k∈D.Iz.map (·.1):=fun k J=>by
 rcases(Rw.sync a (Rw.refl [] D)).keys k J with h|h
 ·exact h
 simp at h
def BB{W D}{S:List Sg}{op:Option Og}{n}(w:WI W D S op)(h:cC n D):
  ((W.sync D).1=W/\cC n (W.sync D).2/\WI W (W.sync D).2 S (op.map Og.SX)/\gt (W.sync D).2 (S++bD op) none/\(∀a,a%4≠1->(W.sync D).2.sec a=D.sec a)/\∀a∈(W.sync D).2.Iz.map (·.1),a∈D.Iz.map (·.1)) \/
   ((W.sync D).1.code=30/\oZ D (W.sync D).2):=by
 unfold Wl.sync;rw[aaa (by rw[w.code];simp)];cases hop:op with
 |none=>
  rw[w.Sz hop];dsimp only;subst hop;exact .inl ⟨I,h,w,by rw[show bD none=[]from rfl,aaw];exact w.Rf,fun _ _=>I,fun _ h=>h⟩
 |some o=>
  subst hop;obtain⟨q,q1,q2,q3,q4,q5,q6,q7⟩:=w.ops o rfl;obtain⟨d1,d2,d3,d4,d5,d6⟩:=w.Rf.op o rfl;rw[q1];dsimp only;have hk:=JF D (aM q.num);have Y:∀a∈(D.sync (aM q.num)).1.Iz.map (·.1),a%4=1->(∃s∈S,a=aM s.num)\/∃O,some o=some O/\a=aM O.num:=fun a J U=>w.Rf.keys a (hk a J) U;rcases h.sync (aM q.num)with⟨s1,s2,s3,s4⟩|⟨s1,s2,s3⟩
  ·left
   have X:∀s∈S,(D.sync (aM q.num)).1.sec (aM s.num)=D.sec (aM s.num):=fun s hs=>s4 _ (rz (by have:=d1 s hs;omega));have Z:(D.sync (aM q.num)).1.sec (aM o.num)=gG (D.sec (aM o.num)):=by rw[<-q2,s3]
   refine⟨by rw[s1,<-w.code,<-q1],s2,⟨w.code,⟨?_,w.Rf.Ry,w.Rf.bd,fun s hs=>(by rw[X s hs];exact w.Rf.cl s hs),?_⟩,fun h=>(by cases h),?_,?_⟩,⟨?_,?_,?_,?_,fun o h=>(by cases h)⟩,fun a J=>s4 a (fun e=>J (by rw[e];simp[aM])),hk⟩
   ·intro a J U;rcases Y a J U with V|⟨O,V,h3⟩
    ·exact .inl V
    cases V;exact .inr ⟨_,I,h3⟩
   ·intro O N;cases N;exact⟨d1,d2,d3,by show gH _ o.T (eq o.T);rw[show o.SX.num=o.num from rfl,Z];exact d4.R6,d5,d6⟩
   ·intro O N;cases N;exact⟨q,q1,q2,q3,q4,q5,q6,q7⟩
   ·exact w.lt
   ·intro a J U;rcases Y a J U with⟨s,hs,e⟩|⟨O,V,h3⟩
    ·grind
    cases V;exact .inl ⟨⟨o.num,o.idx,o.Ja⟩,aao.2 (.inr (by simp[bD])),h3⟩
   ·rw[acf];exact⟨w.Rf.Ry,by simp[bD],fun a J b hb=>by grind[bD]⟩
   ·intro s hs;rcases aao.1 hs with hs|hs
    ·exact w.Rf.bd s hs
    grind[bD]
   intro s hs;rcases aao.1 hs with hs|hs
   ·rw[X s hs];exact w.Rf.cl s hs
   simp only[bD,aaC]at hs;rw[hs];dsimp only;rw[Z];have:=d4.closed d6;rw[q3]at this;exact this.Uk d2 d3
  exact .inr ⟨s1,s2,s3,hk⟩
def Dw{q D S o n}(d:gt D S (some o))(hq:q.num=o.num)(ag:eq o.T=63*q.full+eq q.rest)(hr:q.rest=o.T.drop (63*q.full))(ab:eq q.rest<=62)(hf:q.full<=15){b}(hb:0<eq b/\eq b<=522){recs'}
  (ad:∀r∈recs',eq r<=512) (ae:o.T++b=eA o.idx recs') (h:cC (n+10) D):
  (∀a,a%4≠1->(Rv q b D).2.1.sec a=D.sec a)/\(((Rv q b D).2.2=0/\cC n (Rv q b D).2.1/\gt (Rv q b D).2.1 S (some {o with Ja:=recs',T:=eA o.idx recs'})/\(Rv q b D).1.num=q.num /\
    eq (eA o.idx recs')=63*(Rv q b D).1.full+eq (Rv q b D).1.rest/\(Rv q b D).1.rest=(eA o.idx recs').drop (63*(Rv q b D).1.full)/\eq (Rv q b D).1.rest<=62/\(Rv q b D).1.full<=24) \/
   ((Rv q b D).2.2=30/\(Rv q b D).2.1.dead=true/\∃N,o.T <+: N/\N <+: eA o.idx recs'/\gt (Rv q b D).2.1 S (some {o with Ja:=recs',T:=N}))):=by
 obtain⟨d1,d2,d3,d4,d5,d6⟩:=d.op o rfl;have hl:eq (q.rest++b)=eq q.rest+eq b:=aaj;have X:=Dy (eq q.rest+eq b+1) {q with rest:=q.rest++b} D n o.T o.t0 (by dsimp only;rw[hl];exact h.mono qo) (by dsimp only;rw[hl];omega) (by dsimp only;rw[hl];omega) aC (by dsimp only;rw[hq];exact d4) aC aC (by dsimp only;rw[<-hr];exact List.prefix_append _ _);have aa:=ry q b D;have J:=(yJ q b D).keys;obtain⟨N,Y,O,r3,r4,Z,r6⟩:=X;have e:RY (eq q.rest+eq b+1) {q with rest:=q.rest++b} D=Rv q b D:=rfl;rw[e]at Y O Z r6;dsimp only at Y O r4 Z r6;have hU:o.T.take (63*q.full)++(q.rest++b)=eA o.idx recs':=by grind[List.take_append_drop]
 rw[hU]at r4 r6;rw[hq]at Y
 have ak:∀U,U=N->gt (Rv q b D).2.1 S (some {o with Ja:=recs',T:=U}):=by
  intro U e2;subst e2;refine⟨fun a V h1=>?_,d.Ry,d.bd,fun s hs=>?_,fun o' am=>?_⟩
  ·rcases J a V with h2|h2
   ·rcases d.keys a h2 h1 with h3|⟨o',h3,h4⟩
    all_goals grind
   grind
  ·rw[O _ (rz (by have:=d1 s hs;omega))];exact d.cl s hs
  grind
 refine⟨fun a V=>O a (fun e=>V (by rw[e];simp[aM])),?_⟩;rcases Z with⟨g1,g2⟩|⟨g1,g2⟩
 all_goals grind
def KM{W D S op n}(w:WI W D S op)(h:cC (n+10) D){i}(hi:i<=bt):
  (∀a,a%4≠1->(W.begin i D).2.sec a=D.sec a) /\
  ((∃q,q.full<=1/\(W.begin i D).1={W with op:=some q,next:=W.next+1,Jd:=W.Jd++[(W.next,i)]}/\cC n (W.begin i D).2/\WI (W.begin i D).1 (W.begin i D).2 (S++bD op) (some ⟨W.next,i,[],eA i [],0⟩)) \/
   ((W.begin i D).1.code=30/\oZ D (W.begin i D).2) \/
   ((W.begin i D).1.code=30/\(W.begin i D).2.dead=true/\∃X,X <+: eA i []/\gt (W.begin i D).2 (S++bD op) (some ⟨W.next,i,[],X,0⟩))):=by
 have aa:i<2^64:=by unfold bt at hi;omega
 unfold Wl.begin;rcases BB w h with⟨V,O,s3,J,s5,s6⟩|⟨V,O⟩
 ·rw[V,aaa (by rw[w.code];simp)];generalize hE:(W.sync D).2=E at O s3 J s5 s6
  have ad:aM W.next∉E.Iz.map (·.1):=by
   intro ab;rcases J.keys _ ab (by simp[aM])with⟨s,hs,e⟩|⟨o,ho,_⟩
   ·have:=w.lt s hs;have:=l9 e;omega
   cases ho
  have N:∀k,E.sec (aM W.next) k=none:=by
   grind[gI,Dk.sec,Dk.ar]
  have d0:gt E (S++bD op) (some ⟨W.next,i,[],[],0⟩):=⟨fun a U h1=>(by
    rcases J.keys a U h1 with h2|⟨o,ho,_⟩
    ·exact .inl h2
    ·cases ho),J.Ry,J.bd,J.cl,fun o ho=>(by
    cases ho;exact⟨fun s hs=>w.lt s hs,hi,Q8,⟨aac _,fun n hn=>by simp at hn,fun n _=>N _,fun n _=>N _⟩,List.nil_prefix,Q8⟩)⟩
  have hu:=rj i;have ae:=dI aa;obtain⟨r1,r2⟩:=Dw (q:=⟨W.next,i,0,[]⟩) (n:=n) d0 rfl rfl rfl Q8 Q8 (b:=aK i) ⟨hu,qo⟩ (recs':=[]) Q8 (by simp[eA,jL]) O;refine⟨fun a U=>by dsimp only;rw[r1 a U,s5 a U],?_⟩;rcases r2 with⟨Y,g2,g3,g4,g5,g6,g7,g8⟩|⟨Y,g2,X,g3,g4,g5⟩
  ·left
   have Z:=(ry ⟨W.next,i,0,[]⟩ (aK i) E).2.2;dsimp only[List.length_nil]at Z;refine⟨(Rv ⟨W.next,i,0,[]⟩ (aK i) E).1,qo,?_,g2,?_⟩
   ·dsimp only;rw[Y,<-w.code]
   refine⟨Y,g3,fun h=>(by cases h),fun o ho=>?_,fun s hs=>?_⟩
   ·grind
   dsimp only;rcases aao.1 hs with hs|hs
   ·have:=w.lt s hs;omega
   grind[bD]
  grind
 rw[aab (by rw[V];simp)];exact⟨fun a _=>O.2.1 a,.inr (.inl ⟨V,O⟩)⟩
def KR{W D S o n}(w:WI W D S (some o)){q}(hq:W.op=some q)(hf:q.full<=15)(h:cC (n+10) D){b}(hb:eq b<=512):
  (∀a,a%4≠1->(dJ W b D).2.1.sec a=D.sec a) /\
  (((dJ W b D).2.2=0/\(∃O,(dJ W b D).1={W with op:=some O,Ja:=W.Ja++[b]})/\cC n (dJ W b D).2.1/\WI (dJ W b D).1 (dJ W b D).2.1 S (some {o with Ja:=o.Ja++[b],T:=eA o.idx (o.Ja++[b])})) \/
   ((dJ W b D).2.2=30/\(dJ W b D).1.code=30/\(dJ W b D).2.1.dead=true/\∃N,o.T <+: N/\gt (dJ W b D).2.1 S (some {o with Ja:=o.Ja++[b],T:=N}))):=by
 obtain⟨O,q1,q2,q3,q4,q5,q6,q7⟩:=w.ops o rfl;obtain rfl:O=q:=by grind
 have hp:=qL hb
 have X:o.T++cJ b=eA o.idx (o.Ja++[b]):=by
  grind[eA,jL]
 obtain⟨d1,d2,d3,d4⟩:=w.Rf.op o rfl
 obtain⟨r1,r2⟩:=Dw (q:=O) (n:=n) w.Rf q2 q4 q5 q6 hf (b:=cJ b) hp (recs':=o.Ja++[b]) (fun r hr=>by
  grind) X h
 unfold dJ;rw[hq];dsimp only;refine⟨r1,?_⟩;rcases r2 with⟨J,U,V,Z,Y,g6,g7,g8⟩|⟨J,U,N,V,Z,Y⟩
 ·refine .inl ⟨J,⟨_,by rw[aab J,J,<-w.code]⟩,U,⟨J,V,fun h=>(by cases h),fun o' aa=>?_,fun s hs=>?_⟩⟩
  ·grind
  rcases aao.1 hs with hs|hs
  ·exact w.lt s<|aao.2 (.inl hs)
  simp only[bD,aaC]at hs;rw[hs];exact w.lt ⟨o.num,o.idx,o.Ja⟩ (by simp[bD])
 exact .inr ⟨J,J,U,N,V,Y⟩
end
section
def Vk(first:Nat)(Ja:List dm)(sn:bE)(l:List ah):Vl->Prop
 |none=>Ja=[]/\first=sn.idx+1/\l=[]
 |some (f,r)=>f<=first/\first<=sn.idx+1/\sn.idx+1<=f+eq r/\Ja=r.drop (first-f)/\r.drop (sn.idx+1-f)=l.map ah.bytes
def Vk.fin{first Ja sn l v}(h:Vk first Ja sn l v):first+eq Ja=sn.idx+1+eq l/\first<=sn.idx+1:=by
 cases v with
 |none=>obtain⟨J,N,O⟩:=h;simp_all
 |some x=>
  obtain⟨f,r⟩:=x;obtain⟨J,N,O,V,U⟩:=h;have X:=congrArg List.length U
  grind
def Vk.Ud{first Ja sn l x}(h:Vk first Ja sn l (some x)):x.1+eq x.2=sn.idx+1+eq l:=by
 obtain⟨f,r⟩:=x;obtain⟨N,O,U,V,J⟩:=h;have X:=congrArg List.length J
 grind
def Vk.lv{first Ja sn l v}(h:Vk first Ja sn l v):LV sn v l:=by
 cases v with
 |none=>exact h.2.2
 |some x=>
  obtain⟨f,r⟩:=x;obtain⟨O,U,J,V,N⟩:=h;exact⟨qo,J,N⟩
def Vk.cut{first Ja sn l v}(h:Vk first Ja sn l v){i}(Z:sn.idx+1<=i)(V:i<=first+eq Ja):
  iA v i/\Vk first (Ja.take (i-first)) sn (l.take (i-(sn.idx+1))) (some (ef v (i,[]))):=by
 have hf:=h.fin;cases v with
 |none=>
  obtain⟨J,N,O⟩:=h;subst J N O;simp only[aaT]at V;obtain rfl:i=sn.idx+1:=qo
  exact⟨trivial,aac _,aac _,Q8,by simp[ef],by simp[ef]⟩
 |some x=>
  obtain⟨f,r⟩:=x;obtain⟨J,N,O,Y,U⟩:=h;have X:=congrArg List.length U;rw[aar,aaM]at X;unfold ef iA;dsimp only;rw[aaa qo,aaw];refine⟨qo,J,N,by rw[aal];omega,?_,?_⟩
  all_goals grind[List.drop_take,List.map_take]
def H9(v i rs b):ef v (i,rs++[b])=((ef v (i,rs)).1,(ef v (i,rs)).2++[b]):=by
 cases v with
 |none=>rfl
 |some x=>
  grind[ef]
def Vk.snoc{first Ja sn l v i rs}(h:Vk first Ja sn l (some (ef v (i,rs))))(e:ah):
  Vk first (Ja++[e.bytes]) sn (l++[e]) (some (ef v (i,rs++[e.bytes]))):=by
 rw[H9];generalize ef v (i,rs)=x at h;obtain⟨f,r⟩:=x;obtain⟨J,N,O,U,V⟩:=h;dsimp only;refine⟨J,N,by rw[aaj];omega,?_,?_⟩
 all_goals grind
theorem Db:∀(a b:List ah) (i t:Nat),eH i t (a++b)=0->eH i t a=0
 |[],_,_,_,_=>rfl
 |e::a,b,i,t,h=>by
  obtain⟨N,O,J⟩:=rD h;unfold eH;rw[aaa qo];exact Db a b _ _ J
theorem ig.take{sn l}(h:ig sn l)(k):ig sn (l.take k):=
 ⟨Db (l.take k) (l.drop k) _ _ (by rw[aaE];exact h.1),fun e J=>h.2 e (aaS J)⟩
def dT.mono{S op sn}{Q':List ah->Prop}(h:dT S op sn Q)(U:∀l,Q l->Q' l):dT S op sn Q':=fun t ht=>by
 obtain⟨J,l,N,O⟩:=h t ht;exact⟨J,l,U l N,O⟩
def J3{S sn l first Ja}(ok:fK none (S.map Sg.v))(X:Vk first Ja sn l (er none (S.map Sg.v)))(g:ig sn l)(hq:Q l){i}(Y:sn.idx+1<=i)(Z:i<=first+eq Ja)(h3:i<=bt)
  (U:Q (l.take (i-(sn.idx+1)))) (num T):dT S (some ⟨num,i,[],T,0⟩) sn Q/\fK none (S.map Sg.v++[(i,[])])/\Vk first (Ja.take (i-first)) sn (l.take (i-(sn.idx+1))) (er none (S.map Sg.v++[(i,[])])):=by
 obtain⟨k1,k2⟩:=X.cut Y Z
 have J:fK none (S.map Sg.v++[(i,[])]):=by
  rw[yi];exact⟨ok,k1,qo,trivial⟩
 have N:Vk first (Ja.take (i-first)) sn (l.take (i-(sn.idx+1))) (er none (S.map Sg.v++[(i,[])])):=by
  rw[ta];exact k2
 refine⟨fun t ht=>?_,J,N⟩;cases t with
 |none=>
  rw[Option.toList_none,aaw];exact⟨ok,l,hq,g,X.lv⟩
 |some t=>
  obtain⟨i',rs⟩:=t;obtain⟨V,j,e2,O,e4⟩:=ht;dsimp only at V e2 O;rw[List.take_nil]at O;subst V O;exact⟨J,_,U,g.take _,N.lv⟩
def MW{S o sn}(h:dT S (some o) sn Q){b l}(ok:fK none (S.map Sg.v++[(o.idx,o.Ja++[b])]))(X:Q l)(g:ig sn l)(Z:LV sn (er none (S.map Sg.v++[(o.idx,o.Ja++[b])])) l)(T):
  dT S (some {o with Ja:=o.Ja++[b],T:=T}) sn Q:=by
 intro t ht;cases t with
 |none=>exact h none ht
 |some t=>
  obtain⟨Y,rs⟩:=t;obtain⟨J,j,e2,N,O⟩:=ht;dsimp only at J e2 N O;subst J N;rw[aaj,abd]at e2;rcases aaz (eq o.Ja) j with hj|hj
  ·grind
  rw[aa3 hj];refine h (some (o.idx,o.Ja.take j)) ⟨I,j,hj,I,fun k U V=>(O k (by rw[aaj];omega) ?_)⟩
  grind
def cH.wi{vot0 M L D S op}(o:cH vot0 M L D S op):WI L.w D S op:=⟨o.Rh,o.Rf,o.Sz,o.ops,o.lt⟩
def cH.vk{vot0 M L D S op}(o:cH vot0 M L D S op):Vk L.w.first L.w.Ja L.sn L.l (er none ((S++bD op).map Sg.v)):=by
 rcases o.val with⟨J,N,O,U⟩|⟨f,r,J,N⟩
 ·rw[J];exact⟨N,O,U⟩
 rw[J];exact N
def cH.TK{vot0 M M' L D E S S' op op'}(o:cH vot0 M L D S op){W l}(w:WI W E S' op')(N:W.Jd=(S'++bD op').map fun s=>(s.num,s.idx))(hs:∀a,a%4≠1->E.sec a=D.sec a)
  (O:∀s∈S'++bD op',L.fr<=s.num) (U:L.fr<=W.next) (V:W.next<=M') (ok:fK none ((S'++bD op').map Sg.v)) (J:Vk W.first W.Ja L.sn l (er none ((S'++bD op').map Sg.v))) (g:ig L.sn l):cH vot0 M' {L with w:=W,l:=l} E S' op' where
 code:=o.code
 Rh:=w.code
 Jd:=N
 Rf:=w.Rf
 Sz:=w.Sz
 ops:=w.ops
 lt:=w.lt
 Sm:=O
 Sn:=U
 next:=V
 ok:=ok
 val:=by
  cases hv:er none ((S'++bD op').map Sg.v)with
  |none=>
   rw[hv]at J;refine .inl ⟨?_,J.1,J.2.1,J.2.2⟩;cases hx:S'++bD op' with
   |nil=>rfl
   |cons a q=>rw[hx,aay]at hv;exact absurd hv (vX (q.map Sg.v) (some (ef none a.v)) (fun e=>by cases e))
  |some x=>
   rw[hv]at J;exact .inr ⟨x.1,x.2,I,J⟩
 RG:=by rw[hs 0 Q9];exact o.RG
 RH:=by rw[hs 0 Q9];exact o.RH
 RJ:=o.RJ
 RL:=by rw[hs 4 Q9];exact o.RL
 RM:=by rw[hs 4 Q9];exact o.RM
 RD:=o.RD
 S9:=by rw[hs _ (by simp[bz])];exact o.S9
 Jj:=g
def cH.found{vot0 M M' L D E S S' op op'}(o:cH vot0 M L D S op)(U:M<=M')(N:M'<=c9)(J:L.sn.idx<=eB)(d:gt E S' op')(O:∀s∈S',L.fr<=s.num/\s.num<M')(ho:∀q,op'=some q->L.fr<=q.num/\q.num<M')(p:dT S' op' L.sn Q):eM E L.fr M' L.sn Q:=
 A6 d J N (by have:=o.Sn;have:=o.next;omega) O ho p
def cH.RE{vot0 M M' L D E S op}(o:cH vot0 M L D S op)(V:M<=M')(N:M'<=c9)(J:L.sn.idx<=eB)(p:dT S op L.sn Q)(d:gt E S op):eM E L.fr M' L.sn Q:=by
 refine o.found V N J d (fun s hs=>?_) (fun q X=>?_) p
 ·have O:=o.Sm s (aao.2 (.inl hs));have U:=o.lt s (aao.2 (.inl hs));have:=o.next;omega
 subst X;have O:=o.Sm ⟨q.num,q.idx,q.Ja⟩ (by simp[bD]);have U:=o.lt ⟨q.num,q.idx,q.Ja⟩ (by simp[bD]);have:=o.next;dsimp only at O U;omega
def oZ.Rf{D E}(h:oZ D E){S op}(d:gt D S op):gt E S op:=d.frame (fun n=>h.2.1 _) fun a J _=>h.2.2 a J
theorem cH.up{vot0 M M' L D S op}(o:cH vot0 M L D S op)(h:M<=M'):cH vot0 M' L D S op:={o with next:=aat o.next h}
end
section
def Eo{vot0 M M' n L D E S S' q op W}(o:cH vot0 M L D S op)(hM:M<=M')(Y:M'<=c9)(ak:L.sn.idx+eq L.l+1<eB)
  (w:WI W E S' (some q)) (am:W.Jd=(S'++bD (some q)).map fun s=>(s.num,s.idx)) (hs:∀a,a%4≠1->E.sec a=D.sec a) (N:∀s∈S'++bD (some q),L.fr<=s.num) (an:L.fr<=W.next) (ap:W.next<=M')
  (ok:fK none ((S'++bD (some q)).map Sg.v)) (U:Vk W.first W.Ja L.sn L.l (er none ((S'++bD (some q)).map Sg.v))) {Q:List ah->Prop} (p:dT S' (some q) L.sn Q) {e} (hq:Q (L.l++[e])) (g:ig L.sn (L.l++[e]))
  {k} (Z:W.op=some k) (hf:k.full<=15) (h:cC (n+10) E) (hb:eq e.bytes<=512):
  ((dJ W e.bytes E).2.2=0/\cC n (dJ W e.bytes E).2.1/\(∀a,a%4≠1->(dJ W e.bytes E).2.1.sec a=D.sec a)/\∃S1 O,cH vot0 M' {L with w:=(dJ W e.bytes E).1,l:=L.l++[e]} (dJ W e.bytes E).2.1 S1 O/\dT S1 O L.sn Q) \/
   ((dJ W e.bytes E).2.2=30/\(dJ W e.bytes E).2.1.dead=true/\(∀a,a%4≠1->(dJ W e.bytes E).2.1.sec a=D.sec a)/\eM (dJ W e.bytes E).2.1 L.fr M' L.sn Q):=by
 obtain⟨r1,r2⟩:=KR w Z hf h hb;have hv:(S'++bD (some q)).map Sg.v=S'.map Sg.v++[(q.idx,q.Ja)]:=by simp[bD,Sg.v]
 rw[hv]at ok U
 have ae:Vk W.first (W.Ja++[e.bytes]) L.sn (L.l++[e]) (er none (S'.map Sg.v++[(q.idx,q.Ja++[e.bytes])])):=by
  rw[ta]at U⊢;exact Vk.snoc U e
 have ad:fK none (S'.map Sg.v++[(q.idx,q.Ja++[e.bytes])]):=by
  have ag:=U.fin;rw[yi]at ok⊢;obtain⟨k1,k2,k3,_⟩:=ok;refine⟨k1,k2,?_,trivial⟩
  grind[mT,ta,Vk,er,eB,bt]
 have hS:∀s∈S',L.fr<=s.num/\s.num<M':=fun s hs=>⟨N s (aao.2 (.inl hs)),by have:=w.lt s (aao.2 (.inl hs));omega⟩
 have ab:L.fr<=q.num/\q.num<M':=by
  have h1:=N ⟨q.num,q.idx,q.Ja⟩ (by simp[bD]);have h2:=w.lt ⟨q.num,q.idx,q.Ja⟩ (by simp[bD]);dsimp only at h1 h2;omega
 have pos:∀T,dT S' (some {q with Ja:=q.Ja++[e.bytes],T:=T}) L.sn Q:=fun T=>MW p ad hq g ae.lv T;have J:∀a,a%4≠1->(dJ W e.bytes E).2.1.sec a=D.sec a:=fun a ha=>by rw[r1 a ha,hs a ha]
 rcases r2 with⟨V,⟨k',g2⟩,X,g4⟩|⟨V,g2,X,T1,g4,g5⟩
 ·refine .inl ⟨V,X,J,S',_,?_,pos (eA q.idx (q.Ja++[e.bytes]))⟩;have e1:(S'++bD (some {q with Ja:=q.Ja++[e.bytes],T:=eA q.idx (q.Ja++[e.bytes])})).map Sg.v=S'.map Sg.v++[(q.idx,q.Ja++[e.bytes])]:=by simp[bD,Sg.v]
  refine o.TK g4 ?_ J ?_ ?_ ?_ ?_ ?_ g
  all_goals grind[bD]
 refine .inr ⟨V,X,J,(o.found hM Y qo g5 hS (fun q' aa=>?_) (pos T1))⟩;cases aa;exact ab
def wU{V:Ae}{M n L D}{S:List Sg}{op:Option Og}(o:cH V M L D S op)(N:M+1<=c9)(O:L.sn.idx+eq L.l<eB)(p:dT S op L.sn Q)(Y:Q L.l){i}(h1:L.sn.idx+1<=i)(h2:i<=L.w.first+eq L.w.Ja)
  (Z:Q (L.l.take (i-(L.sn.idx+1)))) (h:cC (n+10) D):
  (∀a,a%4≠1->(L.w.begin i D).2.sec a=D.sec a)/\((∃k,k.full<=1/\(L.w.begin i D).1={L.w with op:=some k,next:=L.w.next+1,Jd:=L.w.Jd++[(L.w.next,i)]}/\cC n (L.w.begin i D).2/\WI (L.w.begin i D).1 (L.w.begin i D).2 (S++bD op) (some ⟨L.w.next,i,[],eA i [],0⟩) /\
   dT (S++bD op) (some ⟨L.w.next,i,[],eA i [],0⟩) L.sn Q/\fK none ((S++bD op).map Sg.v++[(i,[])])/\Vk L.w.first (L.w.Ja.take (i-L.w.first)) L.sn (L.l.take (i-(L.sn.idx+1))) (er none ((S++bD op).map Sg.v++[(i,[])]))) \/
   ((L.w.begin i D).1.code=30/\(L.w.begin i D).2.dead=true/\eM (L.w.begin i D).2 L.fr (M+1) L.sn Q)):=by
 have aa:=o.vk.fin;have hi:i<=bt:=by unfold bt;unfold eB at O;omega
 obtain⟨r1,r2⟩:=KM o.wi h hi;have U:=fun T=>J3 o.ok o.vk o.Jj Y h1 h2 hi Z L.w.next T;refine⟨r1,?_⟩;rcases r2 with⟨k,X,J,g3,g4⟩|⟨X,J⟩|⟨X,J,T1,g3,g4⟩
 ·obtain⟨b1,b2,b3⟩:=U (eA i [])
  simp_all
 ·exact .inr ⟨X,J.1,o.RE qo N qo p (J.Rf o.Rf)⟩
 have hn:=o.next;have ab:=o.Sn;refine .inr ⟨X,J,o.found qo N qo g4 (fun s hs=>?_) (fun q Y=>?_) (U T1).1⟩
 ·have h3:=o.Sm s hs;have h4:=o.lt s hs;omega
 cases Y;dsimp only;omega
def NP{vot0 M n L D S op}(o:cH vot0 M L D S op)(N:M+1<=c9)(J:L.sn.idx+eq L.l+1<eB)(p:dT S op L.sn Q)(hq:Q L.l){e}(O:Q (L.l++[e]))(g:ig L.sn (L.l++[e]))(h:cC (n+20) D):
  ((L.w.append e.bytes D).2.2=0/\cC n (L.w.append e.bytes D).2.1/\(∀a,a%4≠1->(L.w.append e.bytes D).2.1.sec a=D.sec a)/\∃Z V,cH vot0 (M+1) {L with w:=(L.w.append e.bytes D).1,l:=L.l++[e]} (L.w.append e.bytes D).2.1 Z V/\dT Z V L.sn Q) \/
   ((L.w.append e.bytes D).2.2=30/\(L.w.append e.bytes D).2.1.dead=true/\(∀a,a%4≠1->(L.w.append e.bytes D).2.1.sec a=D.sec a)/\eM (L.w.append e.bytes D).2.1 L.fr (M+1) L.sn Q):=by
 have aa:=o.vk.fin;have hb:=HC (g.2 e Q8);have ad:=o.next;have Y:=o.Sn;have ab:L.w.first+eq L.w.Ja<bt:=by unfold bt;unfold eB at J;omega
 unfold Wl.append;rw[aaa (by rw[o.Rh];simp),aaa qo,aaa qo]
 by_cases hn:np L.w.op=true
 ·rw[aab hn];have U:L.l.take (L.w.first+eq L.w.Ja-(L.sn.idx+1))=L.l:=aaA qo;obtain⟨b0,b1⟩:=wU (n:=n+10) (i:=L.w.first+eq L.w.Ja) o N qo p hq qo (aac _) (by rw[U];exact hq) h;rcases b1 with⟨k,g1,X,g3,g4,g5,g6,g7⟩|⟨g1,X,g3⟩
  ·rw[aaa (by rw[g4.code];simp)];rw[U,ab0,aaG]at g7;have hv:((S++bD op)++bD (some ⟨L.w.next,L.w.first+eq L.w.Ja,[],eA (L.w.first+eq L.w.Ja) [],0⟩)).map Sg.v=(S++bD op).map Sg.v++[(L.w.first+eq L.w.Ja,[])]:=by simp[bD,Sg.v]
   refine Eo (n:=n) o qo N J g4 ?_ b0 ?_ ?_ ?_ (by rw[hv];exact g6) (by rw[hv,X];exact g7) g5 O g (k:=k) (by rw[X]) qo g3 hb
   ·rw[X];dsimp only;rw[aa1,<-o.Jd];simp[bD]
   ·intro s hs;rcases aao.1 hs with hs|hs
    ·exact o.Sm s hs
    simp_all[bD]
   all_goals grind
  simp_all
 rw[aaa hn];cases hop:op with
 |none=>exact absurd (by rw[o.Sz hop];rfl) hn
 |some q=>
  subst hop;obtain⟨k,k1,_⟩:=o.ops q rfl
  have hf:k.full<=15:=by
   grind[np]
  exact Eo (n:=n) o qo N J o.wi o.Jd (fun _ _=>I) o.Sm Y qo o.ok o.vk p O g k1 hf (h.mono qo) hb
def JA{vot0 M n L D S op}(o:cH vot0 M L D S op)(X:M+1<=c9)(ab:L.sn.idx+eq L.l<eB)(p:dT S op L.sn Q)(hq:Q L.l){i}(h1:L.sn.idx+1<=i)(h2:i<=L.sn.idx+eq L.l)(Y:Q (L.l.take (i-(L.sn.idx+1))))(h:cC (n+10) D):
  ((L.w.truncate i D).2.2=0/\cC n (L.w.truncate i D).2.1/\(∀a,a%4≠1->(L.w.truncate i D).2.1.sec a=D.sec a)/\∃Z N,cH vot0 (M+1) {L with w:=(L.w.truncate i D).1,l:=L.l.take (i-(L.sn.idx+1))} (L.w.truncate i D).2.1 Z N/\dT Z N L.sn Q) \/
   ((L.w.truncate i D).2.2=30/\(L.w.truncate i D).2.1.dead=true/\(∀a,a%4≠1->(L.w.truncate i D).2.1.sec a=D.sec a)/\eM (L.w.truncate i D).2.1 L.fr (M+1) L.sn Q):=by
 have aa:=o.vk.fin;have ae:=o.next;have ad:=o.Sn;unfold Wl.truncate;rw[aaa (by rw[o.Rh];simp),aaa qo,aaa qo];obtain⟨U,b1⟩:=wU (n:=n) (i:=i) o X qo p hq h1 qo Y h;dsimp only;rcases b1 with⟨k,g1,O,V,J,g5,g6,g7⟩|⟨g1,O,V⟩
 ·rw[aab J.code];have hv:((S++bD op)++bD (some ⟨L.w.next,i,[],eA i [],0⟩)).map Sg.v=(S++bD op).map Sg.v++[(i,[])]:=by simp[bD,Sg.v]
  refine .inl ⟨J.code,V,U,_,_,o.TK (W:={ (L.w.begin i D).1 with Ja:=L.w.Ja.take (i-L.w.first)}) ⟨J.code,J.Rf,J.Sz,J.ops,J.lt⟩ ?_ U ?_ ?_ ?_ (by rw[hv];exact g6) (by rw[hv,O];exact g7) (o.Jj.take _),g5⟩
  ·rw[O];dsimp only;rw[aa1,<-o.Jd];simp[bD]
  ·intro s hs;rcases aao.1 hs with hs|hs
   ·exact o.Sm s hs
   simp_all[bD]
  all_goals grind
 exact .inr ⟨g1,O,U,V⟩
end
end Go.En
