/-
  Part 4.
-/
import Derived.Test.YtaifbolghjccjaaGreatSo3
set_option linter.defProp false
set_option linter.unusedSectionVars false
set_option linter.unusedSimpArgs false
set_option linter.unusedVariables false
set_option maxRecDepth 4000
namespace Go.En
open Go.Proofs Go.Proofs.YtaifbolghjccjaaGreat
open List renaming length -> eq
attribute [local irreducible] Code.wp wpList Calls
variable {K:PH}{w0:World}{hs:Ac}{P:Program}
section
def G8(o:Nat×Bool):Value:=.tuple #[.int .u64 o.1,.bool o.2]
def wS{J:PH}{aL cL l}(N:dD 4 51 (eI K) J aL (eq l) cL l){k e}(O:l[k]?=some e):
  ∃a ao cap,aL=some a/\aj K ao (eq e.data) cap 1 (bv e.data)/\∀(j:Nat) v,(e.v ao cap).toList[j]?=some v->co J ((a.add (k*4)).add j) v:=by
 have V:k<eq l:=(aav.1 O).1;obtain⟨a,rfl⟩:=N.SL.addr qo Q9;obtain⟨c,⟨ao,cap,rfl,x⟩,_,U⟩:=N.SL.cells O;exact⟨a,ao,cap,I,x,U⟩
def nV{m:Ac}(lb db L D c)(hb:bh c L)(hc:c<=1000000000)(hm:d7 K lb db L D m)(i)(hi:i<2^64):
  ai w0 89 [Rp lb,.int .u64 (i:Nat)] K (m++hs) (fun v K' hs'=>K'=K/\hs'=m++hs/\v=G8 (Ka L.sn L.l i)):=by
 have O:=hm;obtain⟨wb,ad,eb,aV,cV,aD,cD,aL,cL,wh,hh,eh,gl,dh,rfl,hW,hH,hE,X,hD,xV,xD⟩:=hm;have h2:=hb.len;rw[EW];refine cP Tryz.func89 ?_;refine cl 2 I (sA lb db L D c hb hc O i hi) ?_;rintro ae aa Z ⟨rfl,rfl,rfl⟩;refine au ?_;refine bc 0 I (fun e2=>?_) (fun e2=>?_)
 ·refine au ?_;rw[aab qo];refine au ?_;exact bS I I I ⟨I,I,I⟩
 refine au ?_;rw[aaa qo];cases hk:fA L.sn L.l i with
 |none=>
  refine au ?_;exact bS I I I ⟨I,I,I⟩
 |some k=>
  obtain⟨g1,g2,g3,V⟩:=q8 hk;obtain⟨e,Y⟩:∃e,L.l[k]?=some e:=⟨L.l[k],aai V⟩;obtain⟨a,ao,cap,rfl,x,J⟩:=wS X Y;refine au ?_;obtain⟨xs,U⟩:=X.SL.Ni;refine dZ 1 k I I U V Q9 fun ab N=>?_;cases N;refine ld 1 I (.inr ⟨4,I⟩) (J 1 _ I) (au ?_);refine bS I I I ⟨I,I,?_⟩;dsimp only;rw[Y]
  rfl
def NA{m:Ac}(lb db L D c)(hb:bh c L)(hc:c<=1000000000)(hm:d7 K lb db L D m)(i)(hi:i<2^64):
  ai w0 19 [Rp lb,.int .u64 (i:Nat)] K (m++hs) (fun v Y hs'=>Le K Y/\hs'=m++hs/\∃e ao cap t,v=.tuple #[.agg (ah.v e ao cap),.bool t]/\aj Y ao (eq e.data) cap 1 (bv e.data) /\
   match fA L.sn L.l i with
   |none=>t=false/\e=ah.zero
   |some k=>t=true/\L.l[k]?=some e):=by
 have V:=hm;obtain⟨wb,ak,eb,aV,cV,aD,cD,aL,cL,wh,hh,eh,gl,dh,rfl,hW,hH,hE,hG,hD,xV,xD⟩:=hm;have h2:=hb.len;refine enter Tryz.func19 qk I I I (acY (al 0 (.agg Il) I qk fun b4=>?_));refine fin 1 I (acV (Bi (aaQ (l₁:=[_,_,_,_,_,_])).symm (cl 2 I (sA lb db L D c hb hc V i hi) ?_)));rintro an ad aa ⟨rfl,rfl,rfl⟩;cases hk:fA L.sn L.l i with
 |none=>
  refine fin 5 I (acU (fin 2 I (th (dk I ?_))));refine acY (Bi (aaQ (l₁:=[_,_,_,_,_,_])) (bd 0 (.agg Il) I Aq ?_));refine bA 0 0 I I qk I I ?_;exact fin 1 I (ac0 (rT (gk 0 1 I I I I qk ⟨Cg _,I,ah.zero,none,0,false,I,aj.nil _ _ _ _,I,I⟩)))
 |some k=>
  obtain⟨g1,g2,g3,Z⟩:=q8 hk;obtain⟨e,U⟩:∃e,L.l[k]?=some e:=⟨L.l[k],aai Z⟩;obtain⟨a,ao,cap,rfl,x,J⟩:=wS hG U;have am:=mY (hb.Jg e (aam U)).1.2.2;refine fin 5 I (acU (fin 2 I (th (bP I ?_))));refine sk (acV (Bi (aaQ (l₁:=[_,_,_,_,_,_])) (aX 3 1 I I I ?_)));obtain⟨xs,X⟩:=hG.SL.Ni;refine dZ 1 k I I X Z Q9 fun ag O=>?_;cases O;refine fu 0 (e.v ao cap).toList I qk (.inr ⟨5,I⟩) J (cl 0 I (yw e ao cap (.inl I) x qo) ?_);rintro ap ae ab ⟨le,rfl,N,c2,rfl,x2⟩;refine bA 0 0 I I qk I I ?_;exact fin 1 I (ac0 (gk 0 1 I I I I qk ⟨le,I,e,N,c2,true,I,x2,I,U⟩))
def ze{hv:PH}{m:Ac}(lb db L D c)(hb:bh c L)(hc:c<=1000000000)(hm:d7 K lb db L D m)(s)(hi:s.idx<2^64)(aV cV aD cD):
  ai w0 158 [Rp lb,.agg (dg s aV cV aD cD)] K (m++hs) (fun v X hs'=>X=K/\hs'=m++hs/\v=.bool (fj L.sn L.l s)):=by
 have U:=hm;obtain⟨wb,ae,eb,aa,ad,Z,ab,aL,cL,wh,hh,eh,gl,dh,rfl,hW,hH,hE,hG,hD,xV,xD⟩:=hm;refine ent Tryz.func158 ?_;refine acY (bx 0 I fun b3=>?_);refine Ew (pt b3 (dg s aV cV aD cD) 48::([_,_,_,_,_,_]++hs)) I (fin 1 I (acV (aX 2 0 I I I ?_)));refine Bi (aaQ (l₁:=[_,_,_,_,_,_])).symm (cl 0 I (nV lb db L D c hb hc U s.idx hi) ?_);rintro ag Y V ⟨rfl,rfl,rfl⟩;refine Bi (aaQ (l₁:=[_,_,_,_,_,_])) ?_;unfold fj;obtain⟨T,O⟩:=a9 (Ka L.sn L.l s.idx);rw[<-O];obtain⟨t,b⟩:=T;refine au ?_;cases b with
 |false=>
  exact fin 8 I<|ac0<|Bh (af I I ⟨I,I,I⟩)
 |true=>
  refine au ?_;refine aw 0 I fun J N=>fin 2 I (ac0 (Bh (af I I ⟨I,I,?_⟩)));have:J=decide (t=s.term):=by rw[acn,N];simp;omega
  rw[this]
  rfl
def O2{m:Ac}(lb db L D c)(hb:bh c L)(V:c<=1000000000)(hm:d7 K lb db L D m)(i)(hi:i<2^64):
  ai w0 196 [Rp lb,.int .u64 (i:Nat)] K (m++hs) (fun v K' hs'=>K'=K/\hs'=m++hs/\v=.int .u64 (qE L.sn L.l i:Nat)):=by
 have J:=hm;obtain⟨wb,ad,eb,aV,cV,aD,cD,aL,cL,wh,hh,eh,gl,dh,rfl,hW,hH,hE,hG,hD,xV,xD⟩:=hm;have h2:=hb.len;unfold qE;refine enter Tryz.func196 qk I I I (acY (fin 1 I (acU (cl 2 I (pW lb db L D c hb V J) ?_))));rintro aA an ae ⟨rfl,rfl,rfl⟩;refine aw 0 I fun av Y=>fin 0 I (th (ax Y I (fun e2=>?_) (fun e2=>?_)))
 ·rw[aab qo];refine acY (cl 1 I (pW lb db L D c hb V J) ?_);rintro aE ap ag ⟨rfl,rfl,rfl⟩;exact fin 1 I (ac0 (rT (af I I ⟨I,I,I⟩)))
 rw[aaa qo];refine sk (acV (cl 2 I (nV lb db L D c hb V J i hi) ?_));rintro aF X ak ⟨rfl,rfl,rfl⟩;obtain⟨T,ab⟩:=a9 (Ka L.sn L.l i);rw[<-ab];obtain⟨t,b⟩:=T;obtain⟨R,hR⟩:=a9 (lp L.sn L.l t i);dsimp only;rw[<-hR];refine fin 5 I (th (sq (bk ?_)))
 refine loop (σ:=Nat) (fun j=>[(0,Rp lb),(1,.int .u64 (j:Nat)),(5,.int .u64 t)]) (fun _=>X)
  (fun _=>[pt lb (eO wb db ad eb L aV cV aD cD aL cL) 119,wh,hh,eh,gl,dh]++hs) (fun j=>j<=i/\lp L.sn L.l t j=R) (fun j=>j) i ⟨aac _,hR.symm⟩ ⟨rfl,rfl,rfl,trivial⟩ rfl rfl ?_
 rintro j ⟨hj,N⟩;refine sq (acY (aX 5 0 I I I (aw 0 I fun ay Z=>fin 0 I (th (ax Z I (fun e4=>?_) (fun e4=>?_))))))
 ·obtain⟨j,rfl⟩:∃k,j=k+1:=⟨j-1,qo⟩;have O:lp L.sn L.l t (j+1)=if(Ka L.sn L.l j).1≠t then j else lp L.sn L.l t j:=by rw[lp,aab qo]
  rw[O]at N;refine sk (th (bk (acY (ar 1 I (FO (a:=j+1) qo qo) ?_))));rw[show j+1-1=j from rfl];refine fin 1 I (acV (cl 2 I (nV lb db L D c hb V J j qo) ?_));rintro aN aq am ⟨rfl,rfl,rfl⟩;obtain⟨U,hU⟩:=a9 (Ka L.sn L.l j);rw[<-hU]at N⊢;obtain⟨u,b'⟩:=U;dsimp only at N;refine fin 5 I (acV (aw 2 I fun az aa=>fin 0 I (th (ax aa I (fun e6=>?_) (fun e6=>?_)))))
  ·rw[aab qo]at N;subst N;exact ex (xn I (xt (xb (acV (fin 2 I (ac0 (af I I ⟨I,I,I⟩)))))))
  rw[aaa qo]at N;exact sk (bl (bn (x:=j+1) j sb I I ⟨qo,N⟩ qo))
 have O:lp L.sn L.l t j=j:=by
  cases j with
  |zero=>rfl
  |succ j=>rw[lp,aaa qo]
 rw[O]at N;subst N;exact ex (xt (xt (xb (acV (fin 2 I (ac0 (af I I ⟨I,I,I⟩)))))))
end
section
def lR(e:ah):Prop:=e.idx<=ac/\e.term<=ac/\eq e.data<2^40
def nI{e}:(iJ e).isSome=true↔e.ok:=by unfold iJ;split<;>simp_all
theorem bh.Jc{c L}(o:bh c L)(D t v)(ht:t<=ac):bh c (L.Jc D t v).1:=by
 unfold Lg.Jc
 split
 ·exact o
 split
 ·exact o
 split
 ·exact o
 have hs:=cW.SC o.Qh 0 D (aK t++aK (v+1).toNat)
 split
 ·exact⟨o.w,hs,o.head,ht,aC,o.idx,o.st,o.Jq,o.data,o.place,o.fr,o.len,o.Jg⟩
 exact⟨o.w,hs,o.head,o.kt,o.kv,o.idx,o.st,o.Jq,o.data,o.place,o.fr,o.len,o.Jg⟩
theorem bh.sync{c L}(o:bh c L)(D):bh c (L.sync D).1:=by
 unfold Lg.sync
 split
 ·exact o
 exact⟨o.w.sync D,o.Qh,o.head,o.kt,o.kv,o.idx,o.st,o.Jq,o.data,o.place,o.fr,o.len,o.Jg⟩
def Ky{m:Ac}(lb db L D c)(hb:bh c L)(hc:c<=1000000000)(hm:d7 K lb db L D m)(i)(hi:i<2^64)(most)(aR : -9223372036854775808<=most/\most<=9223372036854775807):
  ai w0 16 [Rp lb,.int .u64 (i:Nat),.int .i64 most] K (m++hs)
   (fun v K' hs'=>Le K K'/\hs'=m++hs/\∃ao cap,v=.slice ao (eq (iK L.sn L.l i most)) cap/\dn 4 (eI K') K' ao (eq (iK L.sn L.l i most)) cap (iK L.sn L.l i most)):=by
 have ap:=hm;obtain⟨wb,Y,eb,aV,cV,aD,cD,aL,cL,wh,hh,eh,gl,dh,rfl,hW,hH,hE,hG,hD,xV,xD⟩:=hm;have h2:=hb.len;refine cP Tryz.func16 ?_;refine cl 2 I (sA lb db L D c hb hc ap i hi) ?_;rintro aS N ay ⟨rfl,rfl,rfl⟩;unfold iK;cases hk:fA L.sn L.l i with
 |none=>
  refine au ?_
  refine loop (σ:=Unit) (fun _=>[(0,Rp lb),(2,.int .i64 most),(7,.slice none 0 0),(8,.int .i64 0),(9,.bool false)]) (fun _=>N)
   (fun _=>[pt lb (eO wb db Y eb L aV cV aD cD aL cL) 119,wh,hh,eh,gl,dh]++hs) (fun _=>True) (fun _=>0) () trivial sb rfl rfl ?_
  rintro⟨⟩ _;refine au ?_;exact af I I ⟨Cg _,I,none,0,I,dn.nil _ _ _ _⟩
 |some k=>
  obtain⟨g1,g2,g3,g4⟩:=q8 hk;dsimp only;obtain⟨X,hX⟩:=a9 ((L.l.drop k).take most.toNat);have aN:eq X=min most.toNat (eq L.l-k):=by rw[hX,aal,aar]
  rw[<-hX];refine fin 5 I (th (sq (bk (Es ?_))))
  refine loop (σ:=Nat×(Ab×Nat×PH)×PH) (fun s=>[(0,Rp lb),(2,.int .i64 most),(7,.slice s.2.1.1 s.1 s.2.1.2.1),(8,.int .i64 (k+s.1:Nat)),(9,.bool true)]) (fun s=>s.2.2)
   (fun s=>s.2.1.2.2::([pt lb (eO wb db Y eb L aV cV aD cD aL cL) 119,wh,hh,eh,gl,dh]++hs)) (fun s=>s.1<=eq X/\Le N s.2.2/\dD 4 51 (eI s.2.2) s.2.1.2.2 s.2.1.1 s.1 s.2.1.2.1 (X.take s.1)) (fun s=>eq X-s.1)
   (0,(none,0,em),N) ⟨aad _,Cg _,dD.nil _ _⟩ ⟨rfl,rfl,rfl,rfl,rfl,trivial⟩ rfl rfl ?_
  rintro⟨j,⟨ao,cap,g⟩,K1⟩ ⟨hj,J,oG⟩;dsimp only at *;refine au ?_;refine bc 1 I (fun e2=>?_) (fun e2=>?_)
  ·refine aw 5 I fun aE ak=>fin 1 I<|th (ax ak I (fun e3=>?_) (fun e3=>?_))
   ·have an:j<eq X:=qo
    obtain⟨e,he⟩:∃e,X[j]?=some e:=⟨X[j],aai an⟩
    have Z:L.l[k+j]?=some e:=by
     rw[hX,abt qo,aa0]at he;exact he
    have aO:=mY (hb.Jg e (aam Z)).1.2.2;obtain⟨a,ae,ce,rfl,x,U⟩:=wS hG Z;refine au ?_;obtain⟨xs,aq⟩:=hG.SL.Ni;refine dZ 1 (k+j) I I aq qo Q9 fun aA am=>?_;cases am;refine fu 0 (e.v ae ce).toList I qk (.inr ⟨5,I⟩) U (cl 0 I (yw e ae ce (.inl I) (x.le J) qo) ?_);rintro aT ab az ⟨aa,rfl,O,c2,rfl,x2⟩;exact lit 0 (e.v O c2) I Q9 qk fun aF=>nB 0 1 (e.v O c2).toList e I I I (oG.imp fun _ _ h=>h.le aa) ⟨O,c2,I,x2⟩ I (by simp[ah.v,Value.oneCell']) I Q9 (by show(j+1)*48<=_;omega) As fun V ad ag av=>fin 1 rfl (acX (Bf (ar 1 rfl (ba (x:=((k+(j+1):Nat):Int)) qo) (fin 1 rfl (bl (bn (x:=(j,(ao,cap,g),K1)) (j+1,(V,ad,ag),ab) sb rfl rfl ⟨aC,J.trans aa,by dsimp only;rw[aaN,he];exact av⟩ aC))))))
   obtain rfl:j=eq X:=qo
   rw[aaG]at oG;exact ex (xt (xt (xb (acV (fin 2 I (ac0 (Ei fun K2 l1 l2=>af I I ⟨J.trans l1,I,ao,cap,I,oG.SL.le l2 fun _ _ h=>h.le l1⟩)))))))
  refine fin 7 I (th (bP I ?_));obtain rfl:j=eq X:=qo
  rw[aaG]at oG;exact ex (xt (xt (xb (acV (fin 2 I (ac0 (Ei fun K2 l1 l2=>af I I ⟨J.trans l1,I,ao,cap,I,oG.SL.le l2 fun _ _ h=>h.le l1⟩)))))))
def C9{w0:World}{K:PH}{hs:Ac}(i t)(hi:i<=ac)(ht:t<=ac)(ao cap x)(xs:dn 4 (eI K) K ao (eq x) cap x)(hx:∀e∈x,lR e)(aT:eq x<=2^40):
  ai w0 195 [.int .u64 (i:Nat),.int .u64 (t:Nat),.slice ao (eq x) cap] K hs (Ap K hs (.int .i64 (fQ i t x))):=by
 obtain⟨ys,ab⟩:=xs.Ni;refine cP Tryz.func195 ?_;refine loop (σ:=Nat) (fun j=>[(0,.int .u64 (i:Nat)),(1,.int .u64 (t:Nat)),(2,.slice ao (eq x) cap),(13,.slice ao (eq x) cap),(14,.int .i64 (eq x)),(15,.int .i64 (j:Nat))]) (fun _=>K) (fun _=>hs) (fun j=>j<=eq x/\∀e∈x.take j,e.ok) (fun j=>eq x-j) 0 ⟨aad _,Q8⟩ ⟨I,I,I,I,I,I,trivial⟩ I I ?_;rintro j ⟨hj,U⟩;refine acY (bc 0 I (fun e2=>?_) (fun e2=>?_))
 ·refine au ?_;have N:j<eq x:=qo
  obtain⟨e,V⟩:∃e,x[j]?=some e:=⟨x[j],aai N⟩;have O:=aam V;obtain⟨q1,q2,q3⟩:=hx e O;obtain⟨a,rfl⟩:=xs.addr qo Q9;obtain⟨c,⟨ae,ce,rfl,xe⟩,_,J⟩:=xs.cells V;refine au ?_;refine dZ 0 j I I ab N Q9 fun aD ag=>?_;cases ag;refine fu 0 (e.v ae ce).toList I qk (.inl I) J (al 0 (.agg Il) I qk fun b8=>?_);refine bA 0 0 I I qk I I ?_;refine fin 0 I (acV (fI 0 0 I I qk (cl 0 I (yd e ae ce q1 q2 (.inl I) xe q3) ?_)));rintro aY aA az ⟨rfl,aS,ay,aR,rfl,rfl,aV⟩;refine fin 5 I (acV (Bf (Bf (aw 1 I fun aF ak=>fin 0 I (th (ax ak I (fun e4=>?_) (fun e4=>?_)))))))
  ·have av:¬e.ok:=fun h=>e4 (ng.2 (nI.2 h));refine au ?_;refine af I I ⟨I,I,?_⟩;unfold fQ;rw[aaa];simp only[aaX,nI];exact fun h=>av (h e O)
  have aa:e.ok:=nI.1 (ng.1 (aag.1 e4));refine sk (acW (cZ j ?_));refine bn (x:=j) (j+1) sb I I ⟨qo,?_⟩ qo;rw[aaN,V];intro y Z;rcases aao.1 Z with Z|Z
  ·exact U y Z
  simp at Z;rw[Z];exact aa
 refine au ?_;obtain rfl:j=eq x:=qo
 rw[aaG]at U;have e0:fQ i t x=eH i t x:=by unfold fQ;rw[aab (by simp only[aaX,nI];exact U)]
 rw[e0];refine au ?_;obtain⟨R,hR⟩:=a9 (eH i t x);rw[<-hR];refine loop (σ:=Nat×Nat×Nat) (fun s=>[(0,.int .u64 s.2.1),(1,.int .u64 s.2.2),(2,.slice ao (eq x) cap),(27,.slice ao (eq x) cap),(28,.int .i64 (eq x)),(29,.int .i64 s.1)]) (fun _=>K) (fun _=>hs) (fun s=>s.1<=eq x/\s.2.1<=ac/\s.2.2<=ac/\eH s.2.1 s.2.2 (x.drop s.1)=R) (fun s=>eq x-s.1) (0,i,t) ⟨aad _,hi,ht,hR.symm⟩ ⟨I,I,I,I,I,I,trivial⟩ I I ?_;clear hi ht e0 hR;clear i t;rintro⟨j,i,t⟩ ⟨hj,hi,ht,Y⟩;dsimp only at *;refine acY (bc 0 I (fun e6=>?_) (fun e6=>?_))
 ·refine au ?_;have N:j<eq x:=qo
  obtain⟨e,V⟩:∃e,x[j]?=some e:=⟨x[j],aai N⟩;have O:=aam V;obtain⟨q1,q2,q3⟩:=hx e O;have hne:=(U e O).1;obtain⟨a,rfl⟩:=xs.addr qo Q9;obtain⟨c,⟨ae,ce,rfl,xe⟩,_,J⟩:=xs.cells V;rw[aaI N,show x[j]=e from by rw[aai N]at V;exact aaW V,eH]at Y;refine au ?_;refine dZ 0 j I I ab N Q9 fun aE am=>?_;cases am;refine fu 0 (e.v ae ce).toList I qk (.inl I) J (al 0 (.agg Il) I qk fun ad=>?_);refine bA 0 0 I I qk I I ?_;refine Ew (pt ad (e.v ae ce) 51::hs) I (au ?_);refine ar 1 I (v':=.int .u64 (((i+1)%18446744073709551616:Nat):Int)) (by rw[<-nC];rfl) (aw 0 rfl fun aL an=>?_);unfold ac at hi ht q1 q2
  refine' dB (q:=e.term<t) 1 5 43 [37,38] (an.trans (show _↔e.idx≠i+1 by omega)) I I I I I I I (fun _=>?x8) (fun aO aq=>?_)
  case x8=>
   refine au ?_;exact aw 1 I fun aN ap=>fin 1 I (bJ (ap.trans qo) I I I)
  refine fin 0 I<|th (ax aq I (fun X=>?_) (fun X=>?_))
  ·rw[aab X]at Y;refine acY (Bf (au ?_));rw[<-Y];exact af I I ⟨I,I,I⟩
  rw[aaa X]at Y;refine sk (th (bC [0] 6 [0,2,4,6,8,10] ?_));refine bT qk 1 0 I I I (bT qk 1 0 I I I (aI qk 2 I (acW (Bf (cZ j ?_)))));exact bn (x:=(j,i,t)) (j+1,e.idx,e.term) sb I I ⟨aC,q1,q2,Y⟩ aC
 refine au ?_;obtain rfl:j=eq x:=qo
 rw[aa6]at Y;refine au ?_;rw[<-Y];exact af I I ⟨I,I,I⟩
end
section
def Fa{s h hv:PH}(sb b area S)(Z:ju K sb b area S s)(O:S.bd)(D c)(o:D.Ok c)(hc:c<=1099511626)(hm:bM K b D h)(ha:area<=18446744073709551615)
  (v ao cap) (hl:eq v<2^40) (U:In K hs hv) (x:aj hv ao (eq v) cap 1 (bv v)):
  ai w0 194 [Rp sb,.slice ao (eq v) cap] K (s::h::hs)
   (fun u J hs'=>∃s' N,hs'=s'::N::hs/\Le K J/\ju J sb b area (S.save area D v).1 s'/\bM J b (S.save area D v).2.1 N/\u=.int .i64 (S.save area D v).2.2):=
 (Oe sb b area S Z O D c o hc hm ha v ao cap hl U x).mono fun u J hs' ⟨le,s',N,e,V,X,Y⟩=>⟨s',N,e,le,V,X,Y⟩
def FA{w0:World}{K hv hd':PH}{m hs:Ac}(lb db L D c)(hb:bh c L)(hc:c<=1000000000)(hm:d7 K lb db L D m)(s)(hi:s.idx<2^64)(aV cV aD cD)(xv:aj K aV (eq s.Jq) cV 1 (iv s.Jq))(ae:eq s.Jq<2^40)(ay:eq s.data<2^40):
  ai w0 157 [Rp lb,.agg (dg s aV cV aD cD)] K (m++hs) (fun v K' hs'=>K'=K/\hs'=m++hs/\v=.int .i64 (L.fits s)):=by
 have az:=hm;obtain⟨wb,ad,eb,N,U,J,O,aL,cL,wh,hh,eh,gl,dh,rfl,hW,hH,hE,hG,hD,xV,xD⟩:=hm;unfold Lg.fits;refine ent Tryz.func157 ?_;refine acY (bx 0 I fun b3=>?_);refine Ew (pt b3 (dg s aV cV aD cD) 48::([_,_,_,_,_,_]++hs)) I (au ?_);refine aw 0 I fun am X=>fin 1 I (th (ax X I (fun e2=>?_) (fun e2=>?_)))
 ·rw[aab e2];exact acY (aX 3 1 I I I (fin 1 I (ac0 (rB (rT (Bh (af I I ⟨I,I,I⟩)))))))
 rw[aaa e2];refine acY (fu 1 [.slice aV (eq s.Jq) cV] I qk (.inr ⟨0,I⟩) (nK _ I) (cl 0 I (Fj aV cV s.Jq (.inl I) xv ae) ?_));rintro aA ak ag ⟨rfl,rfl,rfl⟩;refine cG 0 ((bG s.Jq).isSome=false) I (by cases(bG s.Jq).isSome<;>simp) fun an Y=>?_
 refine' dB (q:=2097152<eq s.data) 1 5 25 [19,20] Y I I I I I I I (fun _=>?x3) (fun aq aa=>?_)
 case x3=>
  refine au ?_;exact aw 1 I fun ap Z=>fin 1 I (bJ (Z.trans qo) I I I)
 refine fin 1 I<|th (ax aa I (fun V=>?_) (fun V=>?_))
 ·rw[aab V];exact acY (fin 1 I (ac0 (rB (rT (Bh (af I I ⟨I,I,I⟩))))))
 rw[aaa V];refine sq (bO [pt b3 (dg s aV cV aD cD) 48,pt lb (eO wb db ad eb L N U J O aL cL) 119] 14 [0,2,4,6,8,10,12,14,16,18,20,22,24,26] Q8 qk qk (au ?_));refine dP qk 0 (s.idx<=L.sn.idx) I Q8 (fun h6=>?_) (fun h6=>?_)
 ·rw[aab (.inl h6)];exact aI qk 6 I (th (dk I (acY (fin 1 I (ac0 (rB (rT (Bh (af I I ⟨I,I,I⟩)))))))))
 refine au ?_;refine dU qk 0 (bX<=s.idx) I (by unfold bX;simp;omega) fun av ab=>au ?_;refine ax ab I (fun e7=>?_) (fun e7=>?_)
 ·rw[aab (.inr e7)];exact acY (fin 1 I (ac0 (rB (rT (Bh (af I I ⟨I,I,I⟩))))))
 rw[aaa qo];exact sk (bl (acV (fin 1 I (ac0 (Bh (af I I ⟨I,I,I⟩))))))
def E5{m:Ac}(lb db L D c)(hb:bh c L)(hc:c<=1000000000)(oD:aW c D)(hm:d7 K lb db L D m):
  ai w0 144 [Rp lb] K (m++hs) (fun v K' hs'=>K'=K/\∃m',hs'=m'++hs/\d7 K lb db (L.sync D).1 (L.sync D).2.1 m'/\v=.int .i64 (L.sync D).2.2):=by
 have V:=hm;obtain⟨wb,J,Y,aV,cV,aD,cD,aL,cL,wh,hh,eh,gl,dh,rfl,hW,hH,hE,hG,hD,xV,xD⟩:=hm;unfold Lg.sync;refine cP Tryz.func144 ?_;refine bc 0 I (fun e2=>?_) (fun e2=>?_)
 ·refine au ?_;rw[aab e2];refine au ?_;exact af I I ⟨I,_,I,V,I⟩
 refine au ?_;rw[aaa e2];have e2:=aag.1 e2;refine au ?_;refine cl 0 I (Ct.Te 1 4 I I (Oa wb db L.w hW D c oD.ok hc hb.w hD)) ?_;rintro ae ab Z ⟨X,N,rfl,rfl,U,O,rfl⟩;refine cl 0 I (lM lb wb db J Y L _ _ _ _) ?_;rintro ag ad aa ⟨_,rfl,rfl,rfl,rfl⟩;have ed:fJ L.code (L.w.sync D).1.code=(L.w.sync D).1.code:=by unfold fJ;rw[aab e2]
 rw[ed];refine au ?_;exact af I I ⟨I,[_,_,_,_,_,_],I,⟨wb,J,Y,aV,cV,aD,cD,aL,cL,X,hh,eh,gl,N,I,U,hH,hE,hG,O,xV,xD⟩,I⟩
def JL{w0:World}{K:PH}{m hs:Ac}(lb db L D c)(hb:bh c L)(hc:c<=1000000000)(oD:aW c D)(hm:d7 K lb db L D m)(t v)(ht:t<=ac)(hv : -9223372036854775808<=v/\v<=9223372036854775807):
  ai w0 136 [Rp lb,.agg #[.int .u64 (t:Nat),.int .i64 v]] K (m++hs) (fun u K' hs'=>Le K K'/\∃m',hs'=m'++hs/\d7 K' lb db (L.Jc D t v).1 (L.Jc D t v).2.1 m'/\u=.int .i64 (L.Jc D t v).2.2):=by
 have U:=hm;obtain⟨wb,J,eb,aV,cV,aD,cD,aL,cL,wh,hh,eh,gl,dh,rfl,hW,hH,hE,hG,hD,xV,xD⟩:=hm;unfold Lg.Jc;refine enter Tryz.func136 qk I I I (acY (bx 0 I fun b3=>?_));refine Ew (pt b3 #[.int .u64 (t:Nat),.int .i64 v] 112::([_,_,_,_,_,_]++hs)) I (fin 1 I (th (sq (bk (acY (aX 3 1 I I I (aw 0 I fun aS ag=>fin 1 I (th (ax ag I (fun e2=>?_) (fun e2=>?_))))))))))
 ·rw[aab e2];exact acY (aX 3 1 I I I (fin 1 I (ac0 (rB (rT (Bh (af I I ⟨Cg _,_,I,U,I⟩)))))))
 rw[aaa e2];have e2:=aag.1 e2;refine acY (aX 1 0 I I I (aw 0 I fun aT ak=>?_))
 refine' dB (q:=7<=v) 1 4 24 [19,20] ak I I I I I I I (fun _=>?x4) (fun a0 an=>?_)
 case x4=>
  exact aX 1 0 I I I (aw 0 I fun aY am=>fin 1 I<|bJ (am.trans qo) I I I)
 refine fin 1 I<|th (ax an I (fun e6=>?_) (fun e6=>?_))
 ·rw[aab e6];exact acY (fin 1 I (ac0 (rB (rT (Bh (af I I ⟨Cg _,_,I,U,I⟩))))))
 rw[aaa e6];refine sq (bO [pt b3 #[.int .u64 (t:Nat),.int .i64 v] 112,pt lb (eO wb db J eb L aV cV aD cD aL cL) 119] 9 [0,2,4,6,8,10,12,14,16] Q8 qk qk (bT qk 1 0 I I I (bT qk 4 1 I I I (dU qk 0 (t<L.kt) I Q8 fun a1 ap=>aI qk 1 I (th (ax ap I (fun e7=>?_) (fun e7=>?_)))))))
 ·rw[aab e7];exact acY (fin 1 I (ac0 (rB (rT (Bh (af I I ⟨Cg _,_,I,U,I⟩))))))
 rw[aaa e7];obtain⟨u,rfl⟩:∃u:Nat,v=((u:Nat):Int)-1:=⟨(v+1).toNat,qo⟩;have eu:(((u:Nat):Int)-1+1).toNat=u:=qo
 rw[eu]
 have a5:eq (aK t++aK u)<=20:=by
  unfold ac at ht;have h1:=dI (n:=t) qo;have h2:=dI (n:=u) qo;rw[aaj];omega
 obtain⟨R,hR⟩:=a9 (L.Qh.save 0 D (aK t++aK u));unfold ac at ht;refine sk (bl (th (Es (sq (bO [pt b3 #[.int .u64 (t:Nat),.int .i64 (((u:Nat):Int)-1)] 112] 9 [0,2,6,8,10,12,5,15,16] Q8 qk qk (bT qk 1 0 I I I (bT qk 1 0 I I I (bF qk 0 I (v':=.int .i64 u) (by rw[show((u:Nat):Int)-1+1=((u:Nat):Int)from qo];exact ba qo) (bF qk 0 I (bL qo) (aB qk 0 I (cl 0 I (kU none 0 [] t (aJ.nil _ _) qo Q9) ?_)))))))))));rintro a6 aF ay ⟨a3,rfl,rfl,V,ad,rfl,ab⟩;rw[abl]at ab⊢;refine aP Q8 I (aB qk 0 I (cl 0 I (kU V ad (aK t) u ab qo (by have:=dI (n:=t) qo;omega)) ?_));rintro bb aN az ⟨a4,rfl,rfl,X,ae,rfl,av⟩;refine aP Q8 I (aI qk 1 I (acU (aX 4 2 I I I (cl 1 I (Ct.Te 4 6 I I (Fa J db 0 L.Qh hH hb.Qh D c oD.ok qo hD qo (aK t++aK u) X ae qo (.inr ⟨0,I⟩) av.Ni)) ?_))))
 rintro bi aO aA ⟨aa,Y,rfl,le,O,N,rfl⟩;rw[<-hR]at O N⊢;refine cl 0 I (Er 2 I (lM lb wb db J eb L _ _ _ _)) ?_;rintro bm aR aE ⟨_,rfl,rfl,rfl,rfl⟩;have ed:fJ L.code R.2.2=R.2.2:=by unfold fJ;rw[aab e2]
 rw[ed];refine aw 0 I fun a2 aq=>fin 0 I (th (ax aq I (fun Z=>?_) (fun Z=>?_)))
 ·rw[aab Z];refine rg (fI 1 1 I I qk (lX 2 2 I I qk (by simp[jg]) (fun v hv=>by simp at hv;rcases hv with rfl|rfl<;>rfl) (fin 0 rfl (acV (aX 3 2 rfl rfl rfl (fin 1 rfl (ac0 (Bh (Bh ?_)))))))));refine af I I ⟨le,[_,_,_,_,_,_],I,⟨wb,J,eb,aV,cV,aD,cD,aL,cL,wh,aa,eh,gl,Y,?_,hW.le le,O,hE.le le,hG.imp fun _ _ h=>h.le le,N,xV.le le,xD.le le⟩,?_⟩
  ·rw[Z,<-e2];rfl
  show Value.int .i64 R.2.2=_;rw[Z]
 rw[aaa Z];refine sk (acV (aX 3 2 I I I (fin 1 I (ac0 (Bh (Bh ?_))))));exact af I I ⟨le,[_,_,_,_,_,_],I,⟨wb,J,eb,aV,cV,aD,cD,aL,cL,wh,aa,eh,gl,Y,I,hW.le le,O,hE.le le,hG.imp fun _ _ h=>h.le le,N,xV.le le,xD.le le⟩,I⟩
end
section
def nS{n l o}{t:Nat}{x i v u}(J:o.op=.field t x i)(U:ev l x=some v)(O:∀w,(Instr.field t v i).run P w=.ok u w):∀A w,Ag n l A->(execOp A.eval o).run P w=.ok (.value u) w:=by
 intro A w N;simp only[execOp,J,N.ev U];rw[aax,O]
 rfl
section
variable {P:Program}{w0:World}{fn:Func}{R:Ao}{n:Nat}{l:Sl}{K:PH}{hs:Ac}
def Fk{T:be}[hT:a8 P T](i j:Nat){t ty b O u N J U:Nat}{k x c fr Th}(hr:fn.results=#[.cell t ty,.cell u N])(hv:look l t=some (Rp b))(hu:look l u=some (Rp J))(hi:hs[i]?=some (pt b c O fr))(hj:hs[j]?=some (pt J #[x] U Th))
  (hm:i7 P ty c.size=true) (hk:Ry T.kinds N=some k) (Z:k.one=true):∀a w,Ag n l a->a7 w0 w K hs->(results fn a.tmps).run P w=.ok (.tuple #[.agg c,x]) w:=by
 intro a w X Y;have V:=vH (P:=P) (w:=w) (t:=ty) (a:=⟨b,0,none⟩) (cs:=c.toList) (by simpa using hm) rfl (fun j v hv=>Y.cell (.inr ⟨i,hi⟩) (m7 c.toList (fun j v h=>by simpa using h) j v hv));have e:c.toList.toArray=c:=by simp
 rw[e]at V
 have h3:(loadVar N ⟨J,0,none⟩).run P w=.ok x w:=by
  have:=pD (P:=P) (w:=w) hk Z (a:=⟨J,0,none⟩) (v:=x) (Y.cell (.inr ⟨j,hj⟩) (co.pt rfl));simpa[Instr.loadAt,Instr.sureAddr]using this
 simp[results,hr,X.slot t _ hv,X.slot u _ hu,asAddr,V,h3]
end
section
variable {P:Program}{w0:World}{fn:Func}{R:Ao}{n:Nat}{l:Sl}{K:PH}{hs hs':Ac}{v:Value}
def qb{e}(D m)(Y:hs=hs'++[fX D])(X:e=.ret\/e=.normal)(J:∀a w,Ag n l a->a7 w0 w K hs'->(results fn a.tmps).run P w=.ok v w)(h:R v K (hs'.drop m)):dw [mJ D] w0 (bodyPostM (fz none) 0 P fn (fU w0 R)) e n l K hs:=by
 subst Y;intro a w V O;have N:a7 w0 (w.putObj D (.deferred none)) K hs':=(O.Qk (.deferred none)).dropLast;have U:=run_takeDeferred (P:=P) (O.last);rcases X with rfl|rfl<;>exact⟨Q8,.inl ⟨D,_,rfl,U,v,J a _ V N,v,K,hs'.drop m,rfl,h,N.SS m⟩⟩
end
def ot(l:List (Ad)):List (Ad):=(l.zipIdx.map fun x=>[.int .i64 x.2,.agg x.1.toArray]).reverse
def wW(l):eq (ot l)=eq l:=by simp[ot]
def Cq{l:List (Ad)}{i}(h:i<eq l):(ot l)[i]?=some [.int .i64 (eq l-1-i:Nat),.agg (l[eq l-1-i]'qo).toArray]:=by
 unfold ot;rw[List.getElem?_reverse (by simpa using h)];simp only[aaM,List.length_zipIdx];rw[abf,List.getElem?_zipIdx,aai (show eq l-1-i<eq l by omega)]
 simp
def FM(size:Nat)(b:Nat)(ao:Ab)(c:Nat)(l:List (Ad))(K:PH)(hs:Ac):Prop:=
 (∃h,In K hs h/\co h ⟨b,0,none⟩ (.slice ao (eq l) c))/\∃h,In K hs h/\dn size (fun c x=>c=x) h ao (eq l) c l
theorem eG.refl:∀l:List (Ad),eG (fun c x=>c=x) l l
 |[]=>trivial
 |_::r=>⟨rfl,eG.refl r⟩
def Kv{α:Type}{p}{l:List α}{i e}(h0:(l.take i).find? p=none)(J:l[i]?=some e)(hp:p e=true):l.find? p=some e:=by
 have hi:=(aav.1 J).1
 have:l=l.take i++(e::l.drop (i+1)):=by
  have N:l.drop i=e::l.drop (i+1):=by rw[aaI hi,show l[i]=e from by rw[aai hi]at J;exact aaW J]
  rw[<-N,aaE]
 rw[this,List.find?_append,h0];simp[hp]
def O5(ao n c):ai w0 156 [.slice ao n c] K hs
  (fun v J hs'=>J=K/\∃b,hs'=pt b #[.slice ao n c] 30::hs/\v=.func (.func 205) #[] #[Rp b]):=by
 exact enter Tryz.func156 qk I I I<|acY (bx 0 I fun N=>fin 1 I<|acV (fin 2 I<|ac0<|af I I ⟨I,N,I,I⟩))
def O4(b ao c l)(hl:eq l<=2^40):zN Tryz.prog w0 205 [Rp b] (ot l) (FM 4 b ao c l):=by
 intro L St Sp O hY K hs h0;refine nX Tryz.func205 qk I I I ?_;obtain⟨⟨h1,m1,X⟩,_⟩:=O 0 K hs h0;refine df (eW (ld 0 I m1 X (ar 1 I (v':=.int .i64 ((eq l:Int)-1-((0:Nat):Int))) (by rw[ba qo];simp) (fin 1 rfl (dx (du (kO (uG (σ:=Nat×PH×Ac) (fun s=>[(0,.func (.yield L) #[] #[]),(1,Rp b),(3,.int .i64 ((eq l:Int)-1-((s.1:Nat):Int)))]) (fun s=>s.2.1) (fun s=>s.2.2) (fun s=>s.1<=eq l/\St s.1 s.2.1 s.2.2) (fun s=>eq l-s.1) (0,K,hs) ⟨aad _,h0⟩ ⟨rfl,rfl,rfl,trivial⟩ rfl rfl ?_))))))));rintro⟨i,K,hs⟩ ⟨hi,N⟩;dsimp only at *;obtain⟨⟨h1,m1,X⟩,h2,m2,c2⟩:=O i K hs N;refine df (df (eW (aw 1 I fun b8 h8=>fin 0 I (dx (du (ql h8 I (fun e2=>?_) (fun e2=>?_)))))))
 ·have Z:i<eq l:=qo
  obtain⟨a,rfl⟩:=c2.addr qo Q9;obtain⟨vs,xs⟩:=c2.Ni;obtain⟨cs,hc,Y,J⟩:=c2.cells (i:=eq l-1-i) (x:=l[eq l-1-i]'qo) (aai _);refine mH (du (df (kO (df (zR (iT.cut 6 (ld 2 I m1 X (dZ 1 (eq l-1-i) I (show _=((eq l-1-i:Nat):Int) by omega) xs qo Q9 fun aa ha=>?_))))))));cases ha;refine fu 0 cs I (by rw[Y];kernel_rfl) m2 J (fin 0 rfl (zI ?_))
  have hv:(ot l)[i]?=some [.int .i64 ((eq l:Int)-1-((i:Nat):Int)),.agg cs.toArray]:=by
   rw[Cq Z,hc,show((eq l-1-i:Nat):Int)=(eq l:Int)-1-((i:Nat):Int)from qo]
  refine zP I (hY i _ K hs hv N) ?_;rintro ab V U (⟨rfl,hn⟩|⟨rfl,hp⟩)
  ·exact iT.fin (fin 1 I (dx (du (su I (mH (l6 (du (eW (ar 1 I (v':=.int .i64 ((eq l:Int)-1-((i+1:Nat):Int))) (by rw[ba qo];congr 1;omega) (fin 1 rfl (dx (uC (x:=(i,K,hs)) (i+1,V,U) sb rfl rfl ⟨aC,hn⟩ aC))))))))))))
  exact iT.fin<|fin 1 I (dx<|du (sr I<|lu (qx<|qw (qw<|qx (y6 I (.inr hp))))))
 refine vp (o8 (o8 (vg ?_)));obtain rfl:i=eq l:=qo
 exact zi I (.inl (by rw[wW];exact N))
def u9(up:Nat)(e:ah):Bool:=decide (e.kind=2/\e.idx<=up)
def L5{w0:World}{K:PH}{m hs:Ac}(lb db L D c)(hb:bh c L)(hc:c<=1000000000)(hm:d7 K lb db L D m)(up)(b6:up<=ac):
  ai w0 90 [Rp lb,.int .u64 (up:Nat)] K (m++hs)
   (fun v N hs'=>Le K N/\hs'=m++hs/\∃ao cap,v=.tuple #[.agg #[.slice ao (eq (ei L.sn L.l up).1) cap],.int .u64 (((ei L.sn L.l up).2:Nat):Int)]/\aj N ao (eq (ei L.sn L.l up).1) cap 1 (iv (ei L.sn L.l up).1)):=by
 have ay:=hm;obtain⟨wb,aY,eb,aV,cV,aD,cD,aL,cL,wh,Z,X,J,dh,rfl,hW,hH,hE,hG,hD,xV,xD⟩:=hm;have h2:=hb.len;have b0:=hG;obtain⟨css,hn,oz,ap,av⟩:=hG;have ak:eq css=eq L.l:=ap.len;have aT:dn 4 (fun c x=>c=x) J aL (eq css) cL css:=⟨css,rfl,by rw[ak];exact oz.Ni,eG.refl css,av⟩;obtain⟨A,hA⟩:=a9 (eO wb db aY eb L aV cV aD cD aL cL);have aS:A[12]?=some (.slice aL (eq css) cL):=by rw[hA,ak];rfl
 have aR:A[6]?=some (.int .u64 L.sn.idx):=by rw[hA];rfl
 rw[<-hA]at ay⊢;refine nX Tryz.func90 qk I I I (df (eW (bx 0 I fun b3=>al 0 (.agg Ij) I qk fun U=>al 0 (.int .u64 0) I qk fun V=>fin 0 I (dx (du (df (df (eW (aX 3 3 I I aS (cl 0 I (O5 aL (eq css) cL) ?_))))))))));rintro b9 bm a6 ⟨rfl,b1,rfl,rfl⟩;refine fin 0 I (dx (du (kO (WX.SK fun K1 ae l1=>WX.perm (hs':=(pt V Iq 29::pt U Ij 46::pt b3 #[.int .u64 (up:Nat)] 29::pt lb A 119::wh::Z::X::J::dh::hs)) (List.Perm.refl _) ?_))))
 refine G5 [Rp b1] (ot css) (FM 4 b1 aL cL css) I (O4 b1 aL cL css qo) qk (fun vs hv=>?_) I
  (fun i N hs'=>N=K1/\hs'=pt V Iq 29::pt U Ij 46::pt b3 #[.int .u64 (up:Nat)] 29::pt lb A 119::wh::Z::X::J::dh::hs/\(L.l.reverse.take i).find? (u9 up)=none)
  (fun c N hs'=>c=.ret/\Le K1 N/\∃ao cap x,hs'=pt V #[.int .u64 (((ei L.sn L.l up).2:Nat):Int)] 29::pt U #[.slice ao (eq (ei L.sn L.l up).1) cap] 46::x::pt lb A 119::wh::Z::X::J::dh::hs/\aj N ao (eq (ei L.sn L.l up).1) cap 1 (iv (ei L.sn L.l up).1))
  ⟨rfl,rfl,Q8⟩ (fun i N hs' t u h=>by obtain⟨rfl,rfl,_⟩:=h;exact⟨⟨N,.inl I,(co.pt I).le l1⟩,J,.inr ⟨7,I⟩,aT⟩) ?_ ?_ ?_
 ·obtain⟨y,_,rfl⟩:=aau.1 (acM.1 hv)
  rfl
 ·rintro LL i vs N hs' t u am ⟨rfl,rfl,aa⟩;have hi:i<eq css:=by have:=(aav.1 am).1;rw[wW]at this;exact this
  rw[Cq hi]at am;cases am;have a3:eq css-1-i<eq L.l:=qo
  obtain⟨e,he⟩:∃e,L.l[eq css-1-i]?=some e:=⟨L.l[eq css-1-i],aai a3⟩;obtain⟨d,hd,ao,cap,a1,xe⟩:=ap.get he
  have a0:css[eq css-1-i]'qo=(e.v ao cap).toList:=by
   rw[aai qo]at hd;rw[<-a1];exact aaW hd
  rw[a0,Array.toArray_toList]
  have aq:L.l.reverse[i]?=some e:=by
   rw[List.getElem?_reverse qo,<-ak];exact he
  have a2:=hb.Jg e (aam he);have b2:=mY a2.1.2.2;refine eW (al 0 (.agg Il) I qk fun b7=>?_);refine bA 0 0 I I qk I I ?_;refine fin 0 I (dx (zL (hs':=pt b7 (e.v ao cap) 51::pt V Iq 29::pt U Ij 46::pt b3 #[.int .u64 (up:Nat)] 29::pt lb A 119::wh::Z::X::J::dh::hs) I fun u=>kO (df (eW (aX 1 0 I I I (aw 0 I fun bq aF=>?_))))))
  refine' eQ (q:=e.idx<=up) 1 5 25 [19,20] aF I I I I I I I (fun _=>?x2) (fun bB aO=>?_)
  case x2=>
   exact aX 1 0 I I I<|aX 0 3 I I I (aw 0 I fun bs aN=>fin 1 I<|bJ (aN.trans qo) I I I)
  refine fin 0 I<|dx (du<|ql aO I (fun e4=>?_) (fun e4=>?_))
  ·have Y:ei L.sn L.l up=((fB e.data).getD [],e.idx):=by
    unfold ei;have:L.l.reverse.find? (fun e=>decide (e.kind=2/\e.idx<=up))=some e:=Kv aa aq (by simp[u9,e4.1,e4.2]);rw[this]
   refine df (eW (aX 1 0 I I I (cl 0 I (tR ao cap e.data (.inl I) (xe.le ae) qo) ?_)));rintro ca bo bb ⟨rfl,bV,O,ag,rfl,rfl,a4⟩;refine Eg fun K2 an l2=>al 3 (.agg Ij) I qk fun b8=>?_;refine bA 0 0 I I qk I I ?_;refine Ew (pt b8 #[.slice O (eq ((fB e.data).getD [])) ag] 46::pt b7 (e.v ao cap) 51::pt V Iq 29::pt U Ij 46::pt b3 #[.int .u64 (up:Nat)] 29::pt lb A 119::wh::Z::X::J::dh::(hs++[t,u])) I (fin 1 I (dx (du (df (oJ [0,1] 5 [0,2,4,7,9] ?_)))));refine ln qk 0 0 I qk I qk (bT qk 1 1 I I I (aB qk 0 I ?_));refine bA 0 3 I I qk I I ?_;refine aP Q8 I (aB qk 0 I (Ji 0 2 I I I I (aP Q8 I (aI qk 0 I (dx (du (lu (qx (dw.drop (dw.drop (GD (hs':=pt V #[.int .u64 e.idx] 29::pt U #[.slice O (eq ((fB e.data).getD [])) ag] 46::pt b3 #[.int .u64 (up:Nat)] 29::pt lb A 119::wh::Z::X::J::dh::hs) I ?_)))))))))))
   rw[Y];exact⟨I,an,O,ag,_,I,a4.Ni.le l2⟩
  refine mH (l6 (dw.drop (zB (hs':=pt V Iq 29::pt U Ij 46::pt b3 #[.int .u64 (up:Nat)] 29::pt lb A 119::wh::Z::X::J::dh::hs) I (⟨I,I,?_⟩))));rw[aaN,aq,List.find?_append,aa];simp only[Option.toList_some,List.find?_cons,List.find?_nil,Option.none_or];rw[show u9 up e=false from by unfold u9;simp only[decide_eq_false_iff_not];omega]
 ·rintro DD N hs' ⟨rfl,rfl,aa⟩;rw[wW,aaA Au]at aa
  have Y:ei L.sn L.l up=(L.sn.Jq,L.sn.idx):=by
   unfold ei;have:L.l.reverse.find? (fun e=>decide (e.kind=2/\e.idx<=up))=none:=aa;rw[this]
  refine l6 (du (df (se [pt lb A 119] 10 [0,6,8,10,12,14,3,4,17,19] Q8 qk qk (bT qk 5 0 I I aR (aB qk 0 I ?_)))));refine Bi (hs':=[pt lb A 119,wh,Z,X,J,dh]++(pt V Iq 29::pt U Ij 46::pt b3 #[.int .u64 (up:Nat)] 29::(hs++[fX DD]))) (aak [_,_,_] [_,_,_,_,_,_] _) (cl 0 I (E7 lb db L D c hb (ay.le ae)) ?_);rintro cc bp bi ⟨az,rfl,ab,ad,aA,aE,rfl,a5,cd⟩;refine Bi (hs':=pt V Iq 29::pt U Ij 46::pt b3 #[.int .u64 (up:Nat)] 29::pt lb A 119::wh::Z::X::J::dh::(hs++[fX DD])) (aak [_,_,_,_,_,_] [_,_,_] _) (dX Q8 az (sx qk 0 (v:=.agg #[.slice ab (eq L.sn.Jq) ad]) I (fun A' w ha _=>?_) ?_))
  ·exact nS (t:=48) (x:=.tmp 36) (i:=2) (v:=.agg (dg L.sn ab ad aA aE)) I I Aq A' w ha
  refine aB qk 0 I ?_;refine bA 0 1 I I qk I I ?_;refine aP Q8 I (aB qk 0 I (Ji 0 0 I I I I (aP Q8 I (aI qk 0 I (dx (du (lu (qb DD 3 (hs':=pt V #[.int .u64 L.sn.idx] 29::pt U #[.slice ab (eq L.sn.Jq) ad] 46::pt b3 #[.int .u64 (up:Nat)] 29::pt lb A 119::wh::Z::X::J::dh::hs) I (.inl I) (Fk 1 0 I I I I I qk I I) ?_))))))));rw[Y];exact⟨ae.trans az,I,ab,ad,I,a5⟩
 rintro DD c' N hs' ⟨rfl,an,ao,cap,x,rfl,xs⟩;exact lu (qb DD 3 (hs':=pt V #[.int .u64 (((ei L.sn L.l up).2:Nat):Int)] 29::pt U #[.slice ao (eq (ei L.sn L.l up).1) cap] 46::x::pt lb A 119::wh::Z::X::J::dh::hs) I (.inl I) (Fk 1 0 I I I I I qk I I) (⟨ae.trans an,I,ao,cap,I,xs⟩))
end
section
def ri(e r L D):Lg.Rc (e::r) L D =
  if(L.w.append e.bytes D).2.2≠0 then({L with w:=(L.w.append e.bytes D).1,code:=(L.w.append e.bytes D).2.2},(L.w.append e.bytes D).2.1,(L.w.append e.bytes D).2.2)
  else Lg.Rc r {L with w:=(L.w.append e.bytes D).1,l:=L.l++[e]} (L.w.append e.bytes D).2.1:=rfl
def i9(e:ah):Prop:=e.ok/\e.idx<=ac/\e.term<=ac
def bh.w1{c L}(o:bh c L)(b D k):bh (c+12) {L with w:=(L.w.append b D).1,code:=k}:=
 ⟨o.w.append b D,o.Qh,o.head,o.kt,o.kv,o.idx,o.st,o.Jq,o.data,by have:=o.place;dsimp only;omega,by have:=o.fr;dsimp only;omega,by have:=o.len;dsimp only;omega,o.Jg⟩
def bh.w2{c L}(o:bh c L)(b D e)(N:i9 e):bh (c+12) {L with w:=(L.w.append b D).1,l:=L.l++[e]}:=
 ⟨o.w.append b D,o.Qh,o.head,o.kt,o.kv,o.idx,o.st,o.Jq,o.data,by have:=o.place;dsimp only;omega,by have:=o.fr;dsimp only;omega,by have:=o.len;dsimp only;rw[aaj];simp only[aas,aaT];omega,fun y J=>by
  rcases aao.1 J with J|J
  ·exact o.Jg y J
  simp at J;rw[J];exact N⟩
theorem bh.Rc:∀(x:List ah) (L:Lg) (D:Dk) (c:Nat),bh c L->aW c D->(∀e∈x,i9 e)->c+12*eq x<=999999990->bh (c+12*eq x) (Lg.Rc x L D).1/\aW (c+12*eq x) (Lg.Rc x L D).2.1
 |[],L,D,c,o,d,_,_=>⟨o,d⟩
 |e::r,L,D,c,o,d,J,N=>by
  simp only[aas]at N;rw[ri]
  split
  ·exact⟨(o.w1 e.bytes D _).up (by simp only[aas];omega),(d.append o.w qo _).up (by simp only[aas];omega)⟩
  have:=bh.Rc r _ _ (c+12) (o.w2 e.bytes D e (J e Q8)) (d.append o.w qo e.bytes) (fun y O=>J y (by simp[O])) qo;rw[show c+12+12*eq r=c+12*eq (e::r)from by simp only[aas];omega]at this;exact this
def nW{i t x}(h:fQ i t x=0):∀e∈x,e.ok:=by
 unfold fQ at h
 split at h
 ·rename_i J;simp only[aaX,nI]at J;exact J
 cases h
def B2{e}(h:e.ok):iJ e=some e.bytes:=aab h
def Dl{m:Ac}(lb db L D c)(hb:bh c L)(oD:aW c D)(hm:d7 K lb db L D m)(ao cap x)(xs:dn 4 (eI K) K ao (eq x) cap x)(hx:∀e∈x,lR e)(hc:c+12*eq x<=999999000):
  ai w0 153 [Rp lb,.slice ao (eq x) cap] K (m++hs) (fun u K' hs'=>Le K K'/\∃m',hs'=m'++hs/\d7 K' lb db (L.append x D).1 (L.append x D).2.1 m'/\u=.int .i64 (L.append x D).2.2):=by
 have U:=hm;obtain⟨wb,Y,eb,aV,cV,aD,cD,aL,cL,wh,hh,eh,gl,dh,rfl,hW,hH,hE,hG,hD,xV,xD⟩:=hm;unfold Lg.append;have ak:=hb.idx;have aR:=hb.len;unfold bX at ak;refine cP Tryz.func153 ?_;refine aw 0 I fun b8 aE=>fin 0 I (th (ax aE I (fun e2=>?_) (fun e2=>?_)))
 ·rw[aab e2];refine au ?_;exact af I I ⟨Cg _,_,I,U,I⟩
 rw[aaa e2];have J:=aag.1 e2;refine sk (acV (cl 2 I (pW lb db L D c hb qo U) ?_));rintro cm b1 bm ⟨rfl,rfl,rfl⟩;refine cl 0 I (nV lb db L D c hb qo U _ qo) ?_;rintro cn b2 bo ⟨rfl,rfl,rfl⟩
 have ht:(Ka L.sn L.l (L.sn.idx+eq L.l)).1<=ac:=by
  unfold Ka
  split
  ·exact hb.st
  split
  ·exact aad _
  cases hg:L.l[L.sn.idx+eq L.l-L.sn.idx-1]? with
  |none=>exact aad _
  |some e=>exact(hb.Jg e (aam hg)).2.2
 refine au ?_;refine cl 1 I (pW lb db L D c hb qo U) ?_;rintro cp b3 bp ⟨rfl,rfl,rfl⟩;refine cl 2 I (C9 _ _ (by unfold ac;omega) ht ao cap x xs hx qo) ?_;rintro cq av bq ⟨rfl,rfl,rfl⟩;have el:L.last=L.sn.idx+eq L.l:=rfl;rw[el];refine au ?_;refine aw 1 I fun ca aF=>fin 0 I (th (ax aF I (fun e4=>?_) (fun e4=>?_)))
 ·rw[aab e4];refine au ?_;exact af I I ⟨Cg _,_,I,U,I⟩
 rw[aaa e4];have a6:=nW (aag.1 e4);obtain⟨R,hR⟩:=a9 (Lg.Rc x L D);rw[<-hR];obtain⟨ys,bb⟩:=xs.Ni;refine au ?_
 refine loop (σ:=(Nat×Lg×Dk)×Ac×PH) (fun s=>[(0,Rp lb),(36,.slice ao (eq x) cap),(37,.int .i64 (eq x)),(38,.int .i64 s.1.1)]) (fun s=>s.2.2) (fun s=>s.2.1++hs)
  (fun s=>s.1.1<=eq x/\Lg.Rc (x.drop s.1.1) s.1.2.1 s.1.2.2=R/\bh (c+12*s.1.1) s.1.2.1/\aW (c+12*s.1.1) s.1.2.2/\s.1.2.1.code=0/\Le av s.2.2/\d7 s.2.2 lb db s.1.2.1 s.1.2.2 s.2.1) (fun s=>eq x-s.1.1)
  ((0,L,D),[_,_,_,_,_,_],av) ⟨aad _,hR.symm,hb,oD,J,Cg _,U⟩ ⟨rfl,rfl,rfl,rfl,trivial⟩ rfl rfl ?_
 clear U hW hH hE hG hD xV xD hR J aE aF e4 e2 ht;clear ak aR hb oD;clear el L D;clear wh hh eh gl dh;rintro⟨⟨j,L,D⟩,m,K1⟩ ⟨hj,hw,hb,oD,J,X,hm⟩;dsimp only at *;obtain⟨wb,Y,eb,aV,cV,aD,cD,aL,cL,wh,hh,eh,gl,dh,rfl,hW,hH,hE,hG,hD,xV,xD⟩:=id hm;refine acY (bc 0 I (fun e6=>?_) (fun e6=>?_))
 ·refine au ?_;have ab:j<eq x:=qo
  obtain⟨e,he⟩:∃e,x[j]?=some e:=⟨x[j],aai ab⟩;have aO:=aam he;obtain⟨q1,q2,q3⟩:=hx e aO;have Z:=a6 e aO;obtain⟨a,rfl⟩:=xs.addr qo Q9;obtain⟨cc,⟨ae,ce,rfl,xe⟩,_,aq⟩:=xs.cells he;rw[aaI ab,show x[j]=e from by rw[aai ab]at he;exact aaW he,ri]at hw;obtain⟨V,hV⟩:=a9 (L.w.append e.bytes D);have a5:=hb.w1 e.bytes D V.2.2;have aN:=hb.w2 e.bytes D e ⟨Z,q1,q2⟩;have aS:=oD.append hb.w qo e.bytes;have ck:=hb.len;rw[<-hV]at a5 aN aS hw;refine au ?_;refine dZ 0 j I I (bb.le X) ab Q9 fun b7 a2=>?_;cases a2;refine fu 0 (e.v ae ce).toList I qk (.inl I) (fun j v hv=>(aq j v hv).le X) (al 0 (.agg Il) I qk fun b9=>?_);refine bA 0 0 I I qk I I ?_;refine fin 0 I (acV (fI 0 0 I I qk (cl 0 I (yd e ae ce q1 q2 (.inl I) (xe.le X) q3) ?_)))
  rintro cr b4 bs ⟨rfl,a3,ag,az,rfl,rfl,ad⟩;rw[B2 Z]at ad⊢;have ad:aJ a3 ag (eq e.bytes) az 5 1 (bv e.bytes):=ad;have ch:=e.Rg Z q1 q2;refine au ?_;refine cl 1 I (Ct.Te 3 6 I I (Mj wb db L.w hW D (c+12*j) oD qo hb.w hD ag az e.bytes qo (.inr ⟨0,I⟩) ad.Ni)) ?_;rintro cs b5 bB ⟨aT,aA,rfl,N,ap,an,rfl⟩;rw[<-hV]at ap an⊢;refine cl 0 I (Er 2 I (lM lb wb db Y eb L _ _ _ _)) ?_;rintro ct b6 bV ⟨_,rfl,rfl,rfl,rfl⟩;have ed:fJ L.code V.2.2=V.2.2:=by unfold fJ;rw[aab J]
  rw[ed];refine aw 0 I fun cd a4=>fin 0 I (th (ax a4 I (fun e8=>?_) (fun e8=>?_)))
  ·rw[aab e8]at hw;refine acY (aX 3 2 I I I (fin 1 I (ac0 (rT (rB (rT (rT (rB (rT (Bh (Bh ?_)))))))))));rw[<-hw];exact af I I ⟨X.trans N,[_,_,_,_,_,_],I,⟨wb,Y,eb,aV,cV,aD,cD,aL,cL,aT,hh,eh,gl,aA,I,ap,hH.le N,hE.le N,hG.imp fun _ _ h=>h.le N,an,xV.le N,xD.le N⟩,I⟩
  have e8:=aag.1 e8;rw[aaa (by rw[e8];simp)]at hw;have eL:({L with code:=V.2.2}:Lg)=L:=by rw[e8,<-J]
  rw[eL];refine sk (th (bO [pt lb (eO wb db Y eb L aV cV aD cD aL cL) 119,pt b9 (e.v ae ce) 51] 11 [0,2,4,6,8,10,13,15,17,18,20,23] Q8 qk qk (bR qk 4 0 I qk I I (ln qk 0 1 I qk I qk (aB qk 0 I (cl 0 I (yw e ae ce (.inl I) (xe.le (X.trans N)) q3) ?_))))));rintro cu aY b0 ⟨aa,rfl,am,c2,rfl,x2⟩;refine dX Q8 aa (au ?_);refine lit 0 (e.v am c2) I Q9 qk fun cg=>aP Q8 I (aB qk 0 I (nB 0 7 (e.v am c2).toList e I I I (hG.imp fun _ _ h=>h.le (N.trans aa)) ⟨am,c2,I,x2⟩ I (by simp[ah.v,Value.oneCell']) I Q9 (by show(eq L.l+1)*48<=_;omega) As fun ay a0 a1 bi=>aP Q8 rfl (aB qk 2 rfl (Ji 0 3 rfl rfl rfl rfl (bQ (.inl qk) (aI qk 0 rfl (acW (Bf (Bf (Bf (cZ j ?_)))))))))))
  have O:=N.trans aa;exact bn (x:=((j,L,D),[],em)) ((j+1,{L with w:=V.1,l:=L.l++[e]},V.2.1),[_,_,_,_,_,_],aY) ⟨I,I,I,I,trivial⟩ I I ⟨aC,hw,aN.up aC,aS.up aC,J,X.trans O,⟨wb,Y,eb,aV,cV,aD,cD,ay,a0,aT,hh,eh,a1,aA,by unfold eO;rw[aaj];rfl,ap.le aa,hH.le O,hE.le O,by rw[aaj];exact bi,an.le aa,xV.le O,xD.le O⟩⟩ aC
 refine au ?_;obtain rfl:j=eq x:=qo
 rw[aa6]at hw;have hw:(L,D,(0:Int))=R:=hw;refine au ?_;rw[<-hw];exact af I I ⟨X,[_,_,_,_,_,_],I,hm,I⟩
end
section
theorem Dc:∀(x:List ah) (i t:Nat),eH i t x=0->∀j e,x[j]?=some e->e.idx=i+j+1
 |[],_,_,_,j,e,h=>by simp at h
 |a::r,i,t,h,j,e,J=>by
  rw[eH]at h
  split at h
  ·cases h
  rename_i N;have O:a.idx=i+1:=qo
  cases j with
  |zero=>simp at J;subst J;omega
  |succ j=>
   have:=Dc r _ _ h j e (by simpa using J);omega
def xK{i t x}(h:fQ i t x=0):eH i t x=0:=by
 grind[fQ]
theorem pO(s l):∀(x:List ah) (b:Bool),(RZ s l x b).1 <:+ x
 |[],b=>abU _
 |e::r,b=>by
  unfold RZ
  split
  ·exact abU _
  exact(pO s l r true).trans<|List.suffix_cons e r
def tG(s l e r b):RZ s l (e::r) b=if(Ka s l e.idx).2=false\/(Ka s l e.idx).1≠e.term then(e::r,(Ka s l e.idx).2)else RZ s l r true:=rfl
def M5(s l i):(fA s l i).getD 0<=eq l:=by
 grind[fA]
def bh.wc{c d L}(o:bh c L){W}(h:cK d W)(J:c<=d)(k):bh d {L with w:=W,code:=k}:=
 ⟨h,o.Qh,o.head,o.kt,o.kv,o.idx,o.st,o.Jq,o.data,by have:=o.place;dsimp only;omega,by have:=o.fr;dsimp only;omega,by have:=o.len;dsimp only;omega,o.Jg⟩
theorem bh.cutAt{c L}(o:bh c L)(i D):bh (c+1) (L.cutAt i (L.w.truncate i D).1):=
 ⟨o.w.truncate i D,o.Qh,o.head,o.kt,o.kv,o.idx,o.st,o.Jq,o.data,by have:=o.place;unfold Lg.cutAt;dsimp only;omega,by have:=o.fr;unfold Lg.cutAt;dsimp only;omega,by have:=o.len;grind[Lg.cutAt],fun y J=>o.Jg y (aaS J)⟩
theorem bh.append{c L}(o:bh c L){D}(d:aW c D)(x)(U:∀e∈x,e.idx<=ac/\e.term<=ac)(O:c+12*eq x<=999999990):bh (c+12*eq x) (L.append x D).1/\aW (c+12*eq x) (L.append x D).2.1:=by
 unfold Lg.append
 split
 ·exact⟨o.up qo,d.up qo⟩
 split
 ·exact⟨o.up qo,d.up qo⟩
 rename_i h;have J:=nW (aag.1 h);exact bh.Rc x L D c o d (fun e N=>⟨J e N,U e N⟩) O
theorem bh.Ms{c L}(o:bh c L){D}(d:aW c D)(x last)(N:∀e∈x,e.idx<=ac/\e.term<=ac)(J:c+12*eq x<=999999990):bh (c+12*eq x) (L.Ms x last D).1/\aW (c+12*eq x) (L.Ms x last D).2.1:=by
 have:=o.append d x N J;unfold Lg.Ms
 split<;>exact this
theorem bh.Jo{c L}(o:bh c L){D}(d:aW c D)(x last)(X:∀e∈x,e.idx<=ac/\e.term<=ac)(Y:c+2+12*eq x<=999999990):bh (c+2+12*eq x) (L.Jo x last D).1/\aW (c+2+12*eq x) (L.Jo x last D).2.1:=by
 have N:=pO L.sn L.l x true;have J:∀e∈(RZ L.sn L.l x true).1,e.idx<=ac/\e.term<=ac:=fun e V=>X e (N.subset V);have O:=N.length_le;unfold Lg.Jo
 split
 ·have:=o.Ms d [] last Q8 Au;exact⟨this.1.up Au,this.2.up Au⟩
 rename_i e r h;rw[h]at J O;have U:e.idx<2^64:=by grind[ac]
 have mK:=d.truncate o.w qo e.idx U
 split
 ·split
  ·exact⟨(o.wc (o.w.truncate e.idx D) qo _).up qo,mK.up qo⟩
  have:=((o.cutAt e.idx D).up (show c+1<=c+2 by omega)).Ms mK (e::r) last J qo;exact⟨this.1.up qo,this.2.up qo⟩
 have:=o.Ms d (e::r) last J qo;exact⟨this.1.up qo,this.2.up qo⟩
theorem bh.Kc{c L}(o:bh c L){D}(d:aW c D)(i t x last)(N:∀e∈x,e.idx<=ac/\e.term<=ac)(J:c+2+12*eq x<=999999990):bh (c+2+12*eq x) (L.Kc i t x last D).1/\aW (c+2+12*eq x) (L.Kc i t x last D).2.1:=by
 unfold Lg.Kc
 split
 ·exact⟨o.up qo,d.up qo⟩
 exact o.Jo d x last N J
theorem bh.merge{c L}(o:bh c L){D}(d:aW c D)(i t x)(J:∀e∈x,e.idx<=ac/\e.term<=ac)(N:c+2+12*eq x<=999999990):bh (c+2+12*eq x) (L.merge i t x D).1/\aW (c+2+12*eq x) (L.merge i t x D).2.1:=by
 have h0:bh (c+2+12*eq x) L/\aW (c+2+12*eq x) D:=⟨o.up qo,d.up qo⟩;unfold Lg.merge
 split
 ·exact h0
 split
 ·exact h0
 split
 ·split
  ·exact h0
  split
  ·exact h0
  have:=o.Kc d L.sn.idx L.sn.term (x.drop (L.sn.idx-i)) (i+eq x) (fun e O=>J e (aaV O)) (by rw[aar];omega);exact⟨this.1.up (by rw[aar];omega),this.2.up (by rw[aar];omega)⟩
 exact o.Kc d i t x _ J N
def RX{c L}(hb:bh c L)(i):(Ka L.sn L.l i).1<=ac:=by
 unfold Ka
 split
 ·exact hb.st
 split
 ·omega
 cases hg:L.l[i-L.sn.idx-1]? with
 |none=>exact aad _
 |some e=>exact(hb.Jg e (aam hg)).2.2
end
section
def G9(r:Nat×Bool×Int):Value:=.tuple #[.int .u64 r.1,.bool r.2.1,.int .i64 r.2.2]
def Bv{L:Lg}{x B last D}(h:RZ L.sn L.l x true=([],B)):L.Jo x last D=L.Ms [] last D:=by
 unfold Lg.Jo
 split
 ·rfl
 rename_i J;rw[h]at J;cases J
def AZ{L:Lg}{x e r B last D}(h:RZ L.sn L.l x true=(e::r,B)):L.Jo x last D=if B=true then
    (if(L.w.truncate e.idx D).2.2≠0 then({L with w:=(L.w.truncate e.idx D).1,code:=(L.w.truncate e.idx D).2.2},(L.w.truncate e.idx D).2.1,0,false,(L.w.truncate e.idx D).2.2)
     else(L.cutAt e.idx (L.w.truncate e.idx D).1).Ms (e::r) last (L.w.truncate e.idx D).2.1)
   else L.Ms (e::r) last D:=by
 unfold Lg.Jo
 split
 ·rename_i J;rw[h]at J;cases J
 rename_i N O J;rw[h]at J⊢;cases J
 rfl
def M3{w0:World}{K:PH}{m hs:Ac}(lb db L D c)(hb:bh c L)(oD:aW c D)(hm:d7 K lb db L D m)(i t)(hi:i<=ac)(ht:t<=ac)(ao cap x)(xs:dn 4 (eI K) K ao (eq x) cap x)(hx:∀e∈x,lR e)(hc:c+2+12*eq x<=999999000):
  ai w0 143 [Rp lb,.int .u64 (i:Nat),.int .u64 (t:Nat),.slice ao (eq x) cap] K (m++hs)
   (fun u K' hs'=>Le K K'/\∃m',hs'=m'++hs/\d7 K' lb db (L.merge i t x D).1 (L.merge i t x D).2.1 m'/\u=G9 (L.merge i t x D).2.2):=by
 have Y:=hm;obtain⟨wb,U,eb,aV,cV,aD,cD,aL,cL,wh,hh,eh,gl,dh,rfl,hW,hH,hE,hG,hD,xV,xD⟩:=hm;have bs:=hb.idx;have c6:=hb.len;unfold bX at bs;obtain⟨R,N⟩:=a9 (L.merge i t x D);rw[<-N];unfold Lg.merge at N;refine enter Tryz.func143 qk I I I (acY (fin 3 I (acU (aX 3 0 I I I (aw 0 I fun d1 b6=>fin 0 I (th (ax b6 I (fun e2=>?_) (fun e2=>?_))))))))
 ·rw[aab e2]at N;refine sq (bO [pt lb (eO wb db U eb L aV cV aD cD aL cL) 119] 7 [0,2,4,6,8,10,12] Q8 qk qk (bT qk 3 0 I I I (aI qk 3 I (ac0 (rT ?_)))));rw[N];exact fF I I I I ⟨Cg _,[_,_,_,_,_,_],I,Y,I⟩
 rw[aaa e2]at N;have ab:=aag.1 e2;refine sk (acV (cl 3 I (C9 i t hi ht ao cap x xs hx qo) ?_));rintro eo aT c7 ⟨rfl,rfl,rfl⟩;refine fin 1 I (acU (aw 1 I fun d2 bi=>fin 0 I (th (ax bi I (fun e4=>?_) (fun e4=>?_)))))
 ·rw[aab e4]at N;refine acY (fin 4 I (ac0 (rT ?_)));rw[N];exact fF I I I I ⟨Cg _,[_,_,_,_,_,_],I,Y,I⟩
 rw[aaa e4]at N;have aF:=xK (aag.1 e4)
 have ad:i+eq x<=ac:=by
  rcases aa7 (eq x)with h|h
  ·omega
  obtain⟨e,he⟩:∃e,x[eq x-1]?=some e:=⟨x[eq x-1],aai qo⟩;have h1:=Dc x i t aF _ e he;have h2:=(hx e (aam he)).1;omega
 obtain⟨last,bB⟩:=a9 (i+eq x);rw[<-bB]at N ad;unfold ac at hi ht ad;refine sk (acV (ar 3 I (bL (x:=((eq x:Nat):Int)) qo) (ar 0 I (v':=.int .u64 last) (by rw[show((i:Nat):Int)+((eq x:Nat):Int)=((last:Nat):Int)from qo];exact bL qo) ?_)))
 refine fin 1 I (th (jn (σ:=(Nat×Nat×List ah)×(Ab×Nat)) (fun s=>[(0,Rp lb),(1,.int .u64 s.1.1),(2,.int .u64 s.1.2.1),(3,.slice s.2.1 (eq s.1.2.2) s.2.2),(12,.int .u64 last)])
  (fun _=>[pt lb (eO wb db U eb L aV cV aD cD aL cL) 119,wh,hh,eh,gl,dh]++hs)
  (fun s=>L.Kc s.1.1 s.1.2.1 s.1.2.2 last D=R/\s.1.1<=18446744073709551615/\dn 4 (eI aT) aT s.2.1 (eq s.1.2.2) s.2.2 s.1.2.2/\(∀e∈s.1.2.2,lR e)/\eq s.1.2.2<=eq x) ?_ ?_))
 ·refine acY (aX 5 0 I I I (aw 0 I fun d3 b7=>fin 0 I<|th (ax b7 I (fun e6=>?_) (fun e6=>?_))))
  ·rw[aab qo]at N;refine sq (acY (aX 5 0 I I I (aw 0 I fun d4 b8=>fin 0 I (th (ax b8 I (fun e8=>?_) (fun e8=>?_))))))
   ·rw[aab qo]at N;refine acY (fin 4 I (ac0 (rT (jr ?_))));rw[N];exact fF I I I I ⟨Cg _,[_,_,_,_,_,_],I,Y,I⟩
   rw[aaa qo]at N;obtain⟨y,hy⟩:=a9 (x.drop (L.sn.idx-i));have b1:eq y=eq x-(L.sn.idx-i):=by rw[hy,aar]
   have ak:=xs.cut (L.sn.idx-i) qo;rw[<-b1,<-hy]at ak;rw[<-hy]at N;have cA:∀e∈y,lR e:=fun e he=>hx e (by rw[hy]at he;exact aaV he);have c5:eq x<=cap:=by obtain⟨_,hh⟩:=xs.Ni;exact hh.2.1
   refine sk (acV (aX 5 0 I I I (ar 1 I (Gl qo qo) (o9 0 (L.sn.idx-i) (eq y) I I (by show((eq x:Nat):Int)=_;omega) qo (fin 1 rfl (th (sq (bO [pt lb (eO wb db U eb L aV cV aD cD aL cL) 119] 12 [0,2,4,6,8,10,12,14,16,18,20,22] Q8 qk qk (bT qk 4 0 rfl rfl rfl (bT qk 4 0 rfl rfl rfl (aI qk 2 rfl (acV ?_))))))))))));cases y with
   |nil=>
    rw[aaa Q8]at N;exact bc 2 I (fun h=>absurd h Q8) (fun _=>fin 8 I (th (bP I (sk (jx ((L.sn.idx,L.sn.term,[]),(_,_)) ⟨N.symm,aC,ak,Q8,aad _⟩ ⟨rfl,rfl,rfl,rfl,rfl,trivial⟩ rfl rfl)))))
   |cons e r=>
    obtain⟨zs,b3⟩:=ak.Ni;obtain⟨a,ha⟩:=ak.addr Q8 Q9;have am:=ak;rw[ha]at am b3⊢;obtain⟨cc,⟨ae,ce,rfl,xe⟩,_,O⟩:=am.cells (i:=0) (x:=e) rfl;refine bc 2 I (fun _=>dZ 2 0 I I b3 Q8 Q9 fun d0 b9=>?_) (fun h=>absurd (show((0:Int)<((eq (e::r):Nat):Int)) by simp) h);cases b9;refine ld 1 I (.inl I) (O 1 _ I) (aw 1 I fun d5 ca=>fin 1 I (th (ax ca I (fun b5=>?_) (fun b5=>?_))))
    ·rw[aab Au]at N;refine acY (fin 3 I (ac0 (jr ?_)));rw[N];exact fF I I I I ⟨Cg _,[_,_,_,_,_,_],I,Y,I⟩
    rw[aaa Au]at N;exact sk (jx ((L.sn.idx,L.sn.term,e::r),(_,_)) ⟨N.symm,aC,am,cA,aC⟩ sb rfl rfl)
  rw[aaa qo]at N;exact sk (jx ((i,t,x),(ao,cap)) ⟨N.symm,hi,xs,hx,aac _⟩ ⟨I,I,I,I,I,trivial⟩ I I)
 clear N aF bB hi ht xs hx e4;clear bi;rintro⟨⟨i,t,y⟩,⟨ao,cap⟩⟩ ⟨N,hi,xs,hx,b1⟩;dsimp only at *;unfold Lg.Kc at N;refine acY (cl 2 I (nV lb db L D c hb qo Y i qo) ?_);rintro ep Z c8 ⟨rfl,rfl,rfl⟩;obtain⟨T,cm⟩:=a9 (Ka L.sn L.l i);rw[<-cm]at N⊢;obtain⟨u,b⟩:=T;dsimp only at N;refine fin 5 I (acU (cG 1 (b=false) I (by cases b<;>simp) fun d6 cd=>?_))
 refine' dB (q:=u≠t) 1 4 95 [90,91] cd I I I I I I I (fun _=>?x13) (fun ee ch=>?_)
 case x13=>
  exact aw 2 I fun ea cg=>fin 1 I<|bJ (cg.trans qo) I I I
 refine fin 0 I<|th (ax ch I (fun ap=>?_) (fun ap=>?_))
 ·rw[aab ap]at N;refine acY (cl 2 I (O2 lb db L D c hb qo Y i qo) ?_);rintro es dS dd ⟨rfl,rfl,rfl⟩;refine fin 3 I (ac0 (rT ?_));rw[<-N];exact fF I I I I ⟨Cg _,[_,_,_,_,_,_],I,Y,I⟩
 rw[aaa ap]at N;obtain⟨X,B,aA⟩:∃X B,RZ L.sn L.l y true=(X,B):=⟨_,_,rfl⟩;have bo:X <:+ y:=by have:=pO L.sn L.l y true;rw[aA]at this;exact this
 have ek:=bo.length_le;have bm:∀e∈X,lR e:=fun e he=>hx e (bo.subset he);obtain rfl:b=true:=by cases b with|true=>rfl|false=>exact absurd (.inl rfl) ap
 refine sk (th (jn (σ:=Ab×Nat) (fun s=>[(0,Rp lb),(3,.slice s.1 (eq X) s.2),(12,.int .u64 last),(14,.bool B)])
  (fun _=>[pt lb (eO wb db U eb L aV cV aD cD aL cL) 119,wh,hh,eh,gl,dh]++hs)
  (fun s=>dn 4 (eI Z) Z s.1 (eq X) s.2 X) ?_ ?_))
 ·refine bk ?_
  refine loop (σ:=(List ah×Bool)×(Ab×Nat)) (fun s=>[(0,Rp lb),(3,.slice s.2.1 (eq s.1.1) s.2.2),(12,.int .u64 last),(14,.bool s.1.2)]) (fun _=>Z)
   (fun _=>[pt lb (eO wb db U eb L aV cV aD cD aL cL) 119,wh,hh,eh,gl,dh]++hs)
   (fun s=>RZ L.sn L.l s.1.1 s.1.2=(X,B)/\dn 4 (eI Z) Z s.2.1 (eq s.1.1) s.2.2 s.1.1/\(∀e∈s.1.1,lR e)/\eq s.1.1<=eq y) (fun s=>eq s.1.1)
   ((y,true),(ao,cap)) ⟨aA,xs,hx,aac _⟩ ⟨rfl,rfl,rfl,rfl,trivial⟩ rfl rfl ?_
  rintro⟨⟨z,B0⟩,⟨az,cz⟩⟩ ⟨hz,zs,b2,cB⟩;dsimp only at *;refine sq (acY ?_);cases z with
  |nil=>
   have hz:(([],B0):List ah×Bool)=(X,B):=hz;cases hz;exact bc 2 I (fun h=>absurd h Q8) (fun _=>fin 0 I (th (bP I (ex (xt (xt (xb (jx (az,cz) zs sb I I))))))))
  |cons e r=>
   rw[tG]at hz;obtain⟨ws,ag⟩:=zs.Ni;obtain⟨a,rfl⟩:=zs.addr Q8 Q9;obtain⟨cc,⟨ae,ce,rfl,xe⟩,_,O⟩:=zs.cells (i:=0) (x:=e) rfl;obtain⟨q1,q2,q3⟩:=b2 e Q8;unfold ac at q1 q2;refine bc 2 I (fun _=>fin 0 I (th (dk I (sk (th (bk (acY (dZ 2 0 I I ag Q8 Q9 fun cR a0=>?_)))))))) (fun h=>absurd (show((0:Int)<((eq (e::r):Nat):Int)) by simp) h);cases a0;refine ld 1 I (.inl I) (O 0 _ I) (cl 0 I (nV lb db L D c hb qo Y e.idx qo) ?_);rintro dj cN ct ⟨rfl,rfl,rfl⟩;obtain⟨V,hV⟩:=a9 (Ka L.sn L.l e.idx);rw[<-hV]at hz⊢;obtain⟨v,b'⟩:=V;dsimp only at hz;refine fin 5 I (acU (cG 1 (b'=false) I (by cases b'<;>simp) fun cY a1=>?_))
   refine' dB (q:=v≠e.term) 1 7 120 [112,113] a1 I I I I I I I (fun _=>?x18) (fun c2 a4=>?_)
   case x18=>
    refine dZ 2 0 I I ag Q8 Q9 fun cS a2=>?_;cases a2;exact ld 1 I (.inl I) (O 1 _ I) (aw 0 I fun c1 a3=>fin 1 I (bJ (a3.trans qo) I I I))
   refine fin 0 I<|th (ax a4 I (fun aq=>?_) (fun aq=>?_))
   ·rw[aab aq]at hz;cases hz;exact ex (xt (xn I (xt (xb (jx (_,cz) zs ⟨I,I,I,I,trivial⟩ I I)))))
   rw[aaa aq]at hz;obtain rfl:b'=true:=by cases b' with|true=>rfl|false=>exact absurd (.inl rfl) aq
   refine sk (acX ?_);have cq:eq (e::r)<=cz:=ag.2.1;refine o9 1 1 (eq r) I I (by show((eq (e::r):Nat):Int)=_;simp;omega) (by simp at cq;omega) (fin 1 rfl (bl ?_));have cF:=zs.cut 1 Q8;exact bn (x:=((e::r,B0),(none,0))) ((r,true),(_,_)) ⟨I,I,I,I,trivial⟩ I I ⟨hz,cF,fun y hy=>b2 y (by simp[hy]),by dsimp only;simp only[aas]at cB;omega⟩ Q8
 clear xs;rintro⟨az,cz⟩ zs;dsimp only at *;have eg:∀(L':Lg) (D':Dk),bh (c+2) L'->aW (c+2) D'->True:=fun _ _ _ _=>trivial
 refine kL (σ:=(Lg×Dk)×Ac×PH) (fun _=>[(0,Rp lb),(3,.slice az (eq X) cz),(12,.int .u64 last)]) (fun s=>s.2.2) (fun s=>s.2.1++hs)
  (fun s=>s.1.1.Ms X last s.1.2=R/\bh (c+2) s.1.1/\aW (c+2) s.1.2/\Le Z s.2.2/\d7 s.2.2 lb db s.1.1 s.1.2 s.2.1) ?_ ?_
 ·refine acY ?_;cases X with
  |nil=>
   rw[Bv aA]at N;refine bc 2 I (fun h=>absurd h Q8) (fun _=>fin 3 I (th (bP I (sk ?_))));exact fM ((L,D),[_,_,_,_,_,_],_) ⟨N,hb.up qo,oD.up qo,Cg _,Y⟩ ⟨I,I,I,trivial⟩ I I
  |cons e r=>
   rw[AZ aA]at N;obtain⟨q1,q2,q3⟩:=bm e Q8;have en:=q1;unfold ac at q1 q2;refine bc 2 I (fun _=>?_) (fun h=>absurd (show((0:Int)<((eq (e::r):Nat):Int)) by simp) h);cases B with
   |false=>
    rw[aaa Q8]at N;refine fin 3 I (th (bP I (sk ?_)));exact fM ((L,D),[_,_,_,_,_,_],_) ⟨N,hb.up qo,oD.up qo,Cg _,Y⟩ ⟨I,I,I,trivial⟩ I I
   |true=>
    rw[aab rfl]at N;obtain⟨ws,ag⟩:=zs.Ni;obtain⟨a,rfl⟩:=zs.addr Q8 Q9;obtain⟨cc,⟨ae,ce,rfl,xe⟩,_,O⟩:=zs.cells (i:=0) (x:=e) rfl;obtain⟨V,hV⟩:=a9 (L.w.truncate e.idx D);have bp:=hb.cutAt e.idx D;have bq:=oD.truncate hb.w qo e.idx qo;rw[<-hV]at N bp bq;refine fin 3 I (th (dk I (sq (sq (bO [pt lb (eO wb db U eb L aV cV aD cD aL cL) 119] 9 [0,2,4,6,8,10,12,14,16,19,21,22] Q8 qk qk (bR qk 4 0 I qk I I (bu qk 1 0 I I Q8 (GK qk 1 I qk (.inl I) (O 0 _ I) (aB qk 0 I (cl 0 I (Ct.Te 1 4 I I (Mz wb db L.w hW D c oD qo hb.w hD e.idx qo)) ?_))))))))));rintro dl cO cu ⟨aE,an,rfl,J,ay,av,rfl⟩;rw[<-hV]at ay av⊢;refine bQ (.inl qk) (aB qk 0 I (cl 0 I (lM lb wb db U eb L _ _ _ _) ?_))
    rintro dq aR cv ⟨_,rfl,rfl,rfl,rfl⟩;have ed:fJ L.code V.2.2=V.2.2:=by unfold fJ;rw[aab ab]
    rw[ed];refine bQ (.inl qk) (dU qk 0 (V.2.2≠0) I Q8 fun c3 a5=>aI qk 0 I (th (ax a5 I (fun aa=>?_) (fun aa=>?_))))
    ·rw[aab aa]at N;refine sq (bO [pt lb (jg wb db U eb {L with code:=V.2.2} (.slice aV (eq L.sn.Jq) cV) (.slice aD (eq L.sn.data) cD) (.slice aL (eq L.l) cL)) 119] 7 [0,2,4,6,8,10,12] Q8 qk qk (bT qk 3 0 I I I (aI qk 3 I (ac0 (rT (QG ?_))))));rw[<-N];exact fF I I I I ⟨J,[_,_,_,_,_,_],I,⟨wb,U,eb,aV,cV,aD,cD,aL,cL,aE,hh,eh,gl,an,I,ay,hH.le J,hE.le J,hG.imp fun _ _ h=>h.le J,av,xV.le J,xD.le J⟩,I⟩
    have aa:=aag.1 aa;rw[aaa (by rw[aa];simp)]at N;have eL:({L with code:=V.2.2}:Lg)=L:=by rw[aa,<-ab]
    rw[eL]
    have aO:d7 aR lb db {L with w:=V.1} V.2.1 [pt lb (eO wb db U eb L aV cV aD cD aL cL) 119,aE,hh,eh,gl,an]:=
     ⟨wb,U,eb,aV,cV,aD,cD,aL,cL,aE,hh,eh,gl,an,rfl,ay,hH.le J,hE.le J,hG.imp fun _ _ h=>h.le J,av,xV.le J,xD.le J⟩
    have cp:bh (c+1) {L with w:=V.1}:=by have:=hb.wc (hb.w.truncate e.idx D) (aaq c) L.code;rw[<-hV]at this;exact this
    refine sk (acV (dZ 2 0 I I (ag.le J) Q8 Q9 fun cT a6=>?_));cases a6;refine ld 1 I (.inl I) ((O 0 _ I).le J) (cl 0 I (sA lb db {L with w:=V.1} V.2.1 (c+1) cp qo aO e.idx qo) ?_);rintro dr aS cx ⟨rfl,rfl,rfl⟩;have cs:=M5 L.sn L.l e.idx;obtain⟨k,hk⟩:=a9 ((fA L.sn L.l e.idx).getD 0);have el:=hG.Sd;refine fin 5 I (acX (aX 4 0 I I I ?_));rw[<-hk]at cs;refine o9 1 0 k I I (by show(((fA L.sn L.l e.idx).getD 0:Nat):Int)=_;rw[<-hk];simp) qo (Ji 2 0 rfl rfl rfl rfl ?_);obtain⟨aY,cr,ck⟩:=hG.cut 0 k qo;refine fin 0 I (Cm 4 aY I cr ?_);have bV:eq (L.l.take k)=k:=by rw[aal];omega
    refine fM ((L.cutAt e.idx V.1,V.2.1),[_,_,_,_,_,_],_) ⟨N,bp.up qo,bq,J,⟨wb,U,eb,aV,cV,aD,cD,dE aL cL 0 4,cL-0,aE,hh,eh,aY,an,?_,ay,hH.le J,hE.le J,?_,av,xV.le J,xD.le J⟩⟩ ⟨I,I,I,trivial⟩ I I
    ·unfold Lg.cutAt eO;dsimp only;rw[<-hk,bV];rfl
    unfold Lg.cutAt;dsimp only;rw[<-hk,bV];have:=ck.imp (R':=eI aS) fun _ _ h=>h.le J
    rwa[abC]at this
 clear N;rintro⟨⟨L',D'⟩,m',K'⟩ ⟨N,cn,cE,J,aO⟩;dsimp only at *;unfold Lg.Ms at N;refine acY (cl 2 I (Dl lb db L' D' (c+2) cn cE aO az cz X (zs.le J fun _ _ h=>h.le J) bm qo) ?_);rintro dv cQ cy ⟨b4,m3,rfl,b0,rfl⟩;refine fin 1 I (acU (aw 1 I fun c4 bb=>fin 0 I (th (ax bb I (fun aN=>?_) (fun aN=>?_)))))
 ·rw[aab aN]at N;refine acY (fin 4 I (ac0 (rT ?_)));rw[<-N];exact fF I I I I ⟨J.trans b4,m3,I,b0,I⟩
 rw[aaa aN]at N;refine sk (acV (fin 4 I (ac0 ?_)));rw[<-N];exact fF I I I I ⟨J.trans b4,m3,I,b0,I⟩
end
section
def u7(ao:Ab)(n i:Nat):Ad:=[.slice (dE ao (64*i+min 64 (n-64*i)) (64*i) 1) (min 64 (n-64*i)) (min 64 (n-64*i))]
def SM(ao:Ab)(n:Nat):List (Ad):=(List.range ((n+63)/64)).map (u7 ao n)
theorem yy(ao n):eq (SM ao n)=(n+63)/64:=by simp[SM]
def EK(ao){n i}(h:i<(n+63)/64):(SM ao n)[i]?=some (u7 ao n i):=by simp[SM,h]
def aj.Ul{h ao n cap xs}(x:aj h ao n cap 1 xs)(L N)(O:L+N<=n):aj h (dE ao (L+N) L 1) N N 1 ((xs.drop L).take N):=by
 have hl:eq xs=n:=by have:=x.1;omega
 rcases aa7 N with h0|h0
 ·subst h0;rw[abS];exact aj.nil _ _ _ _
 refine⟨by rw[aal,aar];omega,aac _,fun j v hv=>?_⟩;have hj:j<N:=by have:=(aav.1 hv).1;rw[aal]at this;omega
 rw[abt hj,aa0]at hv;obtain⟨a,rfl,J⟩:=x.2.2 _ v hv;refine⟨a.add (L*1),by rw[dE,aaa qo];rfl,?_⟩;rw[Deep.add_add,aaf];exact J
section joinx
variable {P:Program}{w0:World}{Q:An}{n:Nat}{l:Sl}{K:PH}{hs:Ac}{r:Am}{ds:List Deferred}
def JZ(ds:List Deferred)(w0:World){σ:Type}(F:σ->Sl)(N:σ->PH)(H:σ->Ac)(J:σ->Prop)(n:Nat)(Q:An):An
 |.normal,O,w=>∃s a,J s/\O=wd ds a/\Ag n (F s) a/\a7 w0 w (N s) (H s)
 |e,a,w=>Q e a w
def QH{σ x y}(F:σ->Sl)(HK H J)(V:WX P w0 r ds x (JZ ds w0 F HK H J n Q) n l K hs)(X:∀s,J s->WX P w0 r ds y Q n (F s) (HK s) (H s)):WX P w0 r ds (.seq x y) Q n l K hs:=
 df fun a w N O=>wpIn_mono (V a w N O) (fun e a w h=>by
  cases e with
  |normal=>obtain⟨s,U,Y,rfl,N,O⟩:=h;exact X s Y U w N O
  |_=>exact h)
def Hd{σ}{F:σ->Sl}{HK H J}(s)(U:J s)(N:kP l (F s))(V:K=HK s)(O:hs=H s):dw ds w0 (JZ ds w0 F HK H J n Q) .normal n l K hs:=
 fun a w X Y=>⟨s,a,U,rfl,X.sub N,by rw[<-V,<-O];exact Y⟩
end joinx
theorem Dg{K:PH}:∀{css:List (Ad)} {l:List ah},eG (eI K) css l->∀u∈css.flatten,u.oneCell'=true
 |[],[],_,u,hu=>by simp at hu
 |c::css,x::l,h,u,hu=>by
  rw[abF,aao]at hu;rcases hu with hu|hu
  ·obtain⟨ao,cap,rfl,_⟩:=h.1;simp[ah.v]at hu;rcases hu with rfl|rfl|rfl|rfl<;>rfl
  exact Dg h.2 u hu
 |_::_,[],h,_,_=>h.elim
 |[],_::_,h,_,_=>h.elim
def OZ(ao n c):ai w0 206 [.slice ao n c,.int .i64 64] K hs
  (fun v O hs'=>Le K O/\hs'=hs/\∃J N,v=.func (.func 248) #[] #[Rp J,Rp N]/\co O ⟨J,0,none⟩ (.slice ao n c)/\co O ⟨N,0,none⟩ (.int .i64 64)):=by
 refine ent Tryz.func206 ?_;refine acY (bx 0 I fun J=>bx 0 I fun N=>au ?_);exact bc 0 I (fun h=>absurd h Q9) (fun _=>fin 0 I (th (bP I (sk (acV (fin 2 I (ac0 (Ei fun Z V X=>Ei fun K2 U Y=>af I I ⟨V.trans U,I,J,N,I,(co.pt I).le Y,((co.pt I).le X).le U⟩))))))))
def OY(Y Z)(ao:Ab)(n c)(hn:n<=2^40)(ae:n<=c):zN Tryz.prog w0 248 [Rp Y,Rp Z] (SM ao n)
  (fun K _=>co K ⟨Y,0,none⟩ (.slice ao n c)/\co K ⟨Z,0,none⟩ (.int .i64 64)):=by
 intro L St Sp V hY K hs h0;refine GI Tryz.func248 ?_;refine au ?_;refine uG (σ:=Nat×PH×Ac) (fun s=>[(0,.func (.yield L) #[] #[]),(1,Rp Y),(2,Rp Z),(4,.int .i64 (64*s.1:Nat))]) (fun s=>s.2.1) (fun s=>s.2.2) (fun s=>s.1<=(n+63)/64/\St s.1 s.2.1 s.2.2) (fun s=>(n+63)/64-s.1) (0,K,hs) ⟨aad _,h0⟩ ⟨I,I,I,I,trivial⟩ I I ?_;rintro⟨i,K,hs⟩ ⟨hi,O⟩;dsimp only at *;obtain⟨c1,c2⟩:=V i K hs O;refine df (df (eW (ld 1 I (.inl I) c1 (bc 1 I (fun e2=>?_) (fun e2=>?_)))))
 ·refine au ?_;have ab:i<(n+63)/64:=qo
  obtain⟨N,hN⟩:=a9 (min 64 (n-64*i));refine au ?_;refine se [] 7 [0,2,4,6,8,10,12] Q8 qk qk (ph qk 0 I (.inl I) c2 (ph qk 0 I (.inl I) c1 (oP qk 1 (64*i) (n-64*i) I I I (by show((n:Nat):Int)=_;omega) qo ?_)))
  refine bF qk 1 I (v':=.int .i64 N) (by
   congr 1
   rw[hN]
   split<;>omega) ?_
  refine aI qk 1 I<|dx (du<|df (zR<|iT.cut 10 (ld 1 I (.inl I) c1<|ar 3 I (ba (x:=((64*i+N:Nat):Int)) qo) (ar 2 I (ba (x:=((64*i+N:Nat):Int)) qo)<|uO 0 (64*i) N (64*i+N) I I I I (aac _) qo (fin 0 I<|zI ?_)))))
  have hv:(SM ao n)[i]?=some [.slice (dE ao (64*i+N) (64*i) 1) N (64*i+N-64*i)]:=by
   rw[EK ao ab,u7,<-hN,ab0]
  refine zP I (hY i _ K hs hv O) ?_;rintro ag U J (⟨rfl,X⟩|⟨rfl,hp⟩)
  ·refine iT.fin (au ?_);obtain⟨ad,aa⟩:=V (i+1) U J X;exact ld 1 I (.inl I) aa (ar 0 I (v':=.int .i64 ((64*(i+1):Nat):Int)) (by rw[ba qo];congr 1) (fin 1 rfl (dx (uC (x:=(i,K,hs)) (i+1,U,J) sb rfl rfl ⟨aC,X⟩ aC))))
  refine iT.fin (au ?_);exact y6 I (.inr hp)
 refine au ?_;obtain rfl:i=(n+63)/64:=qo
 exact zi I (.inl (by rw[yy];exact O))
def NH{hv:PH}(ao n c l)(hm:In K hs hv)(x:dn 4 (eI K) hv ao n c l)(hl:n<=1000000000000):ai w0 208 [.slice ao n c] K hs
  (fun v K' hs'=>K'=K/\∃Z J Y,hs'=Z::hs/\v=.slice J n Y/\dD 4 51 (eI K) Z J n Y l):=by
 cases ao with
 |none=>
  obtain rfl:n=0:=by
   rcases aa7 n with h|h
   ·exact h
   obtain⟨a,ha⟩:=x.addr h Q9;cases ha
  have X:l=[]:=aaY x.len.symm;subst X;refine cP Tryz.func208 ?_;exact cG 1 True I Q8 fun b4 U=>fin 0 I (th (ax U I (fun e2=>acY (fin 1 I (ac0 (rT (Ev (af I I ⟨I,em,none,0,I,I,dD.nil _ _⟩)))))) (fun e2=>absurd trivial e2)))
 |some a=>
  obtain rfl:=x.len;obtain⟨css,hn,hS,N,V⟩:=x;refine cP Tryz.func208 ?_;refine cG 1 False I Q8 fun b4 U=>fin 0 I (th (ax U I (fun e2=>e2.elim) (fun e2=>sk (acV (lit 0 #[] I Q9 qk fun b5=>app 1 0 I I (aJ.Re (c:=#[]) (n:=0) Q8 At) (Bl hm) hS I Q9 (Dg N) (by show(0+eq l)*48<=_;omega) (by simp[maxLen];omega) fun O c7 g7 o7=>au ?_)))));have e:0+eq l=eq l:=aaO _;rw[e]at o7;exact af I (by rw[e];rfl) ⟨rfl,g7,O,c7,rfl,rfl,css,rfl,.inl (by simpa using o7),N,V⟩
end
section
def uu{fn n l}{T:be}[hT:a8 P T](j:Nat){u N J O:Nat}{k x Th}(Z:fn.results=#[.cell u N])(hu:look l u=some (Rp J))(hj:hs[j]?=some (pt J #[x] O Th))
  (Y:Ry T.kinds N=some k) (U:k.one=true):∀a w,Ag n l a->a7 w0 w K hs->(results fn a.tmps).run P w=.ok x w:=by
 intro a w X hw
 have V:(loadVar N ⟨J,0,none⟩).run P w=.ok x w:=by
  have:=pD (P:=P) (w:=w) Y U (a:=⟨J,0,none⟩) (v:=x) (hw.cell (.inr ⟨j,hj⟩) (co.pt rfl))
  simp_all[Instr.loadAt,Instr.sureAddr]
 simp[results,Z,X.slot u _ hu,asAddr,V]
def pJ(place f n b D):R7 place (f+1) n b D=if b=[]then(D,0)
  else if(D.write (bz place) n (b.take 64)).2≠0 then D.write (bz place) n (b.take 64)
  else R7 place f (n+1) (b.drop 64) (D.write (bz place) n (b.take 64)).1:=rfl
def F1{m:Ac}(lb db L D c)(hb:bh c L)(hc:c<=999000000)(oD:aW c D)(hm:d7 K lb db L D m)(am:L.code=0)(s)(eg:s.idx<=bX)(gO:L.sn.idx<s.idx)(g2:s.term<=ac)(gV:eq s.data<=2097152)(g3:eq s.Jq<=1000)
  (aS cS aT cT) (xS:aj K aS (eq s.Jq) cS 1 (iv s.Jq)) (xT:aj K aT (eq s.data) cT 1 (bv s.data)) (fr) (gB:fr<2^64):
  ai w0 159 [Rp lb,.agg (dg s aS cS aT cT),.int .u64 (fr:Nat)] K (m++hs)
   (fun u K' hs'=>Le K K'/\∃m',hs'=m'++hs/\d7 K' lb db (L.lay s fr D).1 (L.lay s fr D).2.1 m'/\u=.int .i64 (L.lay s fr D).2.2):=by
 have gR:=hm;obtain⟨wb,J,V,aV,cV,aD,cD,aL,cL,wh,hh,eh,gl,dh,rfl,hW,hH,hE,hG,hD,xV,xD⟩:=hm;have dv:=hb.place;have eT:=hb.len;have ct:=hb.idx;unfold bX at dv ct eg;obtain⟨O,aq⟩:=a9 (L.place+1);obtain⟨R0,cp⟩:=a9 (R7 O (eq s.data+1) 0 s.data D);obtain⟨R,Y⟩:=a9 (L.lay s fr D);rw[<-Y];unfold Lg.lay at Y;rw[<-aq,<-cp]at Y;have bq:eq s.data<=cT:=xT.2.1;refine GI Tryz.func159 ?_;refine df (eW (bx 0 I fun b3=>bx 0 I fun b4=>al 0 (.int .i64 0) I qk fun b6=>au ?_));refine ar 1 I (v':=.int .u64 O) (by grind[bL]) (al 0 (.int .u64 0) I qk fun b8=>au ?_);refine al 0 (.int .i64 0) I qk fun b9=>Ji 0 0 I I I I (Ez 0 (pt b9 Io 3) ?_);refine Ez 1 (pt b8 #[.int .u64 O] 29) ?_;refine Ez 2 (pt b6 Io 37) ?_;refine Ez 3 (pt b4 (dg s aS cS aT cT) 48) ?_
 refine Ez 4 (pt b3 #[Rp lb] 24) ?_;refine au ?_;refine cl 0 I (OZ aT (eq s.data) cT) ?_;rintro g4 K1 eY ⟨a1,rfl,d2,d3,rfl,k2,k3⟩;refine au ?_
 refine G5 [Rp d2,Rp d3] (SM aT (eq s.data)) (fun K _=>co K ⟨d2,0,none⟩ (.slice aT (eq s.data) cT)/\co K ⟨d3,0,none⟩ (.int .i64 64)) I (OY d2 d3 aT (eq s.data) cT qo bq) qk (fun vs hv=>?_) I
  (fun i K' hs'=>Le K1 K'/\∃D' X,hs'=pt b9 #[.int .i64 (i:Nat)] 3::pt b8 #[.int .u64 O] 29::pt b6 Io 37::pt b4 (dg s aS cS aT cT) 48::pt b3 #[Rp lb] 24::pt lb (eO wb db J V L aV cV aD cD aL cL) 119::wh::hh::eh::gl::X::hs /\
   R7 O (eq s.data+1-i) i (s.data.drop (64*i)) D'=R0/\aW (c+i) D'/\bM K' db D' X)
  (fun cc K' hs'=>cc=.ret/\Le K1 K'/\R0.2≠0/\∃x X,hs'=x::pt b8 #[.int .u64 O] 29::pt b6 #[.int .i64 R0.2] 37::pt b4 (dg s aS cS aT cT) 48::pt b3 #[Rp lb] 24::pt lb (jg wb db J V {L with code:=R0.2} (.slice aV (eq L.sn.Jq) cV) (.slice aD (eq L.sn.data) cD) (.slice aL (eq L.l) cL)) 119::wh::hh::eh::gl::X::hs/\bM K' db R0.1 X)
  ⟨Cg _,D,dh,rfl,cp.symm,oD,hD.le a1⟩ (fun i K' hs' t u h=>⟨k2.le h.1,k3.le h.1⟩) ?_ ?_ ?_
 ·obtain⟨y,_,rfl⟩:=aau.1 hv
  rfl
 ·rintro LL i vs K' hs' t u cx ⟨an,D',X,rfl,hw,cE,az⟩;have hi:i<(eq s.data+63)/64:=by grind[yy]
  rw[EK aT hi]at cx;cases cx;obtain⟨b,bp⟩:=a9 ((s.data.drop (64*i)).take 64);have dd:eq b=min 64 (eq s.data-64*i):=by rw[bp,aal,aar]
  have c7:s.data.drop (64*i)≠[]:=fun h=>by grind
  have xb:aj K' (dE aT (64*i+eq b) (64*i) 1) (eq b) (eq b) 1 (bv b):=by
   have:=(xT.le (a1.trans an)).Ul (64*i) (eq b) qo
   have e:((bv s.data).drop (64*i)).take (eq b)=bv b:=by
    rw[bp];simp[bv]
   rwa[e]at this
  obtain⟨f,hf⟩:∃f,eq s.data+1-i=f+1:=⟨eq s.data-i,qo⟩;obtain⟨E,bm⟩:=a9 (D'.write (bz O) i b);have oE:=cE.write (bz O) i b (by unfold bz;omega);rw[hf,pJ,aaa c7,<-bp,<-bm]at hw;rw[<-bm]at oE;rw[u7,<-dd];refine au ?_;refine zL (hs':=pt b9 #[.int .i64 i] 3::pt b8 #[.int .u64 O] 29::pt b6 Io 37::pt b4 (dg s aS cS aT cT) 48::pt b3 #[Rp lb] 24::pt lb (eO wb db J V L aV cV aD cD aL cL) 119::wh::hh::eh::gl::X::hs) I fun u=>kO (df (df (oJ [4,5,1,0] 10 [0,2,4,6,8,10,14,16,13,19,21,22] ?_)));refine dA [] qk 0 0 I qk I I (dA [9,4,3,2] qk 0 0 I qk I I (dA [9] qk 2 1 I qk I I (dA [9,6] qk 0 2 I qk I I (dA [9] qk 0 3 I qk I I (aB qk 1 I (cl 0 I (rM O qo) ?_))))))
  rintro g5 f5 e3 ⟨rfl,rfl,rfl⟩;refine aP Q8 I (aB qk 0 I (cl 0 I (Er 10 I (yA db D' (c+i) cE.ok qo az (bz O) i (by unfold bz;omega) _ (eq b) b (.inl rfl) xb)) ?_));rintro g6 f6 e6 ⟨ad,rfl,av,ae,rfl⟩;rw[<-bm]at ae⊢;refine dX Q8 av (au ?_);refine cl 0 I (Er 5 I (lM lb wb db J V L _ _ _ _)) ?_;rintro g7 f7 e7 ⟨_,rfl,rfl,rfl,rfl⟩;have ed:fJ L.code E.2=E.2:=by unfold fJ;omega
  rw[ed];refine au ?_;refine dU qk 0 (E.2≠0) I Q8 fun gi c3=>au ?_;refine ql c3 I (fun e1=>?_) (fun e1=>?_)
  ·rw[aab e1]at hw;refine au ?_;refine GD (hs':=pt b9 #[.int .i64 i] 3::pt b8 #[.int .u64 O] 29::pt b6 #[.int .i64 E.2] 37::pt b4 (dg s aS cS aT cT) 48::pt b3 #[Rp lb] 24::pt lb (jg wb db J V {L with code:=E.2} (.slice aV (eq L.sn.Jq) cV) (.slice aD (eq L.sn.data) cD) (.slice aL (eq L.l) cL)) 119::wh::hh::eh::gl::ad::hs) I ?_;rw[<-hw];exact⟨I,an.trans av,e1,_,ad,I,ae⟩
  have e1:=aag.1 e1;rw[aaa (by rw[e1];simp)]at hw;have eL:({L with code:=E.2}:Lg)=L:=by rw[e1,<-am]
  rw[eL];refine au ?_;refine eP 0 i ?_;refine Ji 0 0 I I I I (fin 0 I (dx (l6 (zB (hs':=pt b9 #[.int .i64 (i+1:Nat)] 3::pt b8 #[.int .u64 O] 29::pt b6 Io 37::pt b4 (dg s aS cS aT cT) 48::pt b3 #[Rp lb] 24::pt lb (eO wb db J V L aV cV aD cD aL cL) 119::wh::hh::eh::gl::ad::hs) I (⟨an.trans av,E.1,ad,I,?_,oE,ae⟩)))))
  grind[List.drop_drop]
 ·rintro DD K2 hs' ⟨an,D',X,rfl,hw,a2,az⟩;rw[yy]at hw a2;have gw:s.data.drop (64*((eq s.data+63)/64))=[]:=acN qo;obtain⟨f,hf⟩:∃f,eq s.data+1-(eq s.data+63)/64=f+1:=⟨eq s.data-(eq s.data+63)/64,qo⟩;rw[gw,hf,pJ,aab rfl]at hw;rw[<-hw]at Y;rw[aaa Q8]at Y;dsimp only at Y;unfold Lg.Sf at Y;rw[<-aq]at Y;have U:=a1.trans an;obtain⟨c1,dj⟩:=a9 (c+(eq s.data+63)/64);rw[<-dj]at a2;have eE:c1<=c+32768:=qo
  obtain⟨E,ch⟩:=a9 (D'.sync (bz O));have oE:=a2.sync (bz O);rw[<-ch]at Y oE;refine l6 (du (WX.perm (hs':=pt b9 #[.int .i64 ((eq (SM aT (eq s.data)):Nat):Int)] 3::pt b8 #[.int .u64 O] 29::pt b6 Io 37::pt b4 (dg s aS cS aT cT) 48::pt b3 #[Rp lb] 24::pt lb (eO wb db J V L aV cV aD cD aL cL) 119::wh::hh::eh::gl::X::(hs++[fX DD])) (List.Perm.refl _) (WX.drop (df (df (oJ [3,4,0] 8 [0,2,4,6,8,10,13,15,17,18] ?_))))));refine dA [] qk 0 0 I qk I I (dA [7,4,3,2] qk 0 0 I qk I I (dA [7] qk 2 1 I qk I I (dA [7,6] qk 0 2 I qk I I (aB qk 0 I (cl 0 I (rM O qo) ?_)))));rintro g8 f8 e8 ⟨rfl,rfl,rfl⟩;refine aP Q8 I (aB qk 0 I (cl 0 I (Er 9 I (uE db D' c1 a2.ok qo az (bz O))) ?_))
  rintro g9 gb e9 ⟨ad,rfl,rfl,ae,rfl⟩;rw[<-ch]at ae⊢;refine aP Q8 I (aB qk 0 I (cl 0 I (Er 4 I (lM lb wb db J V L _ _ _ _)) ?_));rintro ha gd fa ⟨_,rfl,rfl,rfl,rfl⟩;have ed:fJ L.code E.2=E.2:=by unfold fJ;omega
  rw[ed];refine bQ (.inl qk) (dU qk 0 (E.2≠0) I Q8 fun gn ca=>aI qk 0 I (dx (du (ql ca I (fun e2=>?_) (fun e2=>?_)))))
  ·rw[aab e2]at Y;refine df (eW (aX 0 3 I I I (aX 2 4 I I I (Ji 0 1 I I I I (fin 0 I (dx (du (lu (qw (qb DD 4 (hs':=pt b8 #[.int .u64 O] 29::pt b6 #[.int .i64 E.2] 37::pt b4 (dg s aS cS aT cT) 48::pt b3 #[Rp lb] 24::pt lb (jg wb db J V {L with code:=E.2} (.slice aV (eq L.sn.Jq) cV) (.slice aD (eq L.sn.data) cD) (.slice aL (eq L.l) cL)) 119::wh::hh::eh::gl::ad::hs) I (.inl I) (uu 1 I I I I I) ?_))))))))));rw[Y];exact⟨U,[_,_,_,_,_,_],I,⟨wb,J,V,aV,cV,aD,cD,aL,cL,wh,hh,eh,gl,ad,I,hW.le U,hH.le U,hE.le U,hG.imp fun _ _ h=>h.le U,ae,xV.le U,xD.le U⟩,I⟩
  have e2:=aag.1 e2;rw[aaa (by rw[e2];simp)]at Y;have eL:({L with code:=E.2}:Lg)=L:=by rw[e2,<-am]
  rw[eL];clear eL;obtain⟨E,Ee⟩:=E;dsimp only at Y ae oE;clear ed ca;clear hw;refine mH (du (df (eW (fu 1 [.slice aS (eq s.Jq) cS] I qk (.inr ⟨2,I⟩) (nK _ I) (cl 0 I (tM aS cS s.Jq (.inl I) (xS.le U) qo) ?_)))));rintro hd cF fd ⟨rfl,c4,b0,cO,rfl,rfl,ek⟩;unfold Lg.Rq at Y;rw[<-aq]at Y;obtain⟨ns,bs⟩:∃ns:Af,ns=[s.idx,s.term,O,eq s.data,fr]:=⟨_,rfl⟩;have eV:eq ns=5:=by rw[bs];rfl
  have cv:∀n∈ns,n<2^64:=by
   grind[ac]
  have dl:∀j,eq ((ns.take j).flatMap aK)<=10*5:=fun j=>by
   have:∀l:Af,(∀n∈l,n<2^64)->eq (l.flatMap aK)<=10*eq l:=fun l=>by
    induction l with
    |nil=>simp
    |cons a l ih=>
     intro h;have h1:=dI (h a Q8)
     grind
   grind
  refine fin 5 I<|dx (du<|df (eW<|fin 1 I (dx<|du (df<|df (eW<|aX 1 3 I I I (aX 1 3 I I I<|aX 0 1 I I I (aX 1 3 I I I<|ar 1 I (bL (x:=((eq s.data:Nat):Int)) qo) (lit 1 #[.int .u64 s.idx,.int .u64 s.term,.int .u64 O,.int .u64 (eq s.data),.int .u64 (fr:Nat)] I Q9 qk fun aR=>fin 2 I<|dx (du<|kO (WX.em ?_))))))))))
  refine uG (σ:=Nat×(Ab×Nat×PH)) (fun x=>[(2,.int .u64 (fr:Nat)),(3,Rp b3),(4,Rp b4),(6,Rp b6),(7,.int .u64 L.place),(8,Rp b8),(11,.slice b0 (eq (ob (bG s.Jq))) cO),(13,.slice x.2.1 (eq ((ns.take x.1).flatMap aK)) x.2.2.1),(76,.slice (some ⟨aR,0,none⟩) 5 5),(77,.int .i64 5),(78,.int .i64 x.1)]) (fun _=>cF)
   (fun x=>x.2.2.2::pt aR #[.int .u64 s.idx,.int .u64 s.term,.int .u64 O,.int .u64 (eq s.data),.int .u64 (fr:Nat)] 29::c4::pt b8 #[.int .u64 O] 29::pt b6 Io 37::pt b4 (dg s aS cS aT cT) 48::pt b3 #[Rp lb] 24::pt lb (eO wb db J V L aV cV aD cD aL cL) 119::wh::hh::eh::gl::ad::(hs++[fX DD]))
   (fun x=>x.1<=5/\aJ x.2.2.2 x.2.1 (eq ((ns.take x.1).flatMap aK)) x.2.2.1 5 1 (bv ((ns.take x.1).flatMap aK))) (fun x=>5-x.1) (0,(none,0,em)) ⟨qo,aJ.nil _ _⟩ ⟨rfl,rfl,rfl,rfl,rfl,rfl,rfl,rfl,rfl,rfl,rfl,trivial⟩ rfl rfl ?_
  rintro⟨j,⟨ag,cg,g⟩⟩ ⟨hj,og⟩;dsimp only at *;have cs:=dl j;refine df (eW (aw 0 I fun gr c5=>fin 0 I (dx (du (df (ql c5 I (fun e4=>?_) (fun e4=>?_)))))))
  ·have gF:j<5:=qo
   obtain⟨n,hn⟩:∃n,ns[j]?=some n:=⟨ns[j],aai qo⟩;have dr:=cv n (aam hn);have eo:aj (pt aR #[.int .u64 s.idx,.int .u64 s.term,.int .u64 O,.int .u64 (eq s.data),.int .u64 (fr:Nat)] 29) (some ⟨aR,0,none⟩) 5 5 1 (jd ns):=by rw[bs];exact(aJ.Re (n:=5) (size:=1) I Q9).Ni
   refine mH (du (df (kO (df (eW (ej 0 j I I I eo (tW hn) fun gh cr=>ld 0 I (.inr ⟨1,I⟩) cr (fin 1 I (dx (du (eW (cl 2 I (kU ag cg _ n og dr qo) ?_)))))))))));rintro he ge fi ⟨c6,rfl,rfl,b1,cQ,rfl,cA⟩;have cY:(ns.take (j+1)).flatMap aK=(ns.take j).flatMap aK++aK n:=by rw[aaN,hn];simp
   rw[<-cY]at cA⊢;refine fin 1 I (dx (l6 (du (eW (eP 0 j ?_)))));exact fin 1 I (dx (uC (x:=(j,(ag,cg,g))) (j+1,(b1,cQ,c6)) sb I I ⟨qo,cA⟩ aC))
  obtain rfl:j=5:=qo
  have gv:(ns.take 5).flatMap aK=aK s.idx++(aK s.term++(aK O++(aK (eq s.data)++aK fr))):=by rw[bs];simp
  obtain⟨bb,c8⟩:=a9 ((ns.take 5).flatMap aK);have ap:bb++ob (bG s.Jq)=Lg.Nl s O fr:=by simp_all[Lg.Nl]
  rw[<-c8]at og cs⊢
  have gA:eq (ob (bG s.Jq))<=1:=by
   unfold bG
   split
   all_goals simp[ob]
  obtain⟨F,hF⟩:=a9 (L.head.save 4 E (Lg.Nl s O fr));have oF:=oE.save L.head 4 qo (Lg.Nl s O fr);have g1:eq (Lg.Nl s O fr)<=51:=by rw[<-ap,aaj];omega
  have bo:=cW.SC hb.head 4 E (Lg.Nl s O fr);rw[<-hF]at oF Y bo;refine vp (o8 (o8 (vg (du (df (df (se [pt b3 #[Rp lb] 24,pt lb (eO wb db J V L aV cV aD cD aL cL) 119] 9 [0,2,4,6,8,10,12,15,17,19,20] Q8 qk qk (dA [] qk 0 0 I qk I I (dA [8,4,3,2] qk 0 0 I qk I I (dA [8] qk 2 1 I qk I I (aB qk 2 I (app 0 0 I I og (.inr ⟨2,I⟩) ek.Ni I Q9 (gE _) (by grind) As fun a3 b5 c2 el=>?_))))))))))));have cB:aJ c2 a3 (eq (Lg.Nl s O fr)) b5 5 1 (bv (Lg.Nl s O fr)):=pV el (by rw[<-ap,aaj]) (by rw[<-ap,kT]);have b7:eq bb+eq (ob (bG s.Jq))=eq (Lg.Nl s O fr):=by rw[<-ap,aaj]
  rw[b7];refine aP Q8 I (aB qk 0 I (cl 0 I (Ct.Te 10 11 I I (Fa V db 4 L.head (hE.le U) hb.head E (c1+1) oE.ok qo ae qo (Lg.Nl s O fr) a3 b5 qo (.inr ⟨0,I⟩) cB.Ni)) ?_));rintro hg K3 fl ⟨Z,ak,rfl,av,aE,aA,rfl⟩;rw[<-hF]at aE aA⊢;have N:=U.trans av;refine dX Q8 av (aB qk 0 I (cl 0 I (Er 7 I (lM lb wb db J V L _ _ _ _)) ?_));rintro hl bV fm ⟨_,rfl,rfl,rfl,rfl⟩;have ed:fJ L.code F.2.2=F.2.2:=by unfold fJ;omega
  rw[ed];refine bQ (.inl qk) (dU qk 0 (F.2.2≠0) I Q8 fun gs cd=>aI qk 0 I (dx (du (WX.drop (WX.drop (WX.drop (ql cd I (fun e5=>?_) (fun e5=>?_))))))))
  ·rw[aab e5]at Y;refine df (eW (aX 0 3 I I I (aX 2 4 I I I (Ji 0 1 I I I I (fin 0 I (dx (du (lu (qw (qb DD 4 (hs':=pt b8 #[.int .u64 O] 29::pt b6 #[.int .i64 F.2.2] 37::pt b4 (dg s aS cS aT cT) 48::pt b3 #[Rp lb] 24::pt lb (jg wb db J V {L with code:=F.2.2} (.slice aV (eq L.sn.Jq) cV) (.slice aD (eq L.sn.data) cD) (.slice aL (eq L.l) cL)) 119::wh::hh::Z::gl::ak::hs) I (.inl I) (uu 1 I I I I I) ?_))))))))));rw[Y];exact⟨N,[_,_,_,_,_,_],I,⟨wb,J,V,aV,cV,aD,cD,aL,cL,wh,hh,Z,gl,ak,I,hW.le N,hH.le N,aE,hG.imp fun _ _ h=>h.le N,aA,xV.le N,xD.le N⟩,I⟩
  have e5:=aag.1 e5;rw[aaa (by rw[e5];simp)]at Y;have eL:({L with code:=F.2.2}:Lg)=L:=by rw[e5,<-am]
  rw[eL];clear eL ed cd;obtain⟨H,D3,F2⟩:=F;dsimp only at Y oF bo aE aA e5;subst e5;unfold Lg.Sy at Y;have cq:bh c {L with head:=H}:=⟨hb.w,hb.Qh,bo,hb.kt,hb.kv,hb.idx,hb.st,hb.Jq,hb.data,hb.place,hb.fr,hb.len,hb.Jg⟩
  have cu:d7 bV lb db {L with head:=H} D3 [pt lb (eO wb db J V L aV cV aD cD aL cL) 119,wh,hh,Z,gl,ak]:=
   ⟨wb,J,V,aV,cV,aD,cD,aL,cL,wh,hh,Z,gl,ak,rfl,hW.le N,hH.le N,aE,hG.imp fun _ _ h=>h.le N,aA,xV.le N,xD.le N⟩
  have ck:=hG.imp (R':=eI bV) fun _ _ h=>h.le N;refine mH (du (WX.perm (hs':=[pt lb (eO wb db J V L aV cV aD cD aL cL) 119,wh,hh,Z,gl,ak]++(pt b8 #[.int .u64 O] 29::pt b6 Io 37::pt b4 (dg s aS cS aT cT) 48::pt b3 #[Rp lb] 24::(hs++[fX DD]))) (aak [_,_,_,_] [_,_,_,_,_,_] (hs++[fX DD])) (df (eW (aX 0 9 I I I (aX 1 8 I I I (cl 0 I (sA lb db {L with head:=H} D3 c cq qo cu s.idx qo) ?_)))))));rintro fs ay dS ⟨rfl,rfl,rfl⟩;obtain⟨NL,ab⟩:=a9 (if fj L.sn L.l s=true then L.l.drop ((fA L.sn L.l s.idx).getD 0+1)else []);have gy:eq NL<=eq L.l:=by rw[ab];split<;>simp
  refine fin 5 I (dx (du (QH (σ:=Ab×Nat×PH) (fun _=>[(2,.int .u64 (fr:Nat)),(3,Rp b3),(4,Rp b4),(6,Rp b6),(7,.int .u64 L.place),(8,Rp b8)]) (fun _=>ay)
   (fun x=>pt lb (jg wb db J V L (.slice aV (eq L.sn.Jq) cV) (.slice aD (eq L.sn.data) cD) (.slice x.1 (eq NL) x.2.1)) 119::wh::hh::Z::x.2.2::ak::pt b8 #[.int .u64 O] 29::pt b6 Io 37::pt b4 (dg s aS cS aT cT) 48::pt b3 #[Rp lb] 24::(hs++[fX DD])) (fun x=>dD 4 51 (eI ay) x.2.2 x.1 (eq NL) x.2.1 NL) ?_ ?_)))
  ·refine df (eW (aX 0 9 I I I (fI 0 8 I I qk (cl 0 I (ze (hv:=ay) lb db {L with head:=H} D3 c cq qo cu s qo aS cS aT cT) ?_))));rintro fx et d0 ⟨rfl,rfl,rfl⟩;refine fin 0 I (dx (du ?_));cases hhas:fj L.sn L.l s with
   |true=>
    rw[aab hhas]at ab
    obtain⟨k,hk,gL⟩:∃k,fA L.sn L.l s.idx=some k/\k<eq L.l:=by
     unfold fj at hhas;rw[EW,aaa qo]at hhas;cases h:fA L.sn L.l s.idx with
     |none=>rw[h]at hhas;simp at hhas
     |some k=>exact⟨k,rfl,(q8 h).2.2.2⟩
    have dq:(fA L.sn L.l s.idx).getD 0=k:=by rw[hk];rfl
    rw[dq]at ab;have cn:eq NL=eq L.l-(k+1):=by rw[ab,aar]
    have eS:=ck.Sd;have a5:=ck.SL.cut (k+1) qo;rw[<-ab,<-cn]at a5;refine sr I (oJ [9,0] 11 [0,2,4,6,8,10,12,14,17,18,20,23] ?_);refine bR qk 0 0 I qk I I (bR qk 0 0 I qk I I (bR qk 2 1 I qk I I (bF qk 1 I (v':=.int .i64 (k+1:Nat)) (by grind[ba]) (oP qk 0 (k+1) (eq NL) I I I (by show((eq L.l:Nat):Int)=_;omega) qo (aB qk 0 rfl (cl 0 rfl (NH _ (eq NL) _ NL (.inr ⟨4,rfl⟩) a5 qo) ?_))))));rintro fN eu d1 ⟨rfl,a4,a6,b2,rfl,rfl,cz⟩;refine aP Q8 I (aB qk 2 I (Ji 0 1 I I I I ?_));exact Bi (hs':=[_,_,_,_]++(a4::_)) (aaQ (l₁:=[_,_,_,_])).symm (bQ (.inl qk) (aI qk 0 I (dx (dw.perm (iE _ 5 gl I) (dw.drop (Hd (a6,b2,a4) cz ⟨I,I,I,I,I,I,trivial⟩ I I))))))
   |false=>
    rw[aaa (by rw[hhas];simp)]at ab;refine su I (eW (aX 0 9 I I I (Ji 2 0 I I I I (WL.RV 4 em I (.inr I) (fin 0 I (dx ?_))))));exact Hd (none,0,em) (by rw[ab];exact dD.nil _ _) ⟨I,I,I,I,I,I,trivial⟩ I (by rw[ab];rfl)
  rintro⟨aN,cN,gN⟩ oN;dsimp only at *;have cR:L.laid s fr H={L with head:=H,l:=NL,place:=O,fr:=fr,sn:=s}:=by unfold Lg.laid;rw[<-ab,<-aq]
  obtain⟨G,cm⟩:=a9 (D3.free (bz L.place));rw[cR,<-cm]at Y;refine df (se [pt b3 #[Rp lb] 24,pt b8 #[.int .u64 O] 29] 10 [0,2,4,6,8,10,13,14,16,19] Q8 qk qk (bR qk 0 0 I qk I I (bR qk 0 0 I qk I I (bR qk 0 1 I qk I I (aB qk 3 I (Ji 0 0 I I I I (aP Q8 I (aB qk 2 I (Ji 0 0 I I I I (aP Q8 I (aI qk 0 I (dx (du (df (eW (aX 0 9 I I I (fI 0 8 I I qk (lX 2 0 I I qk (by simp[jg,dg]) (fun v hv=>by simp[dg]at hv;rcases hv with rfl|rfl|rfl|rfl<;>rfl) (Ez 0 (pt lb (jg wb db J V {L with head:=H,l:=NL,place:=O,fr:=fr,sn:=s} (.slice aS (eq s.Jq) cS) (.slice aT (eq s.data) cT) (.slice aN (eq NL) cN)) 119) ?_)))))))))))))))))))
  refine fin 0 I (dx (du (df (oJ [9,8] 9 [0,2,4,6,9,10,12,14,16,19] ?_))));refine bR qk 0 0 I qk I I (bR qk 2 1 I qk I I (aB qk 0 I (cl 0 I (yx aS cS s.Jq (.inl I) (xS.le N) qo) ?_)));rintro f0 K4 d4 ⟨cU,rfl,aO,a0,rfl,es⟩;refine dX Q8 cU (aB qk 4 I (Ji 0 0 I I I I (aP Q8 I (aI qk 0 I (dx (du (df (oJ [9,8] 7 [0,2,4,7,8,10,12,15] ?_))))))));refine bR qk 0 0 I qk I I (bR qk 1 1 I qk I I (aB qk 0 I ?_));have cy:=N.trans cU;refine cl 0 I (lJ aT cT s.data (.inl I) (xT.le cy) qo) ?_;rintro f1 ew d5 ⟨rfl,eD,aF,aY,rfl,rfl,en⟩;refine Eg fun K5 bB l5=>?_;have ep:=en.Ni.le l5;refine dX Q8 bB (aB qk 3 I (Ji 0 0 I I I I (aP Q8 I (aI qk 0 I (dx (du (WX.perm (hs':=pt lb (jg wb db J V {L with head:=H,l:=NL,place:=O,fr:=fr,sn:=s} (.slice aO (eq s.Jq) a0) (.slice aF (eq s.data) aY) (.slice aN (eq NL) cN)) 119::wh::hh::Z::gN::ak::pt b8 #[.int .u64 O] 29::pt b6 Io 37::pt b4 (dg s aS cS aT cT) 48::pt b3 #[Rp lb] 24::(hs++[fX DD])) (List.Perm.refl _) (df (oJ [9,0] 8 [0,2,4,6,8,10,13,15,17,19] ?_)))))))))
  refine dA [] qk 0 0 I qk I I (dA [7,4,3,2] qk 0 0 I qk I I (dA [7] qk 2 1 I qk I I (aB qk 1 I (cl 0 I (rM L.place qo) ?_))));rintro f2 ey d6 ⟨rfl,rfl,rfl⟩;refine aP Q8 I (aB qk 0 I ?_);have aa:=cU.trans bB;refine cl 0 I (Er 5 I (rV db D3 (c1+1+2) oF.ok qo (aA.le aa) (bz L.place))) ?_;rintro f3 ez ea ⟨bi,rfl,rfl,ce,rfl⟩;rw[<-cm]at ce⊢;refine aP Q8 I (aB qk 0 I (cl 0 I (lM lb wb db J V {L with head:=H,l:=NL,place:=O,fr:=fr,sn:=s} _ _ _ _) ?_));rintro f4 eC ee ⟨_,rfl,rfl,rfl,rfl⟩;have ed:fJ L.code G.2=G.2:=by unfold fJ;omega
  rw[ed];refine bQ (.inl qk) (aB qk 0 I (Ji 0 7 I I I I (bQ (.inl qk) (aI qk 0 I (dx (du (lu ?_)))))));refine dw.perm (hs':=[pt b8 #[.int .u64 O] 29,pt b6 #[.int .i64 G.2] 37,pt b4 (dg s aS cS aT cT) 48,pt b3 #[Rp lb] 24]++([pt lb (jg wb db J V {L with head:=H,l:=NL,place:=O,fr:=fr,sn:=s,code:=G.2} (.slice aO (eq s.Jq) a0) (.slice aF (eq s.data) aY) (.slice aN (eq NL) cN)) 119,wh,hh,Z,gN,bi]++(hs++[fX DD]))) (aak [_,_,_,_,_,_] [_,_,_,_] (hs++[fX DD])) (qb DD 4 (hs':=pt b8 #[.int .u64 O] 29::pt b6 #[.int .i64 G.2] 37::pt b4 (dg s aS cS aT cT) 48::pt b3 #[Rp lb] 24::pt lb (jg wb db J V {L with head:=H,l:=NL,place:=O,fr:=fr,sn:=s,code:=G.2} (.slice aO (eq s.Jq) a0) (.slice aF (eq s.data) aY) (.slice aN (eq NL) cN)) 119::wh::hh::Z::gN::bi::hs) I (.inl I) (uu 1 I I I I I) ?_)
  rw[Y];exact⟨N.trans aa,[_,_,_,_,_,_],I,⟨wb,J,V,aO,a0,aF,aY,aN,cN,wh,hh,Z,gN,bi,I,(hW.le N).le aa,(hH.le N).le aa,aE.le aa,oN.imp fun _ _ h=>h.le aa,ce,es.le bB,ep⟩,I⟩
 rintro DD c' K' hs' ⟨rfl,an,e0,x,X,rfl,az⟩;rw[aab e0]at Y;refine lu (qb DD 5 (hs':=x::pt b8 #[.int .u64 O] 29::pt b6 #[.int .i64 R0.2] 37::pt b4 (dg s aS cS aT cT) 48::pt b3 #[Rp lb] 24::pt lb (jg wb db J V {L with code:=R0.2} (.slice aV (eq L.sn.Jq) cV) (.slice aD (eq L.sn.data) cD) (.slice aL (eq L.l) cL)) 119::wh::hh::eh::gl::X::hs) I (.inl I) (uu 2 I I I I I) ?_);have le:=a1.trans an;rw[Y];exact⟨le,[_,_,_,_,_,_],I,⟨wb,J,V,aV,cV,aD,cD,aL,cL,wh,hh,eh,gl,X,I,hW.le le,hH.le le,hE.le le,hG.imp fun _ _ h=>h.le le,az,xV.le le,xD.le le⟩,I⟩
end
section
def sS{l}(h:(bG l).isSome=true):eq l<=7:=by
 unfold bG at h
 split at h
 ·rename_i J;have:=qR l (-1) J.2 qo qo;omega
 simp at h
theorem aW.R7(place)(hp:bz place<=18446744073709551615):∀(f n:Nat) (b:Aa) (D:Dk) (c:Nat),aW c D->aW (c+(eq b+63)/64) (R7 place f n b D).1
 |0,_,_,D,c,o=>o.up qo
 |f+1,n,b,D,c,o=>by
  rw[pJ]
  split
  ·exact o.up qo
  rename_i hb;have N:0<eq b:=by grind
  have J:=o.write (bz place) n (b.take 64) qo
  split
  ·exact J.up qo
  have:=aW.R7 place hp f (n+1) (b.drop 64) _ _ J
  grind
def C5(L:Lg)(s fr D):(L.lay s fr D).1.code=(L.lay s fr D).2.2:=by
 unfold Lg.lay
 split
 ·rfl
 unfold Lg.Sf
 split
 ·rfl
 unfold Lg.Rq
 split
 all_goals rfl
structure pp (s:bE):Prop where
 idx:s.idx<=bX
 term:s.term<=ac
 Jq:eq s.Jq<=7
 data:eq s.data<=2097152
theorem bh.lay{c L}(o:bh c L)(s)(hs:pp s)(fr)(J:fr<=c9+(c+1))(D):bh (c+1) (L.lay s fr D).1:=by
 have O:∀k,bh (c+1) {L with code:=k}:=fun k=>o.wc (W:=L.w) (o.w.up (aaq c)) (aaq c) k;unfold Lg.lay
 split
 ·exact O _
 unfold Lg.Sf
 split
 ·exact O _
 unfold Lg.Rq;have N:=cW.SC o.head 4 ((R7 (L.place+1) (eq s.data+1) 0 s.data D).1.sync (bz (L.place+1))).1 (Lg.Nl s (L.place+1) fr)
 split
 ·exact⟨o.w.up (aaq c),o.Qh,N,o.kt,o.kv,o.idx,o.st,o.Jq,o.data,by have:=o.place;dsimp only;omega,by have:=o.fr;dsimp only;omega,by have:=o.len;dsimp only;omega,o.Jg⟩
 unfold Lg.Sy Lg.laid;refine⟨o.w.up (aaq c),o.Qh,N,o.kt,o.kv,hs.idx,hs.term,hs.Jq,hs.data,by have:=o.place;dsimp only;omega,J,?_,?_⟩
 ·have:=o.len
  grind
 dsimp only
 split
 ·exact fun e U=>o.Jg e<|aaV U
 simp
def aW.TC{c D}(d:aW c D){L}(o:bh c L)(U:c<=999000000)(s)(hs:pp s)(fr):aW (c+((eq s.data+63)/64+4)) (L.lay s fr D).2.1:=by
 have hp:=o.place;unfold bX at hp;have J:=aW.R7 (L.place+1) (by unfold bz;omega) (eq s.data+1) 0 s.data D c d;unfold Lg.lay
 split
 ·exact J.up qo
 unfold Lg.Sf;have N:=J.sync (bz (L.place+1))
 split
 ·exact N.up qo
 unfold Lg.Rq;have O:=N.save L.head 4 qo (Lg.Nl s (L.place+1) fr)
 split
 ·exact O.up qo
 unfold Lg.Sy;exact(O.free (bz L.place)).up qo
def aW.Tb{c D}(d:aW c D)(L:Lg):aW (c+1) (L.sync D).2.1:=by
 unfold Lg.sync
 split
 ·exact d.up qo
 exact d.Tc L.w
def R9(L:Lg)(D):(L.sync D).1.code=(L.sync D).2.2:=by
 unfold Lg.sync
 split<;>rfl
def ME(L:Lg)(D):(L.sync D).1.sn=L.sn/\(L.sync D).1.l=L.l/\(L.sync D).1.fr=L.fr:=by
 unfold Lg.sync
 split<;>exact⟨rfl,rfl,rfl⟩
def Fb{m:Ac}(lb db L D c)(hb:bh c L)(hc:c<=499900000)(oD:aW c D)(hm:d7 K lb db L D m)(s)(a4:s.idx<2^64)(a5:s.term<=ac)(cc:eq s.Jq<2^40)(b8:eq s.data<2^40)
  (aS cS aT cT) (xS:aj K aS (eq s.Jq) cS 1 (iv s.Jq)) (xT:aj K aT (eq s.data) cT 1 (bv s.data)):
  ai w0 91 [Rp lb,.agg (dg s aS cS aT cT)] K (m++hs)
   (fun u K' hs'=>Le K K'/\∃m',hs'=m'++hs/\d7 K' lb db (L.save s D).1 (L.save s D).2.1 m'/\u=.int .i64 (L.save s D).2.2):=by
 have X:=hm;obtain⟨wb,cY,eb,aV,cV,aD,cD,aL,cL,wh,hh,eh,gl,dh,rfl,hW,hH,hE,hG,hD,xV,xD⟩:=hm;obtain⟨R,J⟩:=a9 (L.save s D);rw[<-J];unfold Lg.save at J;refine ent Tryz.func91 ?_;refine acY (bx 0 I fun b3=>?_);refine Ew (pt b3 (dg s aS cS aT cT) 48::([_,_,_,_,_,_]++hs)) I ?_;refine Bi (aaQ (l₁:=[_,_,_,_,_,_])).symm (fin 1 I (acV (fI 1 6 I I qk (cl 0 I (FA (hv:=K) (hd':=K) lb db L D c hb qo X s a4 aS cS aT cT xS cc b8) ?_))));rintro v8 K8 c2 ⟨rfl,rfl,rfl⟩;refine fin 1 I (th ?_)
 by_cases hf:L.fits s=0
 ·rw[aaa (by rw[hf];simp)]at J;have U:=hf;unfold Lg.fits at U
  have b7:L.code=0:=by
   omega
  rw[aaa qo]at U
  have ab:(bG s.Jq).isSome=true/\eq s.data<=2097152:=by
   grind
  rw[aaa (by rw[ab.1];simp;exact ab.2)]at U
  have a3:L.sn.idx<s.idx/\s.idx<bX:=by
   omega
  have ap:pp s:=⟨qo,a5,sS ab.1,ab.2⟩;rw[hf];refine sq (acY (bc 1 I (fun _=>fI 2 6 I I qk (cl 0 I (ze (hv:=K8) lb db L D c hb qo X s a4 aS cS aT cT) ?_)) (fun h=>absurd I h)));rintro c3 cs cm ⟨rfl,rfl,rfl⟩;cases hhas:fj L.sn L.l s with
  |false=>
   rw[aab hhas]at J;refine fin 2 I (th (dk I (rg (fin 1 I (acU (fin 2 I (th (dk I (acY (fin 2 I (ac0 (rT (Ej 6 I ?_)))))))))))));rw[J];exact af I I ⟨Cg _,[_,_,_,_,_,_],I,X,I⟩
  |true=>
   rw[aaa (by rw[hhas];simp)]at J;refine fin 2 I (th (bP I (sk (acU (fin 2 I (th (bP I (sk (th ?_)))))))));unfold Lg.Si at J;obtain⟨Y,hY⟩:=a9 (L.sync D);have O:=hb.sync D;have ak:=oD.Tb L;have ag:=R9 L D;obtain⟨aF,a1,a0⟩:=ME L D;rw[<-hY]at J O ak ag aF a1 a0;refine sq (sq (bO [pt b3 (dg s aS cS aT cT) 48] 10 [0,3,4,6,8,10,12,14,16,18,21,22,24] Q8 qk qk (au ?_)));refine cl 0 I (E5 lb db L D c hb qo oD X) ?_;rintro c4 ct cn ⟨rfl,m2,rfl,aa,rfl⟩;rw[<-hY]at aa⊢;obtain⟨L2,D2,C2⟩:=Y;dsimp only at aa J O ak ag aF a1 a0;obtain⟨cd,a2,bs,bi,bp,a6,bm,bb,bo,c8,c1,cB,cE,cz,rfl,cR,cQ,cN,cO,cF,dl,dj⟩:=id aa;refine oT [pt b3 (dg s aS cS aT cT) 48,pt lb (eO cd db a2 bs L2 bi bp a6 bm bb bo) 119] Q8 Q8 I (dP qk 0 (C2≠0) I Q8 (fun h6=>?_) (fun h6=>?_))
   ·rw[aab h6]at J;refine aB qk 7 I (Bc 1 I (bQ (.inl qk) (aI qk 2 I (th (dk I (acY (aX 3 0 I I I (fin 1 I (ac0 (rT (Ej 6 I ?_)))))))))));rw[J];exact af I I ⟨Cg _,[_,_,_,_,_,_],I,aa,by rw[<-ag];rfl⟩
   have h6:=aag.1 h6;subst h6;rw[aaa Q8]at J;unfold Lg.Sj at J;have b9:=O.fr;obtain⟨Z,hZ⟩:=a9 (L2.lay s L2.fr D2);have am:=O.lay s ap L2.fr qo D2;have aO:=ak.TC (O.up (aaq c)) qo s ap L2.fr;have aN:=C5 L2 s L2.fr D2;have ck:=ap.data;rw[<-hZ]at J am aO aN;refine ln qk 2 0 I qk I qk (bR qk 3 1 I qk I I (aB qk 0 I ?_));unfold c9 at b9;refine cl 0 I (F1 lb db L2 D2 (c+1) (O.up (aaq c)) qo ak aa ag s qo (by rw[aF];exact a3.1) a5 ab.2 (by have:=ap.Jq;omega) aS cS aT cT xS xT L2.fr qo) ?_;rintro c5 cu cp ⟨le,m3,rfl,an,rfl⟩;rw[<-hZ]at an⊢;obtain⟨L3,D3,C3⟩:=Z;dsimp only at an J am aO aN;obtain⟨ad,N,ae,ay,aE,aq,az,av,aA,dd,ca,bB,bV,cA,rfl,b6,b5,b2,b4,b1,ch,cg⟩:=id an
   refine au ?_;refine dU qk 0 (C3≠0) I Q8 fun cy b0=>au ?_;refine ax b0 I (fun e7=>?_) (fun e7=>?_)
   ·rw[aab e7]at J;refine acY (aX 3 0 I I I (fin 1 I (ac0 (rT (Ej 6 I ?_)))));rw[J];exact af I I ⟨le,[_,_,_,_,_,_],I,an,by rw[<-aN];rfl⟩
   have e7:=aag.1 e7;subst e7;rw[aaa Q8]at J;obtain⟨V,hV⟩:=a9 (L3.w.Jh (s.idx+1) D3);rw[<-hV]at J;unfold bX at a3;refine sk (th (sq (bO [pt b3 (dg s aS cS aT cT) 48,pt lb (eO ad db N ae L3 ay aE aq az av aA) 119] 9 [0,2,4,6,8,10,12,14,17,19,20] Q8 qk qk (dA [8] qk 4 1 I qk I I (dA [8,7] qk 1 0 I qk I I (bF qk 0 I (bL (x:=((s.idx+1:Nat):Int)) qo) (au ?_)))))));refine cl 0 I (Ct.Te 1 4 I I (KE ad db L3.w b6 D3 (c+1+((eq s.data+63)/64+4)) aO qo (am.w.up qo) (by have:=am.w.Jd;omega) b1 (s.idx+1) qo)) ?_;rintro c6 cv cq ⟨ce,bq,rfl,cU,aY,aR,rfl⟩;rw[<-hV]at aY aR⊢;refine zj [pt b3 (dg s aS cS aT cT) 48,pt lb (eO ad db N ae L3 ay aE aq az av aA) 119] Q8 Q8 cU (au ?_)
   refine cl 0 I (lM lb ad db N ae L3 _ _ _ _) ?_;rintro c7 cx cr ⟨_,rfl,rfl,rfl,rfl⟩;have ed:fJ L3.code V.2.2=V.2.2:=by unfold fJ;omega
   rw[ed];refine bQ (.inl qk) (aI qk 1 I (ac0 (Ej 6 I ?_)));rw[J];exact af I I ⟨le.trans cU,[_,_,_,_,_,_],I,⟨ad,N,ae,ay,aE,aq,az,av,aA,ce,ca,bB,bV,bq,I,aY,b5.le cU,b2.le cU,b4.imp fun _ _ h=>h.le cU,aR,ch.le cU,cg.le cU⟩,I⟩
 rw[aab hf]at J;refine sq (acY (bc 1 I (fun h=>absurd h hf) (fun _=>au ?_)));refine bc 1 I (fun _=>fin 0 I (th (dk I (acY (fin 2 I (ac0 (rT (Ej 6 I ?_)))))))) (fun h=>absurd hf h);rw[J];exact af I I ⟨Cg _,[_,_,_,_,_,_],I,X,I⟩
def Km{m:Ac}(lb db L D c)(hb:bh c L)(hc:c<=499900000)(oD:aW c D)(hm:d7 K lb db L D m)(s)(aE:s.idx<2^64)(aF:s.term<=ac)(a1:eq s.Jq<2^40)(aY:eq s.data<2^40)
  (aS cS aT cT) (xS:aj K aS (eq s.Jq) cS 1 (iv s.Jq)) (xT:aj K aT (eq s.data) cT 1 (bv s.data)):
  ai w0 149 [Rp lb,.agg (dg s aS cS aT cT)] K (m++hs)
   (fun u K' hs'=>Le K K'/\∃m',hs'=m'++hs/\d7 K' lb db (L.install s D).1 (L.install s D).2.1 m'/\u=.int .i64 (L.install s D).2.2):=by
 have X:=hm;obtain⟨wb,aR,eb,aV,cV,aD,cD,aL,cL,wh,hh,eh,gl,dh,rfl,hW,hH,hE,hG,hD,xV,xD⟩:=hm;obtain⟨R,N⟩:=a9 (L.install s D);rw[<-N];unfold Lg.install at N;refine enter Tryz.func149 qk I I I (acY (bx 0 I fun b3=>?_));refine Ew (pt b3 (dg s aS cS aT cT) 48::([_,_,_,_,_,_]++hs)) I ?_;refine Bi (aaQ (l₁:=[_,_,_,_,_,_])).symm (fin 1 I (acV (fI 1 6 I I qk (cl 0 I (FA (hv:=K) (hd':=K) lb db L D c hb qo X s aE aS cS aT cT xS a1 aY) ?_))));rintro v8 K8 cB ⟨rfl,rfl,rfl⟩;refine fin 1 I (acU (aw 1 I fun cp a5=>fin 0 I (th (ax a5 I (fun e2=>?_) (fun e2=>?_)))))
 ·rw[aab e2]at N;refine acY (fin 2 I (ac0 (rT (Ej 6 I ?_))));rw[N];exact af I I ⟨Cg _,[_,_,_,_,_,_],I,X,I⟩
 rw[aaa e2]at N;have hf:=aag.1 e2;have J:=hf;unfold Lg.fits at J
 have U:L.code=0:=by
  by_cases h:L.code=0
  ·exact h
  rw[aab h]at J;exact absurd J h
 rw[aaa (by rw[U];simp)]at J
 have Y:(bG s.Jq).isSome=true/\eq s.data<=2097152:=by
  by_cases h:(bG s.Jq).isSome=false\/2097152<eq s.data
  ·rw[aab h]at J;cases J
  have h1:=not_or.1 h;exact⟨by cases h2:(bG s.Jq).isSome with|true=>rfl|false=>exact absurd h2 h1.1,qo⟩
 rw[aaa (by rw[Y.1];simp;exact Y.2)]at J
 have a0:L.sn.idx<s.idx/\s.idx<bX:=by
  by_cases h:s.idx<=L.sn.idx\/bX<=s.idx
  ·rw[aab h]at J;cases J
  omega
 have ag:pp s:=⟨qo,aF,sS Y.1,Y.2⟩;refine sk (acU (fI 1 6 I I qk (cl 0 I (ze (hv:=K8) lb db L D c hb qo X s aE aS cS aT cT) ?_)));rintro cE ca b4 ⟨rfl,rfl,rfl⟩;cases hhas:fj L.sn L.l s with
 |true=>
  rw[aab hhas]at N;refine fin 0 I (th (dk I (acY (fI 1 6 I I qk (cl 0 I (Fb lb db L D c hb hc oD X s aE aF a1 aY aS cS aT cT xS xT) ?_)))));rintro cF cc b5 ⟨le,m2,rfl,aA,rfl⟩;rw[<-N]at aA⊢;obtain⟨cY,b1,cx,cn,ct,ck,cr,cm,cs,c1,cA,cy,cz,cu,rfl,_⟩:=id aA;refine fin 1 I (ac0 (rT (Ej 6 I ?_)));exact af I I ⟨le,[_,_,_,_,_,_],I,aA,I⟩
 |false=>
  rw[aaa (by rw[hhas];simp)]at N;refine fin 0 I (th (bP I (sk (th ?_))));unfold Lg.Se at N;have bs:=hb.w.next;obtain⟨Z,hZ⟩:=a9 (L.lay s L.w.next D);have ay:=hb.lay s ag L.w.next qo D;have az:=oD.TC hb qo s ag L.w.next;have ad:=C5 L s L.w.next D;have b2:=ag.data;rw[<-hZ]at N ay az ad;unfold c9 at bs;refine sq (sq (bO [pt b3 (dg s aS cS aT cT) 48,pt lb (eO wb db aR eb L aV cV aD cD aL cL) 119] 7 [0,2,4,6,8,10,13,15,16] Q8 qk qk (ln qk 1 0 I qk I qk (dA [6] qk 3 1 I qk I I (aB qk 0 I (cl 0 I (Ck 1 I (OG wb db L.w hW)) ?_))))));rintro cN cd b6 ⟨rfl,rfl,rfl⟩;refine oT [pt b3 (dg s aS cS aT cT) 48,pt lb (eO wb db aR eb L aV cV aD cD aL cL) 119] Q8 Q8 I (aB qk 0 I (cl 0 I (F1 lb db L D c hb qo oD X U s qo a0.1 aF Y.2 (by have:=ag.Jq;omega) aS cS aT cT xS xT L.w.next qo) ?_))
  rintro cO ce b7 ⟨le,m3,rfl,ae,rfl⟩;rw[<-hZ]at ae⊢;obtain⟨L3,D3,C3⟩:=Z;dsimp only at ae N ay az ad;obtain⟨aa,O,ab,an,av,ak,ap,am,aq,c2,bq,a3,a4,cv,rfl,bp,bo,bi,bm,bb,b0,bV⟩:=id ae;refine bQ (.inl qk) (dU qk 0 (C3≠0) I Q8 fun cq a6=>aI qk 0 I (th (ax a6 I (fun e4=>?_) (fun e4=>?_))))
  ·rw[aab e4]at N;refine acY (aX 3 0 I I I (fin 1 I (ac0 (rT (Ej 6 I ?_)))));rw[N];exact af I I ⟨le,[_,_,_,_,_,_],I,ae,by rw[<-ad];rfl⟩
  have e4:=aag.1 e4;subst e4;rw[aaa Q8]at N;obtain⟨V,hV⟩:=a9 (L3.w.reset (s.idx+1) D3);rw[<-hV]at N;unfold bX at a0;refine sk (th (sq (bO [pt b3 (dg s aS cS aT cT) 48,pt lb (eO aa db O ab L3 an av ak ap am aq) 119] 9 [0,2,4,6,8,10,12,14,17,19,20] Q8 qk qk (dA [8] qk 4 1 I qk I I (dA [8,7] qk 1 0 I qk I I (bF qk 0 I (bL (x:=((s.idx+1:Nat):Int)) qo) (aB qk 0 I (cl 0 I (Ct.Te 1 4 I I (MS aa db L3.w bp D3 (c+((eq s.data+63)/64+4)) az qo (ay.w.up qo) bb (s.idx+1) qo)) ?_))))))));rintro cQ cg b8 ⟨bB,a2,rfl,cU,aO,aN,rfl⟩;rw[<-hV]at aO aN⊢;refine zj [pt b3 (dg s aS cS aT cT) 48,pt lb (eO aa db O ab L3 an av ak ap am aq) 119] Q8 Q8 cU (aB qk 0 I (cl 0 I (lM lb aa db O ab L3 _ _ _ _) ?_))
  rintro cR ch b9 ⟨_,rfl,rfl,rfl,rfl⟩;have ed:fJ L3.code V.2.2=V.2.2:=by unfold fJ;rw[aab ad]
  rw[ed];refine bQ (.inl qk) (aI qk 1 I (ac0 (Ej 6 I ?_)));rw[N];exact af I I ⟨le.trans cU,[_,_,_,_,_,_],I,⟨aa,O,ab,an,av,ak,ap,am,aq,bB,bq,a3,a4,a2,I,aO,bo.le cU,bi.le cU,bm.imp fun _ _ h=>h.le cU,aN,b0.le cU,bV.le cU⟩,I⟩
end
section
def jo(S:cW):Option (Nat×Int):=
 if S.num=0 then some (0,-1)
 else if kB (aG 7 (aG ac (S.val,0)).2).2=0 then some ((aG ac (S.val,0)).1,(((aG 7 (aG ac (S.val,0)).2).1:Nat):Int)-1)else none
def nZ(D:Dk)(place size:Nat):Nat->Nat->Aa->Option (Aa)
 |0,_,J=>some J
 |f+1,n,J=>if eq J<size then(match D.read (bz place) n with
   |none=>none
   |some b=>nZ D place size f (n+1) (J++b))else some J
def mM(b:Aa):Nat×Rd:=aG bX (b,0)
def mK(b:Aa):Nat×Rd:=aG ac (mM b).2
def qB(b:Aa):Nat×Rd:=aG bX (mK b).2
def pd(b:Aa):Nat×Rd:=aG 2097152 (qB b).2
def sH(b:Aa):Nat×Rd:=aG bX (pd b).2
def qA(b:Aa):Nat×Rd:=br (sH b).2
def kq(D:Dk)(S:cW)(J:Ae):Option (bE×Nat×Nat):=
 if S.num=0 then some (⟨0,0,J,[]⟩,0,0)
 else if kB (qA S.val).2≠0\/(fB [UInt8.ofNat (qA S.val).1]).isSome=false then none
 else match nZ D (qB S.val).1 (pd S.val).1 32769 0 []with
  |none=>none
  |some d=>some (⟨(mM S.val).1,(mK S.val).1,(fB [UInt8.ofNat (qA S.val).1]).getD [],d.take (pd S.val).1⟩,(qB S.val).1,(sH S.val).1)
def j6:Nat->List (Aa)->Option (List ah)
 |_,[]=>some []
 |i,b::r=>match gD b with
  |none=>none
  |some e=>if e.idx=i then(j6 (i+1) r).map (e :: ·)else none
def lF(s:bE)(W:Wl):Option (List ah):=
 if s.idx+1<W.first\/W.first+eq W.Ja<s.idx+1 then none else j6 (s.idx+1) (W.Ja.drop (s.idx+1-W.first))
def Na(J:Nat):Ae->Dk->Dk×Int
 |[],D=>(D,0)
 |a::r,D=>if a%4=2/\a≠((bz J:Nat):Int)then(if(D.free a).2≠0 then D.free a else Na J r (D.free a).1)else Na J r D
def rI(D:Dk)(J:Nat×Int)(h:bE×Nat×Nat)(F:Dk):Option Lg×Dk×Int:=
 match(dL F h.2.2 (h.1.idx+1)).1 with
 |none=>(none,(dL F h.2.2 (h.1.idx+1)).2.1,if(dL F h.2.2 (h.1.idx+1)).2.2=52 then 181 else(dL F h.2.2 (h.1.idx+1)).2.2)
 |some w=>match lF h.1 w with
  |none=>(none,(dL F h.2.2 (h.1.idx+1)).2.1,181)
  |some l=>(some ⟨w,iF D 0,iF D 4,J.1,J.2,h.1,h.2.1,h.2.2,l,0⟩,(dL F h.2.2 (h.1.idx+1)).2.1,0)
def rJ(D:Dk)(J:Nat×Int)(h:bE×Nat×Nat):Option Lg×Dk×Int:=
 if(Na h.2.1 (aU D) D).2≠0 then(none,Na h.2.1 (aU D) D)else rI D J h (Na h.2.1 (aU D) D).1
def eZ(D:Dk)(first:Ae):Option Lg×Dk×Int:=
 if(bG first).isSome=false then(none,D,181)
 else if D.dead=true then(none,D,30)
 else match jo (iF D 0)with
  |none=>(none,D,181)
  |some J=>match kq D (iF D 4) first with
   |none=>(none,D,181)
   |some h=>rJ D J h
def ga(Y:Am)(db:Nat)(hp N:Am)(kt:Nat)(kv:Int)(V st:Nat)(X J:Value)(U fr:Nat)(O:Value)(cd:Int):Ah:=
 #[.pointer (Y.map fun b=>⟨b,0,none⟩),Rp db,.pointer (hp.map fun b=>⟨b,0,none⟩),.pointer (N.map fun b=>⟨b,0,none⟩),.int .u64 kt,.int .i64 kv,
  .int .u64 V,.int .u64 st,X,J,.int .u64 U,.int .u64 fr,O,.int .i64 cd]
def JT{Y:PH}(lb db hb wp ep si st vS dS pl fr lS cd S)(hS:ju K hb db 0 S Y)(ae:S.bd):
  ai w0 54 [Rp lb] K (pt lb (ga wp db (some hb) ep 0 (-1) si st vS dS pl fr lS cd) 119::Y::hs)
   (fun v K' hs'=>Le K K'/\∃kt kv,hs'=pt lb (ga wp db (some hb) ep kt kv si st vS dS pl fr lS cd) 119::Y::hs/\v=.bool (jo S).isSome/\∀p,jo S=some p->p=(kt,kv)):=by
 unfold jo;obtain⟨hn,hv⟩:=ae;refine cP Tryz.func54 ?_;refine cl 0 I (Ck 1 I (C1 hb db 0 S hS)) ?_;rintro v8 K8 aD ⟨rfl,rfl,rfl⟩;refine bc 0 I (fun e2=>?_) (fun e2=>?_)
 ·refine au ?_;rw[aab qo];refine au ?_;exact af I I ⟨Cg _,0,-1,I,I,fun p hp=>(aaW hp).symm⟩
 refine au ?_;rw[aaa qo];refine au ?_;refine cl 0 I (Er 1 I (DB hb db 0 S hS ⟨hn,hv⟩)) ?_;rintro aL aq ag ⟨Y,rfl,rfl,le,ao,k,rfl,x⟩;refine cl 0 I (rR ao k S.val (.inl I) x qo) ?_;rintro aN av ak ⟨rfl,rb,rd,rh,rfl,rfl,ir⟩;obtain⟨Z,O⟩:∃r,r=aG ac (S.val,0):=⟨_,rfl⟩;have N:=kS ac (S.val,0);have ab:=ia ac (S.val,0);rw[<-O]at N ab⊢;obtain⟨r2,U⟩:∃r,r=aG 7 Z.2:=⟨_,rfl⟩;have ad:=ia 7 Z.2;rw[<-U]at ad⊢;refine au ?_;refine cl 2 I (ie (.inr ⟨0,I⟩) ac (S.val,0) aC ir) ?_;rintro aO ay am ⟨aE,rfl,rfl,rfl,V⟩;rw[<-O]at V⊢;refine au ?_;refine cl 2 I (ie (.inr ⟨0,I⟩) 7 Z.2 (by dsimp only at N;omega) V) ?_;rintro aR az an ⟨aF,rfl,rfl,rfl,X⟩;rw[<-U]at X⊢;refine ar 0 I (ba qo) (ar 0 I (ba qo) (au ?_));refine cl 1 I (u5 r2.2 X) ?_;rintro aS aA ap ⟨rfl,rfl,rfl⟩
 refine aw 0 I fun J aa=>fin 1 I<|ac0<|Bh (Bh ?_)
 by_cases e:kB r2.2=0
 ·rw[aab e];obtain rfl:J=true:=aa.2 e;exact af I I ⟨le,Z.1,_,I,I,fun p hp=>(aaW hp).symm⟩
 rw[aaa e];obtain rfl:J=false:=by simp_all
 exact af I I ⟨le,_,_,I,I,fun p hp=>by cases hp⟩
end
section
def wa(D place size f n)(J:Aa):nZ D place size (f+1) n J=if eq J<size then(match D.read (bz place) n with
   |none=>none
   |some b=>nZ D place size f (n+1) (J++b))else some J:=rfl
def JS{w0:World}{K eh dh:PH}{hs:Ac}(lb db eb wp hp kt kv vot0 a0 c0)(x0:aj K a0 (eq vot0) c0 1 (iv vot0))(lS cd S)(hS:ju K eb db 4 S eh)(aY:S.bd)(D c)(oD:D.Ok c)(hc:c<=1000000000)(hd:bM K db D dh):
  ai w0 55 [Rp lb] K (pt lb (ga wp db hp (some eb) kt kv 0 0 (.slice a0 (eq vot0) c0) (.slice none 0 0) 0 0 lS cd) 119::eh::dh::hs)
   (fun v K' hs'=>Le K K'/\∃sn pl fr aV cV aD cD,hs'=pt lb (ga wp db hp (some eb) kt kv (bE.idx sn) sn.term (.slice aV (eq sn.Jq) cV) (.slice aD (eq sn.data) cD) pl fr lS cd) 119::eh::dh::hs/\v=.bool (kq D S vot0).isSome /\
    aj K' aV (eq sn.Jq) cV 1 (iv sn.Jq)/\aj K' aD (eq sn.data) cD 1 (bv sn.data)/\∀p,kq D S vot0=some p->p=(sn,pl,fr)):=by
 unfold kq;obtain⟨hn,hv⟩:=aY;refine cP Tryz.func55 ?_;refine cl 0 I (Ck 1 I (C1 eb db 4 S hS)) ?_;rintro c1 ck bV ⟨rfl,rfl,rfl⟩;refine bc 0 I (fun e2=>?_) (fun e2=>?_)
 ·refine au ?_;rw[aab qo];refine au ?_;exact af I I ⟨Cg _,⟨0,0,vot0,[]⟩,0,0,a0,c0,none,0,I,I,x0,aj.nil _ _ _ _,fun p hp=>(aaW hp).symm⟩
 refine au ?_;rw[aaa qo];obtain⟨a1,h1⟩:∃r,r=mM S.val:=⟨_,rfl⟩;obtain⟨a2,h2⟩:∃r,r=mK S.val:=⟨_,rfl⟩;obtain⟨O,h3⟩:∃r,r=qB S.val:=⟨_,rfl⟩;obtain⟨U,h4⟩:∃r,r=pd S.val:=⟨_,rfl⟩;obtain⟨X,h5⟩:∃r,r=sH S.val:=⟨_,rfl⟩;obtain⟨a6,h6⟩:∃r,r=qA S.val:=⟨_,rfl⟩;have g1:aG bX (S.val,0)=a1:=h1.symm;have g2:aG ac a1.2=a2:=by rw[h2,h1];rfl
 have g3:aG bX a2.2=O:=by rw[h3,h2];rfl
 have g4:aG 2097152 O.2=U:=by rw[h4,h3];rfl
 have g5:aG bX U.2=X:=by rw[h5,h4];rfl
 have g6:br X.2=a6:=by rw[h6,h5];rfl
 rw[<-h1,<-h2,<-h3,<-h4,<-h5,<-h6];have l1:eq a1.2.1<=48:=by grind[kS]
 have l2:eq a2.2.1<=48:=by grind[kS]
 have l3:eq O.2.1<=48:=by grind[kS]
 have l4:eq U.2.1<=48:=by grind[kS]
 have l5:eq X.2.1<=48:=by grind[kS]
 have m1:a1.1<=bX:=by rw[<-g1];exact ia _ _
 have m3:O.1<=bX:=by rw[<-g3];exact ia _ _
 have m4:U.1<=2097152:=by rw[<-g4];exact ia _ _
 have m5:X.1<=bX:=by rw[<-g5];exact ia _ _
 clear h1 h2 h3 h4 h5 h6;refine au ?_;refine cl 0 I (Er 1 I (DB eb db 4 S hS ⟨hn,hv⟩)) ?_;rintro c2 cm b0 ⟨eh,rfl,rfl,le,ao,k,rfl,x⟩;refine cl 0 I (rR ao k S.val (.inl I) x qo) ?_;rintro c3 cn b1 ⟨rfl,rb,rd,rh,rfl,rfl,N⟩;refine au ?_;refine cl 1 I (ie (.inr ⟨0,I⟩) bX (S.val,0) aC N) ?_;rintro c4 cp b2 ⟨cQ,rfl,rfl,rfl,N⟩;rw[g1]at N⊢;refine cl 1 I (ie (.inr ⟨0,I⟩) ac a1.2 qo N) ?_;rintro c5 cq b3 ⟨cR,rfl,rfl,rfl,N⟩;rw[g2]at N⊢;refine bd 0 (.agg #[.int .u64 a1.1,.int .u64 a2.1,.slice none 0 0,.slice none 0 0]) I Aq (al 0 (.agg It) I qk fun b4=>?_);refine bA 0 0 I I qk I I ?_;refine fin 0 I (acV (cl 2 I (Er 1 I (ie (.inr ⟨1,I⟩) bX a2.2 qo N)) ?_));rintro c6 cr b5 ⟨cS,rfl,rfl,rfl,N⟩
 rw[g3]at N⊢;refine au ?_;refine cl 1 I (Er 1 I (ie (.inr ⟨1,I⟩) 2097152 O.2 qo N)) ?_;rintro c7 cs b7 ⟨cT,rfl,rfl,rfl,N⟩;rw[g4]at N⊢;refine ar 0 I (ba (x:=((U.1:Nat):Int)) qo) (au ?_);refine cl 2 I (Er 1 I (ie (.inr ⟨1,I⟩) bX U.2 qo N)) ?_;rintro c8 ct b8 ⟨cY,rfl,rfl,rfl,N⟩;rw[g5]at N⊢;refine Ji 2 3 I I I I (Ez 3 (pt lb (ga wp db hp (some eb) kt kv 0 0 (.slice a0 (eq vot0) c0) (.slice none 0 0) O.1 X.1 lS cd) 119) ?_);refine au ?_;refine cl 1 I (Er 1 I (rZ (.inr ⟨1,I⟩) X.2 N)) ?_;rintro dd cu b9 ⟨bp,rfl,rfl,rfl,N⟩;rw[g6]at N⊢;have aT:a6.1<256:=by rw[<-g6];exact tL _
 refine lit 0 #[.int .u8 a6.1] I Q9 qk fun am=>?_;have bm:=nP am a6.1 aT;refine cl 0 I (tR (some ⟨am,0,none⟩) 1 [UInt8.ofNat a6.1] (.inr ⟨0,I⟩) bm.Ni Q8) ?_;rintro dj cv ca ⟨rfl,aA,J,Z,rfl,rfl,ad⟩;obtain⟨C,hC⟩:=a9 (fB [UInt8.ofNat a6.1]);rw[<-hC]at ad⊢;refine al 3 (.agg Ij) I qk fun b6=>?_;refine bA 0 0 I I qk I I ?_;refine Ew (pt b6 #[.slice J (eq (C.getD [])) Z] 46::aA::pt am #[.int .u8 a6.1] 5::pt b4 #[.int .u64 a1.1,.int .u64 a2.1,.slice none 0 0,.slice none 0 0] 48::bp::rh::pt lb (ga wp db hp (some eb) kt kv 0 0 (.slice a0 (eq vot0) c0) (.slice none 0 0) O.1 X.1 lS cd) 119::eh::dh::hs) I (au ?_);refine cl 1 I (Ck 4 I (u5 a6.2 N)) ?_;rintro dl cx cc ⟨rfl,rfl,rfl⟩;refine aw 0 I fun cz aO=>?_
 refine' dB (q:=C.isSome=false) 1 3 54 [50,51] aO I I I I I I I (fun _=>?x4) (fun cB aS=>?_)
 case x4=>
  exact aw 1 I fun cA aR=>fin 1 I (bJ (aR.trans (by cases C<;>simp[ec])) rfl rfl rfl)
 refine fin 0 I<|th (ax aS I (fun e6=>?_) (fun e6=>?_))
 ·rw[aab e6];exact acY (fin 1 I (ac0 (rT (Bh (Bh (Bh (Bh (Bh (Bh (af I I ⟨le,⟨0,0,vot0,[]⟩,O.1,X.1,a0,c0,none,0,I,I,x0.le le,aj.nil _ _ _ _,fun p hp=>by cases hp⟩))))))))))
 rw[aaa e6]
 obtain⟨cf,rfl⟩:∃cf,C=some cf:=by
  cases C with
  |none=>exact absurd (.inr rfl) e6
  |some cf=>simp
 have ad:aJ aA J (eq cf) Z 3 1 (iv cf):=ad;refine sk (acV (fI 0 0 I I qk (lX 1 3 I I qk Q8 (fun v hv=>by simp at hv;subst hv;rfl) (Bf (Eg fun K1 l1 l2=>Bf (WL.del 1 rfl (WL.del 1 rfl ?_)))))));have bq:=ad.Ni.le l2;have bi:=le.trans l1;refine Ew (pt b4 #[.int .u64 a1.1,.int .u64 a2.1,.slice J (eq cf) Z,.slice none 0 0] 48::pt lb (ga wp db hp (some eb) kt kv 0 0 (.slice a0 (eq vot0) c0) (.slice none 0 0) O.1 X.1 lS cd) 119::eh::dh::hs) I (fin 0 I (acU ?_));obtain⟨R,hR⟩:=a9 (nZ D O.1 U.1 32769 0 []);rw[<-hR];refine fin 1 I (th (bk (Es ?_)))
 refine loop (σ:=(Nat×Aa)×(Ab×Nat×PH)×PH) (fun s=>[(0,Rp lb),(4,Rp b4),(5,.int .i64 U.1),(8,.int .i64 s.1.1)]) (fun s=>s.2.2)
  (fun s=>s.2.1.2.2::pt b4 #[.int .u64 a1.1,.int .u64 a2.1,.slice J (eq cf) Z,.slice s.2.1.1 (eq s.1.2) s.2.1.2.1] 48::pt lb (ga wp db hp (some eb) kt kv 0 0 (.slice a0 (eq vot0) c0) (.slice none 0 0) O.1 X.1 lS cd) 119::eh::dh::hs)
  (fun s=>eq s.1.2=64*s.1.1/\s.1.1<=32768/\nZ D O.1 U.1 (32769-s.1.1) s.1.1 s.1.2=R/\Le K1 s.2.2/\aJ s.2.1.2.2 s.2.1.1 (eq s.1.2) s.2.1.2.1 5 1 (bv s.1.2)) (fun s=>32769-s.1.1)
  ((0,[]),(none,0,em),K1) ⟨rfl,aad _,hR.symm,Cg _,aJ.nil _ _⟩ ⟨rfl,rfl,rfl,rfl,trivial⟩ rfl rfl ?_
 rintro⟨⟨n,V⟩,⟨ag,cg,g⟩,K2⟩ ⟨cE,cN,hw,aq,og⟩;dsimp only at *;have Y:=bi.trans aq;rw[show 32769-n=(32768-n)+1 from qo,wa]at hw;unfold bX at m3 m5 m1;refine au ?_;refine bc 2 I (fun e8=>?_) (fun e8=>?_)
 ·refine au ?_;rw[aab qo]at hw;have cO:n<32768:=qo
  refine au ?_;refine bO [pt lb (ga wp db hp (some eb) kt kv 0 0 (.slice a0 (eq vot0) c0) (.slice none 0 0) O.1 X.1 lS cd) 119] 16 [0,2,4,6,8,10,12,14,18,17,21,22,24,26,28,30] Q8 qk qk (au ?_);refine cl 0 I (rM O.1 qo) ?_;rintro dq cy ce ⟨rfl,rfl,rfl⟩;refine aP Q8 I (aB qk 0 I (cl 0 I (Er 4 I (y7 db D c oD qo (hd.le Y) (bz O.1) n)) ?_));rintro dr aN ch ⟨dh,rfl,rfl,aa,bb⟩;refine dX Q8 aa ?_;rcases bb with⟨an,rfl⟩|⟨bs,ab,kb,ap,cF,rfl,xb⟩
  ·rw[an]at hw;refine aI qk 5 I (acU (fin 2 I (th (dk I (acY (fin 1 I (ac0 (rT (rB (rT (rT (rB (rT (Bh (Bh ?_)))))))))))))));rw[<-hw];exact af I I ⟨Y.trans aa,⟨0,0,vot0,[]⟩,O.1,X.1,a0,c0,none,0,I,I,x0.le (Y.trans aa),aj.nil _ _ _ _,fun p hp=>by cases hp⟩
  rw[ap]at hw;dsimp only at hw;refine au ?_;refine app 1 0 I I og (.inl I) xb I Q9 (gE _) (by grind) As fun ae av az bo=>?_;have aF:aJ az ae (eq (V++bs)) av 5 1 (bv (V++bs)):=pV bo Q8 (by rw[kT]);refine au ?_;refine eP 1 n ?_;refine fin 1 I (bn (x:=((n,V),(ag,cg,g),em)) ((n+1,V++bs),(ae,av,az),aN) sb I Q8 ⟨by dsimp only;rw[aaj];omega,aC,?_,aq.trans aa,aF⟩ aC)
  simp_all
 refine au ?_;rw[aaa qo]at hw;rw[<-hw];dsimp only;have cL:=og.Ni.2.1;refine au ?_
 refine sl 1 0 U.1 I og.Ni I Q8 qo (ys:=bv (V.take U.1)) (by
  simp[bv]) fun ak ay bB=>?_
 refine Ji 1 1 I I I I (Eg fun K3 l3 l4=>?_);have aL:=bB.le l4;have aE:eq (V.take U.1)=U.1:=by rw[aal];omega
 refine Ew (pt b4 #[.int .u64 a1.1,.int .u64 a2.1,.slice J (eq cf) Z,.slice ak U.1 ay] 48::pt lb (ga wp db hp (some eb) kt kv 0 0 (.slice a0 (eq vot0) c0) (.slice none 0 0) O.1 X.1 lS cd) 119::eh::dh::hs) I (fin 0 I (acV (fI 1 0 I I qk (lX 2 1 I I qk (by simp[ga]) (fun v hv=>by simp at hv;rcases hv with rfl|rfl|rfl|rfl<;>rfl) (fin 0 rfl (acV (Bf (au ?_))))))));exact af I I ⟨Y.trans l3,⟨a1.1,a2.1,cf,V.take U.1⟩,O.1,X.1,J,Z,ak,ay,by dsimp only;rw[aE];rfl,rfl,bq.le (aq.trans l3),by dsimp only;rw[aE];exact aL,fun p hp=>(aaW hp).symm⟩
end
section
def WL.fr{ops:Ai}{Q:An}{rest:Aj}{n l}(i){h}(hi:hs[i]?=some h)(N:WL P w0 ops Q rest n l K (h::hs.eraseIdx i)):WL P w0 ops Q rest n l K hs:=fun a w J O=>N a w J (O.perm (iE hs i h hi))
def WC.fr{Q:An}{n l}{c}(i){h}(hi:hs[i]?=some h)(N:WC P w0 c Q n l K (h::hs.eraseIdx i)):WC P w0 c Q n l K hs:=fun a w J O=>N a w J (O.perm (iE hs i h hi))
def xu(i)(b:Aa)(r:List (Aa)):j6 i (b::r)=match gD b with
  |none=>none
  |some e=>if e.idx=i then(j6 (i+1) r).map (e :: ·)else none:=rfl
def Hz{w0:World}{K wh:PH}{hs:Ac}(lb db wb hp ep kt kv s)(a1:s.idx<=bX)(vS dS pl fr cd W)(hW:gT K wb db W wh)(c)(hb:cK c W)(hc:c<=1000000000):
  ai w0 60 [Rp lb] K (pt lb (ga (some wb) db hp ep kt kv s.idx s.term vS dS pl fr (.slice none 0 0) cd) 119::wh::hs)
   (fun v K' hs'=>Le K K'/\∃gl aL cL l,hs'=gl::pt lb (ga (some wb) db hp ep kt kv s.idx s.term vS dS pl fr (.slice aL (List.length l) cL) cd) 119::wh::hs/\v=.bool (lF s W).isSome /\
    dD 4 51 (eI K') gl aL (eq l) cL l/\∀x,lF s W=some x->x=l):=by
 obtain⟨R,hR⟩:=a9 (lF s W);rw[<-hR];unfold lF at hR;have ak:=hb.last;have a0:=hb.Ja;unfold bt at ak;unfold bX at a1;obtain⟨J,ad⟩:∃t,t=W.first+eq W.Ja:=⟨_,rfl⟩
 have aV:ny J=if J=0 then 18446744073709551615 else((J:Nat):Int)-1:=rfl;refine cP Tryz.func60 ?_;refine bC [0] 19 [0,4,6,8,10,12,14,3,16,18,20,24,26,28,30,32,23,34,36] ?_;refine au ?_;refine bF qk 0 I (bL (x:=((s.idx+1:Nat):Int)) qo) (au ?_);refine cl 0 I (Ck 1 I (Nt wb db W hW)) ?_;rintro cc bp a6 ⟨rfl,rfl,rfl⟩;refine aP Q8 I (dP qk 0 (s.idx+1<W.first) I Au (fun h1=>?_) (fun h1=>?_))
 ·rw[aab (.inl h1)]at hR;refine aB qk 7 I (Bc 1 I (aP Q8 I (aI qk 2 I (th (dk I (acY (fin 1 I (ac0 (rT (Ev ?_))))))))));rw[hR];exact af I I ⟨Cg _,em,none,0,[],I,I,dD.nil _ _,fun x hx=>by cases hx⟩
 refine au ?_;refine cl 0 I (Ck 1 I (Fq wb db W hW hb.last)) ?_;rintro ce ap bb ⟨rfl,rfl,rfl⟩;rw[<-ad]at hR⊢;refine aP Q8 I (dU qk 0 (ny J<((s.idx:Nat):Int)) I Q8 fun bB aF=>au ?_);refine ax aF I (fun e2=>?_) (fun e2=>?_)
 ·rw[aab qo]at hR;refine acY (fin 1 I (ac0 (rT (Ev ?_))));rw[hR];exact af I I ⟨Cg _,em,none,0,[],I,I,dD.nil _ _,fun x hx=>by cases hx⟩
 refine au ?_;refine ar 0 I (bL (x:=((s.idx+1+0:Nat):Int)) qo) (fin 1 I (th (bk (Es ?_))))
 have h0:(J=0/\R=none/\0=0)\/(s.idx+1+0<=J/\R=(j6 (s.idx+1+0) (W.Ja.drop (s.idx+1-W.first+0))).map (([]:List ah) ++ ·)):=by
  rw[aV]at e2
  by_cases h:J=0
  ·grind
  rw[aaa h]at e2;rw[aaa qo]at hR;refine .inr ⟨qo,?_⟩
  simp_all
 refine loop (σ:=(Nat×List ah)×(Ab×Nat×PH)×PH) (fun x=>[(0,Rp lb),(3,Rp wb),(4,.int .u64 (s.idx+1+x.1.1:Nat))]) (fun x=>x.2.2)
  (fun x=>x.2.1.2.2::pt lb (ga (some wb) db hp ep kt kv s.idx s.term vS dS pl fr (.slice x.2.1.1 (eq x.1.2) x.2.1.2.1) cd) 119::wh::hs)
  (fun x=>((J=0/\R=none/\x.1.1=0)\/(s.idx+1+x.1.1<=J/\R=(j6 (s.idx+1+x.1.1) (W.Ja.drop (s.idx+1-W.first+x.1.1))).map (x.1.2 ++ ·)))/\eq x.1.2=x.1.1/\Le ap x.2.2/\dD 4 51 (eI x.2.2) x.2.1.2.2 x.2.1.1 (eq x.1.2) x.2.1.2.1 x.1.2) (fun x=>eq W.Ja+1-x.1.1)
  ((0,[]),(none,0,em),ap) ⟨h0,rfl,Cg _,dD.nil _ _⟩ ⟨rfl,rfl,rfl,trivial⟩ rfl rfl ?_
 clear h0 hR;rintro⟨⟨j,l⟩,⟨aL,cL,gl⟩,K1⟩ ⟨hj,hl,Y,oL⟩;dsimp only at *;refine sq (acY (cl 2 I (Ck 2 I (Fq wb db W (hW.le Y) hb.last)) ?_));rintro cg bq bi ⟨rfl,rfl,rfl⟩;rw[<-ad];refine bc 0 I (fun e4=>?_) (fun e4=>?_)
 ·refine au ?_;obtain⟨i,hi⟩:=a9 (s.idx+1+j);have b5:i<2^64:=qo
  refine au ?_;refine cl 2 I (Er 2 I (Pq wb db W c hc hb (hW.le Y) (s.idx+1+j) qo)) ?_;rintro a3 aA bm ⟨wh,rfl,rfl,an,hv⟩;have az:=Y.trans an
  obtain⟨X,Z,kr,t0,rfl,xr,O⟩:∃X Z kr t0,a3=.tuple #[.slice Z (List.length X) kr,.bool t0]/\aj aA Z (eq X) kr 1 (bv X)/\((X=[]/\¬(W.first<=s.idx+1+j/\s.idx+1+j-W.first<eq W.Ja))\/(W.first<=s.idx+1+j/\W.Ja[s.idx+1+j-W.first]?=some X)):=by
   rcases hv with⟨aY,rfl⟩|⟨r,ao,k,b3,b4,rfl,x⟩
   ·exact⟨[],none,0,false,I,aj.nil _ _ _ _,.inl ⟨I,aY⟩⟩
   grind
  have a5:eq X<=512:=by
   rcases O with⟨h,_⟩|⟨_,h⟩
   ·rw[h];simp
   exact hb.RS X<|aam h
  have U:R=match gD X with
    |none=>none
    |some e=>if e.idx=i then(j6 (i+1) (W.Ja.drop (s.idx+1-W.first+(j+1)))).map ((l++[e]) ++ ·)else none:=by
   rcases hj with⟨ht,aa,_⟩|⟨ht,ag⟩
   ·rcases O with⟨h,_⟩|⟨_,h⟩
    ·rw[h,aa];rfl
    grind
   rcases O with⟨_,h⟩|⟨hf,h⟩
   ·omega
   have hk:s.idx+1+j-W.first=s.idx+1-W.first+j:=qo
   rw[hk]at h;have aT:=(aav.1 h).1;rw[aaI aT,show W.Ja[s.idx+1-W.first+j]=X from by simp_all,xu,<-hi]at ag;rw[ag];cases gD X with
   |none=>rfl
   |some e=>
    dsimp only
    by_cases he:e.idx=i
    ·rw[aab he,aab he];cases j6 (i+1) (W.Ja.drop (s.idx+1-W.first+j+1))with
     |none=>rfl
     |some t=>simp
    rw[aaa he,aaa he];rfl
  refine au ?_;refine cl 1 I (EA Z kr X (.inl I) xr qo) ?_;rintro ch bs bo ⟨rfl,av,N,V,rfl,rfl,ab⟩;obtain⟨oe,am⟩:=a9 (gD X);rw[<-am]at ab U⊢;refine al 3 (.agg Il) I qk fun b7=>?_;refine bA 0 0 I I qk I I ?_;refine Ew (pt b7 ((oe.getD ah.zero).v N V) 51::av::gl::pt lb (ga (some wb) db hp ep kt kv s.idx s.term vS dS pl fr (.slice aL (eq l) cL) cd) 119::wh::hs) I (au ?_);refine aw 1 I fun bV aN=>?_
  refine' dB (q:=(oe.getD ah.zero).idx≠i) 1 5 62 [56,57] aN I I I I I I I (fun _=>?x6) (fun b1 aR=>?_)
  case x6=>
   refine au ?_;exact aw 1 I fun b0 aO=>fin 1 I (bJ (aO.trans qo) I I I)
  refine fin 0 I<|th (ax aR I (fun e8=>?_) (fun e8=>?_))
  ·have aa:R=none:=by
    grind[ec]
   refine acY (Bf (Bf (au ?_)));rw[aa];exact af I I ⟨az,gl,aL,cL,l,I,I,oL.imp fun _ _ h=>h.le an,fun x hx=>by cases hx⟩
  obtain⟨e,rfl⟩:∃e,oe=some e:=by
   cases oe with
   |none=>exact absurd (.inl (by simp[ec])) e8
   |some e=>simp
  have aS:e.idx=i:=by
   grind
  dsimp only at U;rw[aab aS]at U;have ab:aJ av N (eq e.data) V 5 1 (bv e.data):=ab
  have b9:j<=eq W.Ja:=by
   omega
  have ca:J≠0:=fun ht=>by
   rcases O with⟨h9,_⟩|⟨_,h9⟩
   ·rw[h9]at am;cases am
   grind
  have b6:i<J:=qo
  refine sk (th (WC.fr 1 I (WC.SK fun K2 l1 l2=>?_)));have ae:=an.trans l1;have a4:=ab.Ni.le l2;refine Bj (hs':=pt b7 (e.v N V) 51::gl::pt lb (ga (some wb) db hp ep kt kv s.idx s.term vS dS pl fr (.slice aL (eq l) cL) cd) 119::wh::hs) (List.Perm.refl _) (bC [2,0] 10 [0,2,4,6,8,10,13,15,16,18,21] ?_);refine bR qk 4 0 I qk I I (ln qk 0 1 I qk I qk (aB qk 0 I (lit 0 (e.v N V) I Q9 qk fun b2=>aP Q8 I (aB qk 0 I (nB 0 2 (e.v N V).toList e I I I (oL.imp fun _ _ h=>h.le ae) ⟨N,V,I,a4⟩ I (by simp[ah.v,Value.oneCell']) I Q9 (by show(eq l+1)*48<=_;omega) As fun aq aD aE a2=>aP Q8 rfl (aB qk 2 rfl (Ji 0 3 rfl rfl rfl rfl (bQ (.inl qk) (aI qk 0 rfl (acW (Bf (Bf (ar 1 rfl (bL (x:=((s.idx+1+(j+1):Nat):Int)) qo) (fin 1 rfl (bn (x:=((j,l),(aL,cL,gl),em)) ((j+1,l++[e]),(aq,aD,aE),K2) sb rfl (by dsimp only;rw[aaj];rfl) ⟨.inr ⟨aC,?_⟩,by simp_all,Y.trans ae,by dsimp only;rw[aaj];exact a2⟩ aC)))))))))))))))
  grind
 refine au ?_
 have ay:R=some l:=by
  rcases hj with⟨h,aa,b8⟩|⟨h,ag⟩
  ·omega
  grind[List.drop_eq_nil_of_le,j6]
 refine au ?_;rw[ay];exact af I I ⟨Y,gl,aL,cL,l,I,I,oL,fun x hx=>(aaW hx).symm⟩
end
section
def qN(J a r D):Na J (a::r) D=if a%4=2/\a≠((bz J:Nat):Int)then(if(D.free a).2≠0 then D.free a else Na J r (D.free a).1)else Na J r D:=rfl
theorem aW.Na(pl):∀(l:Ae) (D:Dk) (c:Nat),aW c D->aW (c+eq l) (Na pl l D).1
 |[],D,c,o=>o
 |a::r,D,c,o=>by
  rw[qN];simp only[aas]
  split
  ·split
   ·exact(o.free a).up qo
   exact(aW.Na pl r _ _<|o.free a).up qo
  exact(aW.Na pl r D c o).up qo
def A7{D fr first}:((dL D fr first).1=none->(dL D fr first).2.2≠0)/\(∀W,(dL D fr first).1=some W->(dL D fr first).2.2=0):=by
 unfold dL
 grind
def JV{D S v p}(h:kq D S v=some p):p.1.idx<=bX/\p.2.1<=bX/\p.2.2<=bX:=by
 unfold kq at h
 split at h
 ·grind
 split at h
 ·cases h
 split at h
 ·cases h
 cases h;exact⟨ia _ _,ia _ _,ia _ _⟩
def yM{h:PH}(b D c)(o:D.Ok c)(Y:c<=1099511627)(hm:bM K b D h)(J):
  ai w0 53 [Rp b,.int .u64 (J:Nat)] K (h::hs)
   (fun v O hs'=>∃U N,hs'=N++U::hs/\U=h/\Le K O/\((D.dead=true/\N=[]/\v=.tuple #[.pointer none,.int .i64 30])\/(D.dead=false/\∃sb s,N=[s]/\ju O sb b J (iF D J) s/\v=.tuple #[Rp sb,.int .i64 0]))):=
 (Ox b D c o Y hm J).mono fun v O hs' X=>by
  rcases X with⟨V,rfl,rfl,rfl⟩|⟨V,le,sb,s,rfl,Z,rfl⟩
  ·exact⟨h,[],I,I,Cg _,.inl ⟨V,I,I⟩⟩
  grind
def Ou{dh:PH}(db D c)(oD:aW c D)(hc:c<=400000000)(hd:bM K db D dh)(fr first)(Y:fr<2^64)(X:first<2^64):
  ai w0 59 [Rp db,.int .u64 (fr:Nat),.int .u64 (first:Nat)] K (dh::hs)
   (fun v N hs'=>∃Z J,hs'=J++Z::hs/\Le K N/\bM N db (dL D fr first).2.1 Z/\(((dL D fr first).1=none/\J=[]/\v=.tuple #[.pointer none,.int .i64 (dL D fr first).2.2]) \/
    (∃W wb wh,(dL D fr first).1=some W/\J=[wh]/\gT N wb db W wh/\v=.tuple #[Rp wb,.int .i64 (dL D fr first).2.2]))):=by
 refine Ct.Ta (Ov db D c oD hc hd fr first Y X) ?_;rintro w v N hs' hS ⟨le,O,U,rfl,hd',hR⟩;cases hW:(dL D fr first).1 with
 |none=>
  grind
 |some W=>
  rw[hW]at hR;obtain⟨wb,hM,rfl⟩:=hR;obtain⟨d,V⟩:=a7.join O hS;exact⟨N,_,⟨U,[dt O],I,le,hd',.inr ⟨W,wb,dt O,I,I,⟨O,I,d,hM⟩,I⟩⟩,V⟩
def Pz(lb wp db hp ep kt kv si st vS dS pl fr lS cd e):
  ai w0 57 [Rp lb,.int .i64 e] K (pt lb (ga wp db hp ep kt kv si st vS dS pl fr lS cd) 119::hs)
   (fun v N hs'=>∃J,hs'=J::hs/\N=K/\J=pt lb (ga wp db hp ep kt kv si st vS dS pl fr lS (fJ cd e)) 119/\v=.int .i64 (fJ cd e)):=by
 unfold fJ;refine cP Tryz.func57 ?_;refine bc 0 I (fun e2=>?_) (fun e2=>?_)
 ·refine au ?_;rw[aab e2];refine au ?_;exact af I I ⟨_,I,I,I,I⟩
 refine au ?_;rw[aaa e2];refine au ?_;exact af I I ⟨_,I,I,I,I⟩
def Oy{dh:PH}(db D c)(oD:aW c D)(hc:c<=199000000)(hd:bM K db D dh)(first)(c3:eq first<=1000000)(aF cF)(xF:aj K aF (eq first) cF 1 (iv first)):
  ai w0 22 [Rp db,.agg #[.slice aF (eq first) cF]] K (dh::hs)
   (fun v K' hs'=>Le K K'/\(((eZ D first).1=none/\v=.tuple #[.pointer none,.int .i64 (eZ D first).2.2]/\∃U,hs'=U::hs/\bM K' db (eZ D first).2.1 U) \/
    (∃L lb m,(eZ D first).1=some L/\v=.tuple #[Rp lb,.int .i64 (eZ D first).2.2]/\hs'=m++hs/\d7 K' lb db L (eZ D first).2.1 m))):=by
 obtain⟨R,J⟩:=a9 (eZ D first)
 rw[<-J];unfold eZ at J;have cm:=oD.len;refine ent Tryz.func22 ?_;refine acY (bx 0 I fun b3=>Ez 0 (pt b3 #[.slice aF (eq first) cF] 46) (fin 2 I (acU (fI 0 0 I I qk (cl 0 I (Fj aF cF first (.inl I) xF qo) ?_)))));rintro c4 cB cn ⟨rfl,rfl,rfl⟩;cases hps:(bG first).isSome with
 |false=>
  rw[aab hps]at J;refine fin 1 I (th (dk I (acY (Bf (au ?_)))));rw[J];exact bS I I I ⟨Cg _,.inl ⟨I,I,dh,I,hd⟩⟩
 |true=>
  rw[aaa (by rw[hps];simp)]at J;refine au ?_;refine bd 1 (.agg #[.int .u64 0,.int .i64 (-1)]) I Aq (au ?_);refine cl 0 I (yx aF cF first (.inl I) xF qo) ?_;rintro c5 cE cp ⟨b0,rfl,a0,c0,rfl,x0⟩;refine bd 0 (.agg #[.slice a0 (eq first) c0]) I Aq (bd 0 (.agg #[.int .u64 0,.int .u64 0,.slice a0 (eq first) c0,.slice none 0 0]) I Aq (bd 0 (.agg (ga none db none none 0 (-1) 0 0 (.slice a0 (eq first) c0) (.slice none 0 0) 0 0 (.slice none 0 0) 0)) I Aq (bx 0 I fun lb=>Ez 0 (pt lb (ga none db none none 0 (-1) 0 0 (.slice a0 (eq first) c0) (.slice none 0 0) 0 0 (.slice none 0 0) 0) 119) (WL.del 1 I ?_))));refine au ?_;refine cl 2 I (Ed 1 I (yM db D c oD.ok qo (hd.le b0) 0)) ?_;rintro c6 cN cq ⟨dh,a2,rfl,rfl,b2,hA⟩;have V:=b0.trans b2;rcases hA with⟨N,rfl,rfl⟩|⟨N,hb,hh,rfl,hH,rfl⟩
  ·rw[aab N]at J;refine au ?_;refine cl 2 I (Ed 1 I (yM db D c oD.ok qo (hd.le V) 4)) ?_;rintro ce b4 bV ⟨dh,a2,rfl,rfl,aa,hA⟩;rcases hA with⟨_,rfl,rfl⟩|⟨hx,_⟩
   ·refine Ji 5 0 I I I I (fin 1 I (acU (fin 6 I (th (dk I (acY (Bf (au ?_))))))));rw[J];exact bS I I I ⟨V.trans aa,.inl ⟨I,I,dh,I,hd.le (V.trans aa)⟩⟩
   rw[N]at hx;cases hx
  rw[aaa (by rw[N];simp)]at J;refine au ?_;refine cl 2 I (Ed 2 I (yM db D c oD.ok qo (hd.le V) 4)) ?_;rintro ce b4 bV ⟨dh,a2,rfl,rfl,aa,hA⟩;have b1:=V.trans aa;rcases hA with⟨hx,_⟩|⟨_,eb,eh,rfl,hE,rfl⟩
  ·rw[N]at hx;cases hx
  refine Ji 5 2 I I I I (WL.fr 1 I (WL.fr 2 I (Ez 0 (pt lb (ga none db (some hb) (some eb) 0 (-1) 0 0 (.slice a0 (eq first) c0) (.slice none 0 0) 0 0 (.slice none 0 0) 0) 119) ?_)));have b7:=tD oD.ok 0 2;have b6:=tD oD.ok 4 2;refine fin 1 I (acU (fin 6 I (th (bP I (sk (acU (cl 1 I (JT lb db hb none (some eb) 0 0 _ _ 0 0 _ 0 (iF D 0) (hH.le aa) b7) ?_)))))));rintro c7 cO cr ⟨cU,kt,kv,rfl,rfl,aS⟩;have ab:=b1.trans cU;cases hrh:jo (iF D 0)with
  |none=>
   rw[hrh]at J;dsimp only at J;refine fin 6 I (th (dk I (acY (Bf (Bf (Bf (au ?_)))))));rw[J];exact bS I I I ⟨ab,.inl ⟨I,I,dh,I,hd.le ab⟩⟩
  |some kh=>
   rw[hrh]at J;dsimp only at J;have aS:=aS kh hrh;subst aS;refine WL.fr 3 I (WL.fr 3 I (WL.fr 2 I (cl 3 I (JS lb db eb none (some hb) kt kv first a0 c0 (x0.le (b2.trans (aa.trans cU))) _ 0 (iF D 4) (hE.le cU) b6 D c oD.ok qo (hd.le ab)) ?_)));rintro c8 cQ cs ⟨a1,sn,pl,fr,aV,cV,aD,cD,rfl,rfl,xV,xD,aR⟩;have ad:=ab.trans a1;cases hrd:kq D (iF D 4) first with
   |none=>
    rw[hrd]at J;dsimp only at J;refine fin 2 I (th (dk I (acY (Bf (Bf (WL.del 1 I (au ?_)))))));rw[J];exact bS I I I ⟨ad,.inl ⟨I,I,dh,I,hd.le ad⟩⟩
   |some hp=>
    rw[hrd]at J;dsimp only at J;obtain⟨bb,bi,bm⟩:=JV hrd;have aR:=aR hp hrd;subst aR;dsimp only at bb bi bm;unfold bX at bb bi bm;unfold rJ at J;dsimp only at J;have bq:=rf oD;have b9:=qT oD;have cc:=hH.le (aa.trans (cU.trans a1));have ca:=hE.le (cU.trans a1);obtain⟨l,hl⟩:=a9 (aU D);obtain⟨F,hF⟩:=a9 (Na pl l D);rw[<-hl]at bq b9 J;rw[<-hF]at J;refine au ?_;refine cl 1 I (Er 2 I (yY db D c oD qo (hd.le ad))) ?_;rintro dd a3 ct ⟨dh,rfl,rfl,ap,aA,cA,rfl,xA⟩;rw[<-hl]at xA⊢;have am:=ad.trans ap;refine au ?_
    refine loop (σ:=Nat×Dk×PH) (fun s=>[(0,Rp db),(6,Rp lb),(55,.slice aA (eq l) cA),(56,.int .i64 (eq l)),(57,.int .i64 s.1)]) (fun _=>a3)
     (fun s=>pt lb (ga none db (some hb) (some eb) kt kv sn.idx sn.term (.slice aV (eq sn.Jq) cV) (.slice aD (eq sn.data) cD) pl fr (.slice none 0 0) 0) 119::eh::s.2.2::hh::hs) (fun s=>s.1<=eq l/\Na pl (l.drop s.1) s.2.1=F/\aW (c+s.1) s.2.1/\bM a3 db s.2.1 s.2.2) (fun s=>eq l-s.1) (0,D,dh) ⟨aad _,hF.symm,oD,hd.le am⟩ ⟨rfl,rfl,rfl,rfl,rfl,trivial⟩ rfl rfl ?_
    rintro⟨j,D',U⟩ ⟨hj,Z,ak,av⟩;dsimp only at *;refine acY (bc 0 I (fun e9=>?_) (fun e9=>?_))
    ·refine au ?_;have bB:j<eq l:=qo
     obtain⟨a,ha⟩:∃a,l[j]?=some a:=⟨l[j],aai bB⟩;have b8:=bq a (aam ha);obtain⟨n,rfl⟩:=aa5 b8.1;rw[aaI bB,show l[j]=((n:Nat):Int)from by simp_all,qN]at Z;refine au ?_;refine ej 0 j I I I xA (yq ha) fun c1 bs=>ld 0 I (.inl I) bs (au ?_);refine ar 1 I (mj .u64 n 4) ?_;have next:∀{l':Sl},Na pl (l.drop (j+1)) D'=F->True:=fun _=>trivial
     by_cases q1:n%4=2
     ·refine bc 0 I (fun _=>au ?_) (fun h=>absurd (show((n%4:Nat):Int)=2 by omega) h);refine cl 0 I (rM pl qo) ?_;rintro dj cR cu ⟨rfl,rfl,rfl⟩
      by_cases q2:n=bz pl
      ·rw[aaa qo]at Z;refine bc 0 I (fun h=>absurd (show((n:Nat):Int)=((bz pl:Nat):Int) by rw[q2]) h) (fun _=>au ?_);refine cZ j ?_;exact bn (x:=(j,D',U)) (j+1,D',U) sb I I ⟨aC,Z,ak.up qo,av⟩ aC
      rw[aab ⟨qo,qo⟩]at Z;obtain⟨E,bo⟩:=a9 (D'.free ((n:Nat):Int));have oE:=ak.free ((n:Nat):Int);rw[<-bo]at Z oE;refine bc 0 I (fun _=>cl 5 I (Er 2 I (rV db D' (c+j) ak.ok qo av ((n:Nat):Int))) ?_) (fun h=>absurd (show ¬((n:Nat):Int)=((bz pl:Nat):Int) by omega) h);rintro dl cS cv ⟨Y,rfl,rfl,O,rfl⟩;rw[<-bo]at O⊢;refine cl 0 I (Pz lb none db (some hb) (some eb) kt kv sn.idx sn.term _ _ pl fr _ 0 E.2) ?_;rintro dq cT cx ⟨_,rfl,rfl,rfl,rfl⟩;rw[show fJ 0 E.2=E.2 from rfl];refine aw 0 I fun c2 b5=>fin 1 I (th (ax b5 I (fun ag=>?_) (fun ag=>?_)))
      ·rw[aab ag]at Z;rw[<-Z,aab ag]at J;refine sq (bC [0] 6 [0,2,4,6,8,10] ?_);refine bT qk 3 0 I I I (aI qk 2 I (ac0 (rB (rT (rT (rB (rT (Bh (Bh (Ej 1 I ?_))))))))));rw[J];exact bS I I I ⟨am,.inl ⟨I,I,Y,I,O⟩⟩
      have ag:=aag.1 ag;rw[aaa qo]at Z;rw[ag];refine sk (acW (cZ j ?_));exact bn (x:=(j,D',U)) (j+1,E.1,Y) sb I I ⟨aC,Z,oE.up qo,O⟩ aC
     rw[aaa qo]at Z;refine bc 0 I (fun h=>absurd (show((n%4:Nat):Int)=2 from h) qo) (fun _=>au ?_);refine cZ j ?_;exact bn (x:=(j,D',U)) (j+1,D',U) sb I I ⟨aC,Z,ak.up qo,av⟩ aC
    refine au ?_;obtain rfl:j=eq l:=qo
    rw[aa6]at Z;have Z:(D',(0:Int))=F:=Z;rw[<-Z,aaa Q8]at J;dsimp only at J;unfold rI at J;dsimp only at J;obtain⟨X,hX⟩:=a9 (dL D' fr (sn.idx+1));obtain⟨ay,az⟩:=A7 (D:=D') (fr:=fr) (first:=sn.idx+1);rw[<-hX]at J ay az;refine au ?_;refine bO [pt lb (ga none db (some hb) (some eb) kt kv sn.idx sn.term (.slice aV (eq sn.Jq) cV) (.slice aD (eq sn.data) cD) pl fr (.slice none 0 0) 0) 119] 17 [0,2,4,6,8,10,12,14,16,18,20,23,24,26,28,30,32] Q8 qk qk (au ?_);refine bF qk 0 I (bL (x:=((sn.idx+1:Nat):Int)) qo) (au ?_);refine cl 0 I (Ed 2 I (Ou db D' (c+eq l) ak qo av fr (sn.idx+1) qo qo)) ?_;rintro dr cY cy ⟨Y,a2,rfl,aE,O,hA⟩;rw[<-hX]at O hA;have an:=am.trans aE;rcases hA with⟨hn,rfl,rfl⟩|⟨W,wb,wh,hW,rfl,bp,rfl⟩
    ·rw[hn]at J;dsimp only at J;have ay:=ay hn;refine dX Q8 aE (au ?_);refine aw 1 I fun ch a5=>fin 0 I (th (ax a5 I (fun aO=>?_) (fun aO=>?_)))
     ·rw[aab aO]at J;refine acY (Bf (Bf (WL.del 1 I (au ?_))));rw[J];exact bS I I I ⟨an,.inl ⟨I,I,Y,I,O⟩⟩
     rw[aaa aO]at J;refine au ?_;refine aw 1 I fun ck a6=>fin 0 I (th (ax a6 I (fun a4=>acY (Bf (Bf (WL.del 1 I (au ?_))))) (fun a4=>absurd ay a4)));rw[J];exact bS I I I ⟨an,.inl ⟨I,I,Y,I,O⟩⟩
    rw[hW]at J;dsimp only at J;have az:=az W hW;rw[az];have aY:=cK.opened ak (fr:=fr) (first:=sn.idx+1) (W:=W) (E:=X.2.1) (by grind);refine dX Q8 aE (aI qk 5 I (acU (fin 2 I (th (bP I (sk (acU (fin 2 I (th (bP I (sk (acV (WL.fr 1 I (Ji 4 0 I I I I (Ez 0 (pt lb (ga (some wb) db (some hb) (some eb) kt kv sn.idx sn.term (.slice aV (eq sn.Jq) cV) (.slice aD (eq sn.data) cD) pl fr (.slice none 0 0) 0) 119) ?_)))))))))))))));refine au ?_;refine cl 1 I (Hz lb db wb (some hb) (some eb) kt kv sn (by unfold bX;omega) _ _ pl fr 0 W bp (c+eq l) aY.1 qo) ?_;rintro cz cg cd ⟨aq,gl,aL,cL,ll,rfl,rfl,hG,aT⟩;have aN:=an.trans aq;cases hre:lF sn W with
    |none=>
     rw[hre]at J;dsimp only at J;refine fin 1 I (th (dk I (acY (Bf (Bf (Bf (Bf (WL.del 1 I (au ?_)))))))));rw[J];exact bS I I I ⟨aN,.inl ⟨I,I,Y,I,O.le aq⟩⟩
    |some l2=>
     rw[hre]at J;dsimp only at J;have aT:=aT l2 hre;subst aT;refine fin 1 I (th (bP I (sk (acV (WL.fr 4 I (WL.fr 1 I (WL.fr 4 I (WL.fr 5 I (WL.fr 5 I (WL.fr 5 I (au ?_)))))))))));rw[J];have ae:=aE.trans aq;exact bS I I I ⟨aN,.inr ⟨_,lb,[_,_,_,_,_,_],I,I,I,wb,hb,eb,aV,cV,aD,cD,aL,cL,wh,hh,eh,gl,Y,I,bp.le aq,cc.le (ap.trans ae),ca.le (ap.trans ae),hG,O.le aq,xV.le (ap.trans ae),xD.le (ap.trans ae)⟩⟩
end
section
def q0:MA:=⟨none,0,none,0,none,0⟩
end
section
structure Rl where
 kt:Nat
 kv:Int
 sn:bE
 l:List ah
end
section
def Rl.append(r:Rl)(x:List ah):Rl×Int:=
 if fQ (r.sn.idx+eq r.l) (Ka r.sn r.l (r.sn.idx+eq r.l)).1 x≠0 then(r,fQ (r.sn.idx+eq r.l) (Ka r.sn r.l (r.sn.idx+eq r.l)).1 x)else({r with l:=r.l++x},0)
def Rl.Jc(r:Rl)(t:Nat)(v:Int):Rl×Int:=
 if v < -1\/6<v then(r,181)else if t<r.kt then(r,180)else({r with kt:=t,kv:=v},0)
end
section
def Rl.fits(r:Rl)(s:bE):Int:=
 if(bG s.Jq).isSome=false\/2097152<eq s.data then 181 else if s.idx<=r.sn.idx\/bX<=s.idx then 180 else 0
end
section
def Rl.save(r:Rl)(s:bE):Rl×Int:=
 if r.fits s≠0 then(r,r.fits s)else if fj r.sn r.l s=false then(r,180)else({r with sn:=s,l:=r.l.drop (s.idx-r.sn.idx)},0)
def Rl.install(r:Rl)(s:bE):Rl×Int:=
 if r.fits s≠0 then(r,r.fits s)else if fj r.sn r.l s=true then r.save s else({r with sn:=s,l:=[]},0)
def tK{r:Rl}{s}(h:r.fits s=0):(bG s.Jq).isSome=true/\eq s.data<=2097152/\r.sn.idx<s.idx/\s.idx<bX:=by
 grind[Rl.fits]
def IQ{s l t}(h:fj s l t=true)(J:s.idx<t.idx):t.idx<=s.idx+eq l:=by
 grind[fj,Ka]
end
section
def Rl.Jo(r:Rl)(x:List ah)(last:Nat):Rl×Nat×Bool×Int:=
 match(RZ r.sn r.l x true).1 with
 |[]=>(r,last,true,0)
 |e::t=>({r with l:=r.l.take (e.idx-r.sn.idx-1)++(e::t)},last,true,0)
def Rl.Kc(r:Rl)(i t:Nat)(x:List ah)(last:Nat):Rl×Nat×Bool×Int:=
 if(Ka r.sn r.l i).2=false\/(Ka r.sn r.l i).1≠t then(r,qE r.sn r.l i,false,0)else r.Jo x last
def Rl.merge(r:Rl)(i t:Nat)(x:List ah):Rl×Nat×Bool×Int:=
 if fQ i t x≠0 then(r,0,false,fQ i t x)
 else if i<r.sn.idx then
  (if i+eq x<r.sn.idx then(r,i+eq x,true,0)
   else if((x.drop (r.sn.idx-i)).head?.map fun e=>decide (e.term<r.sn.term))=some true then(r,0,false,180)
   else r.Kc r.sn.idx r.sn.term (x.drop (r.sn.idx-i)) (i+eq x))
 else r.Kc i t x (i+eq x)
def AS{r:Rl}{x B last}(h:RZ r.sn r.l x true=([],B)):r.Jo x last=(r,last,true,0):=by
 simp_all[Rl.Jo]
def vI{r:Rl}{x e t B last}(h:RZ r.sn r.l x true=(e::t,B)):r.Jo x last=({r with l:=r.l.take (e.idx-r.sn.idx-1)++(e::t)},last,true,0):=by
 simp_all[Rl.Jo]
section
variable {P:Program}{w0:World}{fn:Func}{R:Ao}{n:Nat}{l:Sl}{K:PH}{hs:Ac}
end
end
section
structure QY where
 kind:Int
 ht:Nat
 hv:Int
 idx:Nat
 term:Nat
 x:List ah
 sn:bE
section
variable {P:Program}{w0:World}{fn:Func}{R:Ao}{n:Nat}{l:Sl}{K:PH}{hs:Ac}
end
end
section
structure gz (n:Nat) (D:Dk):Prop where
 left:D.left = -1
 dead:D.dead=false
 room:(n:Int)<=D.room
theorem gz.Ji{n D}(h:gz n D):gz n D.Ji:=⟨by simp[Dk.Ji,h.left],by simp[Dk.Ji,h.left],h.room⟩
theorem gz.sync{n D}(h:gz n D)(a):(D.sync a).2=0/\gz n (D.sync a).1:=by
 have J:=h.Ji;unfold Dk.sync;rw[aaa (by rw[h.dead];decide),aaa (by rw[J.dead];decide)];exact⟨I,J.left,J.dead,J.room⟩
theorem gz.free{n D}(h:gz n D)(a):(D.free a).2=0/\gz n (D.free a).1:=by
 have J:=h.Ji;unfold Dk.free;rw[aaa (by rw[h.dead];decide),aaa (by rw[J.dead];decide)];exact⟨I,J.left,J.dead,by have:=h.room;dsimp only;omega⟩
theorem uj{i}(h:i<2^64):eq (aK i)<=10:=dI h
end
section
def Lg.rl(L:Lg):Rl:=⟨L.kt,L.kv,L.sn,L.l⟩
def HC{e}(h:i9 e):eq e.bytes<=512:=by
 obtain⟨⟨_,_,J⟩,N,O⟩:=h
 grind[mY,uj,ac,ah.bytes,cJ]
def MM{s place fr}(hi:s.idx<=ac)(ht:s.term<=ac)(hp:place<=2097151)(Y:fr<=2097151)(X:eq s.data<=2097152)(hv:(bG s.Jq).isSome=true):eq (Lg.Nl s place fr)<=48:=by
 unfold ac at hi ht;have J:=uj (i:=s.idx) qo;have N:=uj (i:=s.term) qo;have O:=qI 3 place qo Q9;have U:=qI 3 fr qo Q9;have V:=qI 4 (eq s.data) qo Q9
 grind[ob,bG,Lg.Nl]
def LF{s l t}(h:fj s l t=true)(J:s.idx<t.idx):t.idx<=s.idx+eq l/\(fA s l t.idx).getD 0+1=t.idx-s.idx:=by
 grind[fj,Ka,fA]
end
section
inductive Rw:Ae->Dk->Dk->Prop
 |refl (A:Ae) (D:Dk):Rw A D D
 |write {A:Ae} {D E:Dk} (a n:Int) (b:Aa):a∈A->Rw A D E->Rw A D (E.write a n b).1
 |sync {A:Ae} {D E:Dk} (a:Int):Rw A D E->Rw A D (E.sync a).1
 |free {A:Ae} {D E:Dk} (a:Int):Rw A D E->Rw A D (E.free a).1
def Rw.mono{A B D E}(h:Rw A D E)(hs:∀a∈A,a∈B):Rw B D E:=by
 induction h with
 |refl=>exact Rw.refl _ _
 |write a n b N _ J=>exact J.write a n b (hs a N)
 |sync a _ J=>exact J.sync a
 |free a _ J=>exact J.free a
def Rw.trans{A D E}(h:Rw A D E){F}(g:Rw A E F):Rw A D F:=by
 induction g with
 |refl=>exact h
 |write a n b N _ J=>exact J.write a n b N
 |sync a _ J=>exact J.sync a
 |free a _ J=>exact J.free a
def Rw.keys{A:Ae}{D E}(h:Rw A D E):∀k∈E.Iz.map (·.1),k∈D.Iz.map (·.1)\/k∈A:=by
 induction h with
 |refl=>exact fun k N=>.inl N
 |write a n b U _ J=>
  rename_i E _;unfold Dk.write
  split
  ·exact J
  split
  ·exact J
  split
  ·exact J
  intro k N;obtain⟨x,O,rfl⟩:=aau.1 N;rcases iX O with rfl|O
  all_goals grind
 |sync a _ J=>
  rename_i E _;unfold Dk.sync
  split
  ·exact J
  split
  ·exact J
  grind[qX]
 |free a _ J=>
  rename_i E _;unfold Dk.free
  split
  ·exact J
  split
  ·exact J
  intro k N;obtain⟨x,O,rfl⟩:=aau.1 N;exact J _ (aau.2 ⟨x,(lB (k:=a) E.Iz).subset O,I⟩)
def Rk(k:Nat)(D E:Dk):Prop:=∃A:Ae,eq A<=k/\Rw A D E
theorem Rk.of{k}(D):Rk k D D:=⟨[],aad k,Rw.refl _ D⟩
abbrev Ex:=@Rk.of
theorem Rk.up{k j D E}(h:Rk k D E)(g:k<=j):Rk j D E:=let⟨A,N,J⟩:=h;⟨A,qo,J⟩
theorem Rk.trans{k j D E F}(h:Rk k D E)(g:Rk j E F):Rk (k+j) D F:=by
 obtain⟨A,V,O⟩:=h;obtain⟨B,U,N⟩:=g;exact⟨A++B,by rw[aaj];omega,(O.mono fun a J=>aao.2 (.inl J)).trans (N.mono fun a J=>aao.2 (.inr J))⟩
theorem Rk.sync{k D E}(h:Rk k D E)(a):Rk k D (E.sync a).1:=let⟨A,J,N⟩:=h;⟨A,J,N.sync a⟩
theorem Rk.free{k D E}(h:Rk k D E)(a):Rk k D (E.free a).1:=let⟨A,J,N⟩:=h;⟨A,J,N.free a⟩
def Rk.len{k c D E}(h:Rk k D E)(o:E.Ok c):eq E.Iz<=eq D.Iz+k:=by
 obtain⟨A,O,J⟩:=h;have:=acr o.keys (l₂:=D.Iz.map (·.1)++A) (fun a N=>aao.2 (J.keys a N))
 grind
def tY(S:cW)(J D v):Rw [((J:Nat):Int)] D (S.save J D v).2.1:=by
 unfold cW.save
 split
 ·exact Rw.refl _ D
 split
 ·exact((Rw.refl _ D).write _ _ _ Q8).sync _
 exact(Rw.refl _ D).write _ _ _ Q8
theorem Fd:∀(f:Nat) (o:ji) (D:Dk),Rw [aM o.num] D (RY f o D).2.1
 |0,o,D=>Rw.refl _ D
 |f+1,o,D=>by
  have J:=(Rw.refl [aM o.num] D).write (aM o.num) o.full (UInt8.ofNat (min (eq o.rest) 63)::o.rest.take (min (eq o.rest) 63)) Q8;rw[nL]
  split
  ·exact J
  split
  ·exact J
  exact J.trans<|Fd f {o with full:=o.full+1,rest:=o.rest.drop 63} _
def yJ(o b D):Rw [aM o.num] D (Rv o b D).2.1:=Fd (eq o.rest+eq b+1) {o with rest:=o.rest++b} D
def rk(A)(W:Wl)(D):Rw A D (W.sync D).2:=by
 unfold Wl.sync
 split
 ·exact Rw.refl _ D
 split
 ·exact Rw.refl _ D
 exact(Rw.refl _ D).sync _
def xj(W:Wl)(i D):Rw [aM W.next] D (W.begin i D).2:=by
 unfold Wl.begin
 split
 ·simp[rk]
 exact(rk _ W D).trans<|yJ ⟨W.next,i,0,[]⟩ (aK i) _
def yb(W A)(J:∀q,W.op=some q->aM q.num∈A)(b D):Rw A D (dJ W b D).2.1:=by
 unfold dJ;cases hop:W.op with
 |none=>exact Rw.refl _ D
 |some q=>exact(yJ q (cJ b) D).mono fun a N=>by simp_all
def KN{W:Wl}{i D}(h:(W.begin i D).1.code=0):∀q,(W.begin i D).1.op=some q->q.num=W.next:=by
 intro q J;unfold Wl.begin at h J
 split at J
 ·simp_all
 grind[ry]
def Ic(W:Wl)(b D):Rk 1 D (W.append b D).2.1:=by
 unfold Wl.append
 split
 ·exact Ex D
 split
 ·exact Ex D
 split
 ·exact Ex D
 split
 ·have hb:=xj W (W.first+eq W.Ja) D
  split
  ·exact⟨_,aac _,hb⟩
  rename_i N;have hn:=KN (aag.1 N);exact⟨[aM W.next],aac _,hb.trans (yb _ _ (fun q J=>by rw[hn q J];simp) b _)⟩
 cases hop:W.op with
 |none=>exact⟨[],aad _,yb W [] (fun q J=>by rw[hop]at J;cases J) b D⟩
 |some o=>exact⟨[aM o.num],aac _,yb W _ (fun q J=>by rw[hop]at J;cases J;simp) b D⟩
def JN(W:Wl)(i D):Rk 1 D (W.truncate i D).2.1:=by
 unfold Wl.truncate
 split
 ·exact Ex D
 split
 ·exact Ex D
 split
 ·exact Ex D
 exact⟨_,aac _,xj W i D⟩
theorem CS(A i):∀(f:Nat) (Jd:List (Nat×Nat)) (D:Dk),Rw A D (Kd i f Jd D).2.1
 |0,Jd,D=>Rw.refl _ D
 |f+1,Jd,D=>by
  unfold Go.En.Kd
  split
  ·split
   ·exact(Rw.refl _ D).free _
   exact((Rw.refl _ D).free _).trans<|CS A i f _ _
  exact Rw.refl _ D
def HH(W:Wl)(i D):Rw [aM W.next] D (W.Jb i D).2:=by
 unfold Wl.Jb Wl.Jf
 split
 ·exact(xj W i D).trans<|rk _ _ _
 simp[rk]
def Ie(W:Wl)(i D):Rw [aM W.next] D (W.Jh i D).2.1:=by
 have J:=HH W i D;have N:=J.trans (CS _ i (eq (W.Jb i D).1.Jd+1) (W.Jb i D).1.Jd (W.Jb i D).2);unfold Wl.Jh
 split
 ·exact Rw.refl _ D
 split
 ·exact Rw.refl _ D
 split
 ·exact Rw.refl _ D
 grind
theorem wC(A):∀(l:Ae) (D:Dk),Rw A D (Kb l D).1
 |[],D=>Rw.refl _ D
 |a::r,D=>by
  unfold Go.En.Kb
  split
  ·split
   ·exact((Rw.refl _ D).free a).trans<|wC A r _
   exact(Rw.refl _ D).free a
  exact wC A r D
def Lh(A)(W:Wl)(first D):Rw A D (W.reset first D).2.1:=by
 have J:=wC A (aU D) D;unfold Wl.reset
 split
 ·exact Rw.refl _ D
 split
 ·exact Rw.refl _ D
 split
 all_goals omega
theorem wV(W:Wl)(i D):eq (W.begin i D).1.Jd<=eq W.Jd+1:=by
 unfold Wl.begin
 split
 ·rw[Ba];simp
 simp
theorem CA(W b D):(dJ W b D).1.Jd=W.Jd:=by
 unfold dJ
 split<;>rfl
def Ju(W:Wl)(b D):eq (W.append b D).1.Jd<=eq W.Jd+1:=by
 unfold Wl.append
 split
 ·simp
 split
 ·simp
 split
 ·simp
 split
 ·grind[wV,CA]
 simp[CA]
def JB(W:Wl)(i D):eq (W.truncate i D).1.Jd<=eq W.Jd+1:=by
 unfold Wl.truncate
 split
 ·simp
 split
 ·simp
 split
 ·simp
 grind[wV]
def AM(W:Wl)(i D):eq (W.Jb i D).1.Jd<=eq W.Jd+1:=by
 unfold Wl.Jb;rw[Ba];unfold Wl.Jf
 split
 all_goals simp[wV]
theorem BF(i):∀(f:Nat) (Jd:List (Nat×Nat)) (D:Dk),(Kd i f Jd D).1 <:+ Jd
 |0,Jd,D=>abU _
 |f+1,Jd,D=>by
  unfold Go.En.Kd
  split
  ·split
   ·exact abU _
   exact(BF i f _ _).trans<|List.drop_suffix 1 Jd
  exact abU _
def HX(W:Wl)(i D):eq (W.Jh i D).1.Jd<=eq W.Jd+1:=by
 have J:=AM W i D;have N:=(BF i (eq (W.Jb i D).1.Jd+1) (W.Jb i D).1.Jd (W.Jb i D).2).length_le
 grind[Wl.Jh]
def JR(W:Wl)(i D):eq (W.reset i D).1.Jd<=eq W.Jd:=by
 grind[Wl.reset]
structure Rn (c q:Nat) (L:Lg) (D:Dk):Prop where
 lb:bh c L
 ok:aW c D
 Jd:eq L.w.Jd<=q
 ar:eq D.Iz<=q
theorem Rn.up{c q c' q' L D}(o:Rn c q L D)(h:c<=c')(J:q<=q'):Rn c' q' L D:=⟨o.lb.up h,o.ok.up h,by have:=o.Jd;omega,by have:=o.ar;omega⟩
theorem vF(D):eq (aU D)=eq D.Iz:=by unfold aU;rw[(dW _).length_eq,aaM]
def Id(L:Lg)(D t v):Rk 1 D (L.Jc D t v).2.1:=by
 have h:Rk 1 D (L.Qh.save 0 D (aK t++aK (v+1).toNat)).2.1:=⟨_,aac _,tY L.Qh 0 D (aK t++aK (v+1).toNat)⟩
 grind[Rk.of,Lg.Jc]
theorem Rn.Jc{c q L D}(o:Rn c q L D)(t v)(ht:t<=ac):Rn (c+2) (q+1) (L.Jc D t v).1 (L.Jc D t v).2.1:=by
 have J:aW (c+2) (L.Jc D t v).2.1:=by
  have h:=o.ok.save L.Qh 0 qo (aK t++aK (v+1).toNat);unfold Lg.Jc
  split
  ·exact o.ok.up qo
  split
  ·exact o.ok.up qo
  split
  ·exact o.ok.up qo
  split<;>exact h.up qo
 refine⟨(o.lb.Jc D t v ht).up qo,J,?_,?_⟩
 ·have:(L.Jc D t v).1.w=L.w:=by
   grind[Lg.Jc]
  rw[this];have:=o.Jd;omega
 have:=(Id L D t v).len J.ok;have:=o.ar;omega
theorem EP:∀(x:List ah) (L:Lg) (D:Dk) (c:Nat),bh c L->aW c D->(∀e∈x,i9 e)->c+12*eq x<=999999990->Rk (eq x) D (Lg.Rc x L D).2.1/\eq (Lg.Rc x L D).1.w.Jd<=eq L.w.Jd+eq x
 |[],L,D,c,_,_,_,_=>⟨Ex D,aac _⟩
 |e::r,L,D,c,o,d,O,U=>by
  simp only[aas]at U;have J:=Ic L.w e.bytes D;have X:=Ju L.w e.bytes D;rw[ri]
  split
  ·exact⟨J.up (by simp only[aas];omega),by dsimp only;simp only[aas];omega⟩
  have N:=EP r _ _ (c+12) (o.w2 e.bytes D e (O e Q8)) (d.append o.w qo e.bytes) (fun y V=>O y (by simp[V])) qo;exact⟨(J.trans N.1).up (by simp only[aas];omega),by have:=N.2;dsimp only at this;simp only[aas];omega⟩
theorem Cu{c L}(o:bh c L){D}(d:aW c D)(x)(U:∀e∈x,e.idx<=ac/\e.term<=ac)(O:c+12*eq x<=999999990):Rk (eq x) D (L.append x D).2.1/\eq (L.append x D).1.w.Jd<=eq L.w.Jd+eq x:=by
 unfold Lg.append
 split
 ·simp[Ex]
 split
 ·simp[Ex]
 rename_i h;have J:=nW (aag.1 h);exact EP x L D c o d (fun e N=>⟨J e N,U e N⟩) O
theorem Rn.append{c q L D}(o:Rn c q L D)(x)(O:∀e∈x,e.idx<=ac/\e.term<=ac)(N:c+12*eq x<=999999990):Rn (c+12*eq x) (q+eq x) (L.append x D).1 (L.append x D).2.1:=by
 have h:=Cu o.lb o.ok x O N;have J:=o.lb.append o.ok x O N;have hl:=h.1.len J.2.ok;exact⟨J.1,J.2,by have:=o.Jd;omega,by have:=o.ar;omega⟩
theorem Rn.merge{c q L D}(o:Rn c q L D)(i t x)(Y:∀e∈x,e.idx<=ac/\e.term<=ac)(hc:c+2+12*eq x<=999999990):Rn (c+2+12*eq x) (q+1+eq x) (L.merge i t x D).1 (L.merge i t x D).2.1:=by
 have hb:=o.lb.merge o.ok i t x Y hc
 have U:∀(M:Lg) (E:Dk) (y:List ah) (last b:Nat),bh b M->aW b E->(∀e∈y,e.idx<=ac/\e.term<=ac)->b+12*eq y<=999999990->Rk (eq y) E (M.Ms y last E).2.1/\eq (M.Ms y last E).1.w.Jd<=eq M.w.Jd+eq y:=by
  grind[Cu,Lg.Ms]
 have h2:∀(y:List ah) (last:Nat),(∀e∈y,e.idx<=ac/\e.term<=ac)->eq y<=eq x->Rk (1+eq x) D (L.Jo y last D).2.1/\eq (L.Jo y last D).1.w.Jd<=eq L.w.Jd+1+eq x:=by
  intro y last hy aa;have N:=pO L.sn L.l y true;have J:∀e∈(RZ L.sn L.l y true).1,e.idx<=ac/\e.term<=ac:=fun e V=>hy e (N.subset V);have O:=N.length_le;unfold Lg.Jo
  split
  ·have:=U L D [] last c o.lb o.ok Q8 Au;exact⟨this.1.up Q8,by grind⟩
  rename_i e r h;rw[h]at J O;have X:e.idx<2^64:=by grind[ac]
  have hr:=JN L.w e.idx D;have ho:=JB L.w e.idx D
  split
  ·split
   ·exact⟨hr.up qo,aC⟩
   have:=U _ _ (e::r) last (c+2) ((o.lb.cutAt e.idx D).up (show c+1<=c+2 by omega)) (o.ok.truncate o.lb.w qo e.idx X) J qo;exact⟨(hr.trans this.1).up qo,by grind[Lg.cutAt]⟩
  have:=U L D (e::r) last c o.lb o.ok J qo;exact⟨this.1.up qo,qo⟩
 have Z:∀(i t:Nat) (y:List ah) (last:Nat),(∀e∈y,e.idx<=ac/\e.term<=ac)->eq y<=eq x->Rk (1+eq x) D (L.Kc i t y last D).2.1/\eq (L.Kc i t y last D).1.w.Jd<=eq L.w.Jd+1+eq x:=by
  grind[Rk.of,Lg.Kc]
 have h0:Rk (1+eq x) D D/\eq L.w.Jd<=eq L.w.Jd+1+eq x:=⟨Ex D,qo⟩
 have hm:Rk (1+eq x) D (L.merge i t x D).2.1/\eq (L.merge i t x D).1.w.Jd<=eq L.w.Jd+1+eq x:=by
  unfold Lg.merge
  split
  ·exact h0
  split
  ·exact h0
  split
  ·split
   ·exact h0
   split
   ·exact h0
   exact Z _ _ _ _ (fun e V=>Y e<|aaV V) Q8
  exact Z i t x _ Y<|aac _
 have hl:=hm.1.len hb.2.ok;exact⟨hb.1,hb.2,by have:=hm.2;have:=o.Jd;omega,by have:=o.ar;omega⟩
def Lk(L:Lg)(D):Rk 0 D (L.sync D).2.1:=by
 unfold Lg.sync
 split
 ·exact Ex D
 exact⟨[],aac _,rk [] L.w D⟩
def Kg(L:Lg)(D):(L.sync D).1.w.Jd=L.w.Jd:=by
 grind[Wl.RC,Lg.sync]
theorem Rn.sync{c q L D}(o:Rn c q L D):Rn (c+1) q (L.sync D).1 (L.sync D).2.1:=
 ⟨(o.lb.sync D).up qo,o.ok.Tb L,by rw[Kg];exact o.Jd,by have:=(Lk L D).len (o.ok.Tb L).ok;have:=o.ar;omega⟩
theorem yK(place):∀(f n:Nat) (b:Aa) (D:Dk),Rw [((bz place:Nat):Int)] D (R7 place f n b D).1
 |0,_,_,D=>Rw.refl _ D
 |f+1,n,b,D=>by
  rw[pJ]
  split
  ·exact Rw.refl _ D
  have J:=(Rw.refl [((bz place:Nat):Int)] D).write (bz place) n (b.take 64) Q8
  split
  ·exact J
  exact J.trans<|yK place f (n+1) (b.drop 64) _
def Of(L:Lg)(s fr D):Rk 2 D (L.lay s fr D).2.1:=by
 have J:Rk 1 D (R7 (L.place+1) (eq s.data+1) 0 s.data D).1:=⟨_,aac _,yK (L.place+1) (eq s.data+1) 0 s.data D⟩;unfold Lg.lay
 split
 ·exact J.up qo
 unfold Lg.Sf;have N:=J.sync (bz (L.place+1))
 split
 ·exact N.up qo
 unfold Lg.Rq;have O:=N.trans (⟨_,aac _,tY L.head 4 _ (Lg.Nl s (L.place+1) fr)⟩:Rk 1 _ _)
 split
 ·exact O
 unfold Lg.Sy;exact O.free (bz L.place)
def Pm(L:Lg)(s fr D):(L.lay s fr D).1.w=L.w:=by
 unfold Lg.lay
 split
 ·rfl
 unfold Lg.Sf
 split
 ·rfl
 unfold Lg.Rq
 split
 all_goals rfl
def yt{L:Lg}{s}(h:L.fits s=0):(bG s.Jq).isSome=true/\eq s.data<=2097152/\L.sn.idx<s.idx/\s.idx<bX:=by
 grind[Lg.fits]
def EC{L:Lg}{s}(h:L.fits s=0)(ht:s.term<=ac):pp s:=by
 obtain⟨J,N,O,U⟩:=yt h;exact⟨qo,ht,sS J,N⟩
theorem Rn.Jh{c q j L D}(o:Rn c q L D)(i)(hi:i<2^64)(N:c<=1000000000)(hj:q+1<=1048576*j):
  Rn (c+4+j) (q+1) {L with w:=(L.w.Jh i D).1,code:=(L.w.Jh i D).2.2} (L.w.Jh i D).2.1:=
 have J:aW (c+4+j) (L.w.Jh i D).2.1:=(o.ok.Jh (k:=j) o.lb.w N i hi (by have:=AM L.w i D;have:=o.Jd;omega)).up qo
 ⟨o.lb.wc ((o.lb.w.Jh i D).up qo) qo _,J,
  by have:=HX L.w i D;have:=o.Jd;dsimp only;omega,by have:=Rk.len ⟨_,aac _,Ie L.w i D⟩ J.ok;have:=o.ar;grind⟩
def Rn.TF{c q j L D}(o:Rn c q L D)(i)(hj:q<=1048576*j):
  Rn (c+j) q {L with w:=(L.w.reset i D).1,code:=(L.w.reset i D).2.2} (L.w.reset i D).2.1:=
 have J:aW (c+j) (L.w.reset i D).2.1:=o.ok.reset (k:=j) L.w i (by rw[vF];have:=o.ar;omega)
 ⟨o.lb.wc ((o.lb.w.reset i D).up qo) qo _,J,
  by have:=JR L.w i D;have:=o.Jd;dsimp only;omega,by have:=Rk.len ⟨_,aac _,Lh [] L.w i D⟩ J.ok;have:=o.ar;simp only[aaT]at *;omega⟩
theorem Rn.lay{c q k L D}(o:Rn c q L D)(s)(hs:pp s)(fr)(N:fr<=c9+(c+1))(O:c<=999000000)(U:(eq s.data+63)/64<=k):Rn (c+(k+4)) (q+2) (L.lay s fr D).1 (L.lay s fr D).2.1:=
 have J:aW (c+(k+4)) (L.lay s fr D).2.1:=(o.ok.TC o.lb O s hs fr).up qo
 ⟨(o.lb.lay s hs fr N D).up qo,J,by rw[Pm];have:=o.Jd;omega,by have:=(Of L s fr D).len J.ok;have:=o.ar;omega⟩
theorem Rn.save{c q k j L D}(o:Rn c q L D)(s)(O:s.term<=ac)(X:c<=499900000)(Y:(eq s.data+63)/64<=k)(hj:q+3<=1048576*j):Rn (c+(2*k+j+20)) (q+3) (L.save s D).1 (L.save s D).2.1:=by
 unfold Lg.save
 split
 ·exact o.up qo qo
 rename_i N;have N:=aag.1 N;have hs:=EC N O
 split
 ·exact o.up qo qo
 unfold Lg.Si;have J:=o.sync
 split
 ·exact J.up qo qo
 unfold Lg.Sj;have V:(eq s.data+63)/64<=32769:=by have:=hs.data;omega
 have U:=J.lay (k:=(eq s.data+63)/64) s hs (L.sync D).1.fr (by have:=J.lb.fr;omega) qo (aac _)
 split
 ·exact U.up qo qo
 exact(U.Jh (j:=j) (s.idx+1) (by have:=hs.idx;unfold bX at this;omega) qo qo).up qo qo
theorem Rn.install{c q k j L D}(o:Rn c q L D)(s)(J:s.term<=ac)(U:c<=499900000)(V:(eq s.data+63)/64<=k)(hj:q+3<=1048576*j):Rn (c+(2*k+j+20)) (q+3) (L.install s D).1 (L.install s D).2.1:=by
 unfold Lg.install
 split
 ·exact o.up qo qo
 rename_i N;have N:=aag.1 N;have hs:=EC N J
 split
 ·exact o.save s J U V hj
 unfold Lg.Se;have O:=o.lay (k:=(eq s.data+63)/64) s hs L.w.next (by have:=o.lb.w.next;omega) qo (aac _)
 split
 ·exact O.up qo qo
 exact(O.TF (j:=j) (s.idx+1) qo).up qo qo
end
section
def CE{s l i}(h:(Ka s l i).2=true):s.idx<=i/\i<=s.idx+eq l:=by
 grind[Ka]
theorem KV{s l i n}(h:i<=s.idx+n)(hn:n<=eq l):Ka s (l.take n) i=Ka s l i:=by
 grind[Ka]
theorem tv(i t e r):eH i t (e::r)=if e.idx≠i+1\/e.term<t then 180 else eH e.idx e.term r:=rfl
def rD{i t e r}(h:eH i t (e::r)=0):e.idx=i+1/\t<=e.term/\eH e.idx e.term r=0:=by
 grind[tv]
theorem Cf:∀(x:List ah) (i t k:Nat) (e:ah) (r:List ah),eH i t x=0->x.drop k=e::r->e.idx=i+k+1/\eH e.idx e.term r=0
 |[],i,t,k,e,r,_,h=>by simp at h
 |a::x,i,t,0,e,r,J,h=>by
  cases h;have:=rD J;omega
 |a::x,i,t,k+1,e,r,J,h=>by
  have N:=rD J;have:=Cf x a.idx a.term k e r N.2.2 (by simpa using h);exact⟨qo,this.2⟩
def LW{i t x}(J:∀e∈x,e.ok)(N:eH i t x=0):fQ i t x=0:=by
 simp_all[nI,fQ]
theorem E9(s l):∀(x:List ah) (i t:Nat) (b:Bool),eH i t x=0->Ka s l i=(t,true)->∀e r B,RZ s l x b=(e::r,B) ->
  ∃u,i<e.idx/\Ka s l (e.idx-1)=(u,true)/\eH (e.idx-1) u (e::r)=0/\B=(Ka s l e.idx).2
 |[],i,t,b,_,_,e,r,B,h=>by cases h
 |a::x,i,t,b,V,ht,e,r,B,h=>by
  have O:=rD V;rw[tG]at h
  by_cases J:(Ka s l a.idx).2=false\/(Ka s l a.idx).1≠a.term
  ·simp_all
  rw[aaa J]at h;have J:=not_or.1 J;have U:Ka s l a.idx=(a.term,true):=Prod.ext (aag.1 J.2) (by simpa using J.1);obtain⟨u,X,N⟩:=E9 s l x a.idx a.term true O.2.2 U e r B h;exact⟨u,qo,N⟩
end
section
def dV(K:PH)(lb db:Nat)(L:Lg)(D:Dk)(h:PH):Prop:=∃m,h=dt m/\iW m/\d7 K lb db L D m
theorem dV.le{K J:PH}(l:Le K J){lb db L D h}(x:dV K lb db L D h):dV J lb db L D h:=let⟨m,N,O,U⟩:=x;⟨m,N,O,U.le l⟩
section
variable {w0:World}{K h:PH}{hs:Ac}
def yP{f args lb db L D u}(N:dV K lb db L D h)(c:∀m,d7 K lb db L D m->ai w0 f args K (m++hs) (fun v J hs'=>J=K/\hs'=m++hs/\v=u)):ai w0 f args K (h::hs) (fun v J hs'=>J=K/\hs'=h::hs/\v=u):=by
 obtain⟨m,rfl,d,hm⟩:=N;refine Co d (c m hm) ?_
 grind
def ux{f args lb db L D}{S:Value->PH->Prop}(O:dV K lb db L D h)(c:∀m,d7 K lb db L D m->ai w0 f args K (m++hs) (fun v J hs'=>Le K J/\hs'=m++hs/\S v J)):ai w0 f args K (h::hs) (fun v J hs'=>∃N,hs'=N::hs/\N=h/\Le K J/\S v J):=by
 obtain⟨m,rfl,d,hm⟩:=O;refine Co d (c m hm) ?_
 grind
def oK{f args lb db L L' D D' u}(X:dV K lb db L D h)(c:∀m,d7 K lb db L D m->ai w0 f args K (m++hs) (fun v J hs'=>Le K J/\∃N,hs'=N++hs/\d7 J lb db L' D' N/\v=u)):ai w0 f args K (h::hs) (fun v J hs'=>∃U,hs'=U::hs/\Le K J/\dV J lb db L' D' U/\v=u):=by
 obtain⟨m,rfl,d,hm⟩:=X;refine Co d (c m hm) ?_;rintro v J hs' ⟨le,N,rfl,O,rfl⟩;exact⟨N,hs,I,fun V=>⟨_,I,le,⟨N,I,V,O⟩,I⟩⟩
variable (lb db:Nat) (L:Lg) (D:Dk) (c:Nat)
def zf(N:dV K lb db L D h):ai w0 42 [Rp lb] K (h::hs) (fun v J hs'=>J=K/\hs'=h::hs/\v=.agg #[.int .u64 L.kt,.int .i64 L.kv]):=
 yP N fun m hm=>OR lb db L D hm
def mp(hb:bh c L)(O:c<=1000000000)(N:dV K lb db L D h):ai w0 18 [Rp lb] K (h::hs) (fun v J hs'=>J=K/\hs'=h::hs/\v=.int .u64 (L.sn.idx+eq L.l:Nat)):=
 yP N fun m hm=>pW lb db L D c hb O hm
def nr(hb:bh c L)(O:c<=1000000000)(N:dV K lb db L D h)(i)(hi:i<2^64):ai w0 89 [Rp lb,.int .u64 (i:Nat)] K (h::hs) (fun v J hs'=>J=K/\hs'=h::hs/\v=G8 (Ka L.sn L.l i)):=
 yP N fun m hm=>nV lb db L D c hb O hm i hi
def qa(hb:bh c L)(O:dV K lb db L D h):ai w0 17 [Rp lb] K (h::hs) (fun v J hs'=>∃N,hs'=N::hs/\N=h/\Le K J/\GY J L.sn v):=
 ux O fun m hm=>E7 lb db L D c hb hm
def FB(hb:bh c L)(U:c<=1000000000)(O:dV K lb db L D h)(i)(hi:i<2^64):ai w0 19 [Rp lb,.int .u64 (i:Nat)] K (h::hs)
  (fun v J hs'=>∃N,hs'=N::hs/\N=h/\Le K J/\∃e ao cap t,v=.tuple #[.agg (ah.v e ao cap),.bool t]/\aj J ao (eq e.data) cap 1 (bv e.data) /\
   match fA L.sn L.l i with
   |none=>t=false/\e=ah.zero
   |some k=>t=true/\L.l[k]?=some e):=
 ux O fun m hm=>NA lb db L D c hb U hm i hi
def LZ(hb:bh c L)(V:c<=1000000000)(U:dV K lb db L D h)(i)(hi:i<2^64)(most)(N : -9223372036854775808<=most/\most<=9223372036854775807):ai w0 16 [Rp lb,.int .u64 (i:Nat),.int .i64 most] K (h::hs)
  (fun v J hs'=>∃O,hs'=O::hs/\O=h/\Le K J/\∃ao cap,v=.slice ao (eq (iK L.sn L.l i most)) cap/\dn 4 (eI J) J ao (eq (iK L.sn L.l i most)) cap (iK L.sn L.l i most)):=
 ux U fun m hm=>Ky lb db L D c hb V hm i hi most N
def EI(hb:bh c L)(V:c<=1000000000)(U:dV K lb db L D h)(up)(J:up<=ac):ai w0 90 [Rp lb,.int .u64 (up:Nat)] K (h::hs)
  (fun v N hs'=>∃O,hs'=O::hs/\O=h/\Le K N/\∃ao cap,v=.tuple #[.agg #[.slice ao (eq (ei L.sn L.l up).1) cap],.int .u64 (((ei L.sn L.l up).2:Nat):Int)]/\aj N ao (eq (ei L.sn L.l up).1) cap 1 (iv (ei L.sn L.l up).1)):=
 ux U fun m hm=>L5 lb db L D c hb V hm up J
def E6(hb:bh c L)(U:c<=1000000000)(V:aW c D)(O:dV K lb db L D h):ai w0 144 [Rp lb] K (h::hs)
  (fun v J hs'=>∃N,hs'=N::hs/\Le K J/\dV J lb db (L.sync D).1 (L.sync D).2.1 N/\v=.int .i64 (L.sync D).2.2):=
 oK O fun m hm=>(E5 lb db L D c hb U V hm).mono fun v J hs' ⟨e,g⟩=>by subst e;exact⟨Cg _,g⟩
def xi(hb:bh c L)(U:c<=1000000000)(V:aW c D)(O:dV K lb db L D h)(t v)(ht:t<=ac)(hv : -9223372036854775808<=v/\v<=9223372036854775807):ai w0 136 [Rp lb,.agg #[.int .u64 (t:Nat),.int .i64 v]] K (h::hs)
  (fun u J hs'=>∃N,hs'=N::hs/\Le K J/\dV J lb db (L.Jc D t v).1 (L.Jc D t v).2.1 N/\u=.int .i64 (L.Jc D t v).2.2):=
 oK O fun m hm=>JL lb db L D c hb U V hm t v ht hv
def NO(hb:bh c L)(X:aW c D)(O:dV K lb db L D h)(ao cap x)(xs:dn 4 (eI K) K ao (eq x) cap x)(V:∀e∈x,lR e)(U:c+12*eq x<=999999000):ai w0 153 [Rp lb,.slice ao (eq x) cap] K (h::hs)
  (fun u J hs'=>∃N,hs'=N::hs/\Le K J/\dV J lb db (L.append x D).1 (L.append x D).2.1 N/\u=.int .i64 (L.append x D).2.2):=
 oK O fun m hm=>Dl lb db L D c hb X hm ao cap x xs V U
def OJ(hb:bh c L)(X:aW c D)(O:dV K lb db L D h)(i t)(hi:i<=ac)(ht:t<=ac)(ao cap x)(xs:dn 4 (eI K) K ao (eq x) cap x)(V:∀e∈x,lR e)(U:c+2+12*eq x<=999999000):
  ai w0 143 [Rp lb,.int .u64 (i:Nat),.int .u64 (t:Nat),.slice ao (eq x) cap] K (h::hs)
  (fun u J hs'=>∃N,hs'=N::hs/\Le K J/\dV J lb db (L.merge i t x D).1 (L.merge i t x D).2.1 N/\u=G9 (L.merge i t x D).2.2):=
 oK O fun m hm=>M3 lb db L D c hb X hm i t hi ht ao cap x xs V U
def Pd(hb:bh c L)(Z:c<=499900000)(oD:aW c D)(Y:dV K lb db L D h)(s)(N:s.idx<2^64)(O:s.term<=ac)(U:eq s.Jq<2^40)(J:eq s.data<2^40)
  (aS cS aT cT) (xS:aj K aS (eq s.Jq) cS 1 (iv s.Jq)) (xT:aj K aT (eq s.data) cT 1 (bv s.data)):
  ai w0 91 [Rp lb,.agg (dg s aS cS aT cT)] K (h::hs)
  (fun u V hs'=>∃X,hs'=X::hs/\Le K V/\dV V lb db (L.save s D).1 (L.save s D).2.1 X/\u=.int .i64 (L.save s D).2.2):=
 oK Y fun m hm=>Fb lb db L D c hb Z oD hm s N O U J aS cS aT cT xS xT
def LN(hb:bh c L)(Z:c<=499900000)(oD:aW c D)(Y:dV K lb db L D h)(s)(N:s.idx<2^64)(O:s.term<=ac)(U:eq s.Jq<2^40)(J:eq s.data<2^40)
  (aS cS aT cT) (xS:aj K aS (eq s.Jq) cS 1 (iv s.Jq)) (xT:aj K aT (eq s.data) cT 1 (bv s.data)):
  ai w0 149 [Rp lb,.agg (dg s aS cS aT cT)] K (h::hs)
  (fun u V hs'=>∃X,hs'=X::hs/\Le K V/\dV V lb db (L.install s D).1 (L.install s D).2.1 X/\u=.int .i64 (L.install s D).2.2):=
 oK Y fun m hm=>Km lb db L D c hb Z oD hm s N O U J aS cS aT cT xS xT
end
def FW{dh:PH}(db D c)(oD:aW c D)(Z:c<=199000000)(hd:bM K db D dh)(first)(U:eq first<=1000000)(aF cF)(xF:aj K aF (eq first) cF 1 (iv first)):
  ai w0 22 [Rp db,.agg #[.slice aF (eq first) cF]] K (dh::hs)
   (fun v J hs'=>∃N,hs'=N::hs/\Le K J/\(((eZ D first).1=none/\v=.tuple #[.pointer none,.int .i64 (eZ D first).2.2]/\bM J db (eZ D first).2.1 N) \/
    (∃L lb,(eZ D first).1=some L/\v=.tuple #[Rp lb,.int .i64 (eZ D first).2.2]/\dV J lb db L (eZ D first).2.1 N))):=by
 refine Ct.Ta (Oy db D c oD Z hd first U aF cF xF) ?_;rintro w v J hs' Y ⟨le,⟨V,rfl,X,rfl,hD⟩|⟨L,lb,m,V,rfl,rfl,hm⟩⟩
 ·grind
 obtain⟨d,O⟩:=a7.join m Y;exact⟨J,_,⟨_,I,le,.inr ⟨L,lb,V,I,m,I,d,hm⟩⟩,O⟩
end
section
structure Pr where
 mt:Nat
 nx:Nat
 rd:Nat
 ws:Bool
 of:Int
structure Nd where
 nd:Int
 hl:Bool
 role:Int
 lead:Int
 Je:Nat
 el:Int
 wt:Int
 yes:Ae
 Jn:Nat
 pr:Nat->Pr
 pf:Int
 ps:bE
 out:List bg
def de:Nat:=2^62
def Pr.new(n:Nat):Pr:=⟨0,n,0,false,0⟩
def Nd.Jp(R:Nd)(v:Int)(p:Pr):Nd:={R with pr:=fun i=>if i=v.toNat then p else R.pr i}
def Nd.p(R:Nd)(v:Int):Pr:=R.pr v.toNat
def bE.zero:bE:=⟨0,0,[],[]⟩
def Nd.new(nd:Int)(L:Lg):Nd:=⟨nd,false,0,-1,L.sn.idx,0,0,[],0,fun _=>⟨0,0,0,false,0⟩,0,bE.zero,[]⟩
def Nd.did(R:Nd)(e:Int):Nd:=if e=0 then R else {R with hl:=true,out:=[],role:=0,lead:=-1}
def Nd.Nl(R:Nd)(L:Lg)(m:bg):Nd:={R with out:=R.out++[{m with Jl:=R.nd,term:=L.kt}]}
def Lg.cfg(L:Lg):Ae×Nat:=ei L.sn L.l L.last
def Lg.Ka(L:Lg)(i:Nat):Nat×Bool:=En.Ka L.sn L.l i
def Nd.Rr(R:Nd)(L:Lg):Ae:=L.cfg.1.filter fun v=>decide (v≠R.nd)
def Nd.Qb(R:Nd)(x:Int):Nd:={R with role:=0,lead:=x,el:=0,wt:=0}
def mD(c yes:Ae):Bool:=decide (eq c/2<eq (c.filter fun v=>decide (v∈yes)))
def iG(c:Ae)(f:Int->Nat):Nat:=((fb (c.map fun v=>((f v:Nat):Int))).getD ((eq c-1)/2) 0).toNat
def Nd.send(R:Nd)(L:Lg)(v:Int):Nd:=
 if(R.p v).ws=true then R
 else if(R.p v).nx<=L.sn.idx then
  (R.Jp v {R.p v with ws:=true}).Nl L {bg.zero with kind:=5,to:=v,idx:=L.sn.idx,lt:=L.sn.term,off:=min (R.p v).of (eq L.sn.data),whole:=eq L.sn.data,Jq:=L.sn.Jq,data:=(L.sn.data.drop (R.p v).of.toNat).take 256}
 else(R.Jp v {R.p v with ws:=true}).Nl L {bg.zero with kind:=3,to:=v,idx:=(R.p v).nx-1,lt:=(L.Ka ((R.p v).nx-1)).1,Je:=R.Je,Jn:=R.Jn,Jg:=iK L.sn L.l (R.p v).nx 8}
def Nd.Qd(J:Bool)(L:Lg):Ae->Nd->Nd
 |[],R=>R
 |v::r,R=>Qd J L r ((if J=true then R.Jp v {R.p v with ws:=false}else R).send L v)
def Nd.tell(R:Nd)(L:Lg)(J:Bool):Nd:=Nd.Qd J L (R.Rr L) (if J=true then {R with Jn:=R.Jn+1}else R)
def Nd.RA(R:Nd)(L:Lg):Nd:=
 let n:=iG L.cfg.1 fun v=>if v=R.nd then L.last else(R.p v).mt
 if R.Je<n/\(L.Ka n).1=L.kt then {R with Je:=n}else R
def Nd.RR(R:Nd)(L:Lg):Nd:=if L.cfg.2<=R.Je/\R.nd∉L.cfg.1 then(R.tell L true).Qb (-1)else R
def Nd.Qc(R:Nd)(L:Lg):Nd:=(R.RA L).RR L
def Nd.Rq(R:Nd)(L:Lg):Nd:=if(R.Qc L).role=2 then(R.Qc L).tell L false else R.Qc L
abbrev sD:Type:=Nat×Nat×Int
def Nd.lay(R:Nd)(L:Lg)(D:Dk)(kind:Int)(data:Aa):Nd×Lg×Dk×sD:=
 let A:=L.append [⟨L.last+1,L.kt,kind,data⟩] D
 if A.2.2≠0 then(R.did A.2.2,A.1,A.2.1,0,0,A.2.2)
 else
  let B:=A.1.sync A.2.1
  if B.2.2≠0 then(R.did B.2.2,B.1,B.2.1,0,0,B.2.2)else(R.Rq B.1,B.1,B.2.1,L.last+1,L.kt,0)
def Nd.up(R:Nd)(L:Lg):Nd:={R with role:=2,lead:=R.nd,el:=0,pr:=fun _=>Pr.new (L.last+1)}
abbrev jz:Type:=Nd×Lg×Dk×Int
def Nd.Qa(R:Nd)(L:Lg)(D:Dk)(c:Ae):jz:=
 if mD c R.yes=false then(R,L,D,0)else let A:=(R.up L).lay L D 0 [];(A.1,A.2.1,A.2.2.1,A.2.2.2.2.2)
def Nd.asks(L:Lg):Ae->Nd->Nd
 |[],R=>R
 |v::r,R=>asks L r (R.Nl L {bg.zero with kind:=1,to:=v,idx:=L.last,lt:=(L.Ka L.last).1})
def Nd.Kf(R:Nd):Nd:={R with role:=1,lead:=-1,yes:=[R.nd],el:=0,wt:=0}
def Nd.Qi(R:Nd)(L:Lg)(D:Dk)(c:Ae):jz:=
 let A:=L.Jc D (L.kt+1) R.nd
 if A.2.2≠0 then(R.did A.2.2,A.1,A.2.1,A.2.2)else(Nd.asks A.1 (R.Kf.Rr A.1) R.Kf).Qa A.1 A.2.1 c
def Nd.Ro(R:Nd)(d:Nat):Nd:={R with wt:=if R.wt=0 then((10+d%22:Nat):Int)else R.wt,el:=R.el+1}
def Nd.idle(R:Nd)(L:Lg)(D:Dk)(d:Nat):jz:=
 if(R.Ro d).el<(R.Ro d).wt\/R.nd∉L.cfg.1\/de<=L.kt then(R.Ro d,L,D,0)else(R.Ro d).Qi L D L.cfg.1
def Nd.Sw(R:Nd)(L:Lg):Nd:=if 3<=R.el+1 then {R with el:=0}.tell L true else {R with el:=R.el+1}
def Nd.tick(R:Nd)(L:Lg)(D:Dk)(d:Nat):jz:=
 if R.hl=true then(R,L,D,202)else if R.role=2 then(R.Sw L,L,D,0)else R.idle L D d
def Nd.raise(R:Nd)(L:Lg)(D:Dk)(t:Nat):jz:=
 let A:=L.Jc D t (-1)
 (if A.2.2=0 then {R with role:=0,lead:=-1}else R.did A.2.2,A.1,A.2.1,A.2.2)
def Nd.content(R:Nd):Bool:=decide (R.role=2\/0<=R.lead/\R.el<10)
def Nd.Rx(R:Nd)(L:Lg)(m:bg):Nd:=
 if m.kind=1 then R.Nl L {bg.zero with kind:=2,to:=m.Jl}else if m.kind=3\/m.kind=5 then R.Nl L {bg.zero with kind:=4,to:=m.Jl}else R
def jp(t i lt last:Nat):Bool:=decide (lt<t\/t=lt/\last<=i)
def i6(ht:Nat)(hv:Int)(t:Nat)(c:Int)(J:Bool):(Nat×Int)×Bool:=
 if t<ht then((ht,hv),false)
 else
  let h:=if ht<t then(t,-1)else(ht,hv)
  if J=false\/h.2 ≠ -1/\h.2≠c then(h,false)else((h.1,c),true)
def Nd.asked(R:Nd)(L:Lg)(D:Dk)(m:bg):jz:=
 let g:=i6 L.kt L.kv m.term m.Jl (jp m.lt m.idx (L.Ka L.last).1 L.last)
 if g.2=true then
  let A:=L.Jc D g.1.1 g.1.2
  if A.2.2≠0 then(R.did A.2.2,A.1,A.2.1,A.2.2)
  else({R with el:=0,wt:=0}.Nl A.1 {bg.zero with kind:=2,to:=m.Jl,Jj:=true},A.1,A.2.1,0)
 else(R.Nl L {bg.zero with kind:=2,to:=m.Jl},L,D,0)
def Nd.Qe(R:Nd)(L:Lg)(D:Dk)(m:bg):jz:=
 if R.role≠1\/m.Jj=false then(R,L,D,0)else {R with yes:=R.yes++[m.Jl]}.Qa L D L.cfg.1
def lK(L:Lg)(Je i t:Nat):Bool:=decide (i<=Je)&&((L.Ka i).2&&decide ((L.Ka i).1≠t))
def Nd.RQ(R:Nd)(L:Lg)(m:bg):Bool:=lK L R.Je m.idx m.lt||m.Jg.any fun e=>lK L R.Je e.idx e.term
def Nd.RK(R:Nd)(L:Lg)(D:Dk)(m:bg)(n:Nat)(Jj:Bool):Nd×Lg×Dk×Int:=
 ({R with Je:=if Jj=true then max R.Je (min m.Je n)else R.Je}.Nl L {bg.zero with kind:=4,to:=m.Jl,Jj:=Jj,idx:=n,Jn:=m.Jn},L,D,0)
def Nd.app(R:Nd)(L:Lg)(D:Dk)(m:bg):jz:=
 if R.role=2\/R.RQ L m=true then(R,L,D,0)
 else
  let A:=L.merge m.idx m.lt m.Jg D
  if A.2.2.2.2=180\/A.2.2.2.2=181 then(R.Qb m.Jl,A.1,A.2.1,0)
  else if A.2.2.2.2≠0 then((R.Qb m.Jl).did A.2.2.2.2,A.1,A.2.1,A.2.2.2.2)
  else if A.2.2.2.1=false then(R.Qb m.Jl).RK A.1 A.2.1 m A.2.2.1 false
  else
   let B:=A.1.sync A.2.1
   if B.2.2≠0 then((R.Qb m.Jl).did B.2.2,B.1,B.2.1,B.2.2)else(R.Qb m.Jl).RK B.1 B.2.1 m A.2.2.1 true
def lf(nx mt J:Nat):Nat:=max (min ((J+1)%18446744073709551616) (max nx 1-1)) (mt+1)
def Nd.Rj(R:Nd)(L:Lg)(m:bg):Nd:=
 let p:=R.p m.Jl
 let q:Pr:={p with ws:=false,rd:=max p.rd (min m.Jn R.Jn)}
 if m.Jj=true then(R.Jp m.Jl {q with mt:=max p.mt (min m.idx L.last),nx:=max p.nx (max p.mt (min m.idx L.last)+1)}).Qc L
 else R.Jp m.Jl {q with nx:=lf p.nx p.mt m.idx,of:=0}
def Nd.SE(R:Nd)(L:Lg)(m:bg):Nd:=
 if R.role=2/\(m.Jj=false\/(R.p m.Jl).nx<=L.last)/\m.Jl∈L.cfg.1 then R.send L m.Jl else R
def Nd.Np(R:Nd)(L:Lg)(m:bg):Nd:=if R.role≠2 then R else(R.Rj L m).SE L m
def Nd.piece(R:Nd)(m:bg):Nd:=
 let J:=m.off=0\/R.pf≠m.Jl\/R.ps.idx≠m.idx\/R.ps.term≠m.lt
 let N:=if J then {R with pf:=m.Jl,ps:=⟨m.idx,m.lt,m.Jq,[]⟩}else R
 if m.off=eq N.ps.data then {N with ps:={N.ps with data:=N.ps.data++m.data}}else N
def Nd.inst(R:Nd)(L:Lg)(D:Dk)(m:bg):jz:=
 let A:=L.install R.ps D
 let J:Nd:={R with pf:=0,ps:=bE.zero}
 if A.2.2=180\/A.2.2=181 then(J,A.1,A.2.1,0)
 else if A.2.2≠0 then(J.did A.2.2,A.1,A.2.1,A.2.2)
 else({J with Je:=max R.Je m.idx}.Nl A.1 {bg.zero with kind:=4,to:=m.Jl,Jj:=true,idx:=m.idx},A.1,A.2.1,0)
def Nd.chunk(R:Nd)(L:Lg)(D:Dk)(m:bg):jz:=
 if R.role=2 then(R,L,D,0)
 else if m.idx<=R.Je then((R.Qb m.Jl).Nl L {bg.zero with kind:=4,to:=m.Jl,Jj:=true,idx:=m.idx},L,D,0)
 else
  let J:=(R.Qb m.Jl).piece m
  if eq J.ps.data<m.whole then(J.Nl L {bg.zero with kind:=6,to:=m.Jl,idx:=m.idx,off:=eq J.ps.data},L,D,0)
  else J.inst L D m
def Nd.chunked(R:Nd)(L:Lg)(m:bg):Nd:=
 if R.role≠2\/m.idx≠L.sn.idx\/m.idx<(R.p m.Jl).nx then R else(R.Jp m.Jl {R.p m.Jl with ws:=false,of:=m.off}).send L m.Jl
def Nd.Qj(R:Nd)(L:Lg)(D:Dk)(m:bg):jz:=
 if m.kind=1 then R.asked L D m else if m.kind=2 then R.Qe L D m else if m.kind=3 then R.app L D m
 else if m.kind=4 then(R.Np L m,L,D,0)else if m.kind=5 then R.chunk L D m else if m.kind=6 then(R.chunked L m,L,D,0)else(R,L,D,0)
def Nd.Ru(R:Nd)(L:Lg)(D:Dk)(m:bg):jz:=if m.term<L.kt then(R.Rx L m,L,D,0)else R.Qj L D m
def Nd.Sk(R:Nd)(L:Lg)(D:Dk)(m:bg):jz:=
 if L.kt<m.term then let A:=R.raise L D m.term;if A.2.2.2≠0 then A else A.1.Ru A.2.1 A.2.2.1 m else R.Ru L D m
def Nd.take(R:Nd)(L:Lg)(D:Dk)(m:bg):jz:=
 if R.hl=true then(R,L,D,202)
 else if(enc m).isSome=false\/m.to≠R.nd\/de<m.term then(R,L,D,0)
 else if m.kind=1/\R.content=true then(R,L,D,0)
 else R.Sk L D m
def Nd.leads(R:Nd):Int:=if R.hl=true then 202 else if R.role≠2 then 200 else 0
def Nd.settled(R:Nd)(L:Lg):Bool:=decide ((L.Ka R.Je).1=L.kt)
def Nd.Jk(R:Nd)(L:Lg)(D:Dk)(b:Aa):Nd×Lg×Dk×sD:=
 if R.leads≠0 then(R,L,D,0,0,R.leads)else if(jE b).isSome=false then(R,L,D,0,0,1)else R.lay L D 1 b
def jF(c:Ae)(n:Int):Ae×Int:=
 if ¬(confOK (-1) c/\c≠[]/\0<=n/\n<7)then([],190)else if n∈c then([],191)else(fb (c++[n]),0)
def ku(c:Ae)(n:Int):Ae×Int:=
 if ¬(confOK (-1) c/\c≠[]/\0<=n/\n<7)then([],190)else if n∉c\/eq c=1 then([],191)else(c.filter fun v=>decide (v≠n),0)
def Nd.change(R:Nd)(L:Lg)(D:Dk)(J:Bool)(n:Int):Nd×Lg×Dk×sD:=
 if R.leads≠0 then(R,L,D,0,0,R.leads)
 else if R.settled L=false\/R.Je<L.cfg.2 then(R,L,D,0,0,201)
 else
  let c:=if J=true then jF L.cfg.1 n else ku L.cfg.1 n
  if c.2≠0 then(R,L,D,0,0,c.2)else(if J=true then R.Jp n (Pr.new (L.last+1))else R).lay L D 2 (ob (bG c.1))
def Nd.read(R:Nd)(L:Lg):Nd×sD:=
 if R.leads≠0 then(R,0,0,R.leads)else if R.settled L=false then(R,0,0,201)else let A:=R.tell L true;(A,A.Jn,A.Je,0)
def Nd.heard(R:Nd)(L:Lg)(t Jn:Nat):Bool:=
 decide (R.leads=0/\t=L.kt/\Jn<=R.Jn)&&mD L.cfg.1 (R.nd::(R.Rr L).filter fun v=>decide (Jn<=(R.p v).rd))
def Nd.save(R:Nd)(L:Lg)(D:Dk)(i:Nat)(data:Aa):jz:=
 if R.hl=true then(R,L,D,202)
 else if R.Je<i\/i<=L.sn.idx then(R,L,D,1)
 else
  let A:=L.save ⟨i,(L.Ka i).1,(ei L.sn L.l i).1,data⟩ D
  (if A.2.2=181 then R else R.did A.2.2,A.1,A.2.1,A.2.2)
end
section
def Lg.SP(L M:Lg):Prop:=M.kt=L.kt/\M.kv=L.kv/\M.sn=L.sn
theorem Dn:∀(x:List ah) (L:Lg) (D:Dk),L.SP (L.Rc x D).1
 |[],L,D=>⟨rfl,rfl,rfl⟩
 |e::r,L,D=>by
  unfold Lg.Rc
  split
  ·exact⟨I,I,I⟩
  exact Dn r {L with w:=(L.w.append e.bytes D).1,l:=L.l++[e]} _
theorem wr(L:Lg)(x D):L.SP (L.append x D).1:=by
 unfold Lg.append
 split
 ·exact⟨I,I,I⟩
 split
 ·exact⟨I,I,I⟩
 simp[Dn]
theorem CF(L:Lg)(D):L.SP (L.sync D).1:=by
 unfold Lg.sync
 split<;>exact⟨rfl,rfl,rfl⟩
def wn(L:Lg)(x last D):L.SP (L.Ms x last D).1:=by
 grind[wr,Lg.Ms]
def IM(L:Lg)(x last D):L.SP (L.Jo x last D).1:=by
 unfold Lg.Jo
 split
 ·simp[wn]
 split
 ·split
  ·exact⟨I,I,I⟩
  exact wn (L.cutAt _ _) _ last _
 simp[wn]
def B8(L:Lg)(i t x D):L.SP (L.merge i t x D).1:=by
 unfold Lg.merge Lg.Kc
 repeat' split
 all_goals first|exact⟨rfl,rfl,rfl⟩|simp[IM]
def Az(L:Lg)(D t v):(L.Jc D t v).1.sn=L.sn/\(L.Jc D t v).1.l=L.l/\(((L.Jc D t v).2.2=0/\(L.Jc D t v).1.kt=t/\(L.Jc D t v).1.kv=v/\L.kt<=t)\/((L.Jc D t v).2.2≠0/\(L.Jc D t v).1.kt=L.kt/\(L.Jc D t v).1.kv=L.kv)):=by
 unfold Lg.Jc
 grind
theorem Ca(L:Lg)(s fr D):(L.lay s fr D).1.kt=L.kt/\(L.lay s fr D).1.kv=L.kv/\((L.lay s fr D).1.sn=L.sn\/(L.lay s fr D).1.sn=s):=by
 grind[Lg.lay,Lg.Sf,Lg.Rq,Lg.Sy,Lg.laid]
theorem Br(L:Lg)(s D):(L.save s D).1.kt=L.kt/\(L.save s D).1.kv=L.kv/\((L.save s D).1.sn=L.sn\/(L.save s D).1.sn=s/\L.fits s=0):=by
 grind[CF,Ca,Lg.save,Lg.Si,Lg.Sj,Lg.SP]
def AB(L:Lg)(s D):(L.install s D).1.kt=L.kt/\(L.install s D).1.kv=L.kv/\((L.install s D).1.sn=L.sn\/(L.install s D).1.sn=s/\L.fits s=0):=by
 grind[Br,Ca,Lg.install,Lg.Se]
def Lg.cf(L:Lg):Prop:=(bG L.sn.Jq).isSome=true
theorem Lg.cf.SP{L M:Lg}(h:L.cf)(g:L.SP M):M.cf:=by
 unfold Lg.cf;rw[g.2.2];exact h
theorem Lg.cf.Jc{L:Lg}(h:L.cf)(D t v):(L.Jc D t v).1.cf:=by
 simp_all[Az,Lg.cf]
theorem Lg.cf.of{L M:Lg}{s}(h:L.cf)(g:M.sn=L.sn\/M.sn=s/\L.fits s=0):M.cf:=by
 unfold Lg.cf;rcases g with g|⟨g,f⟩
 ·rw[g];exact h
 rw[g];exact(yt f).1
def wg{c}(h:(bG c).isSome=true):c≠[]/\confOK (-1) c:=by
 unfold bG at h
 grind
def gf(c:Ae):Prop:=c≠[]/\confOK (-1) c
def gf.mem{c}(h:gf c){v}(hv:v∈c):0<=v/\v<7:=by
 exact qQ c _ h.2 qo v hv
def H3:∀n<128,n≠0->gf (iH n 7):=by unfold gf;decide
theorem HU{b c}(h:fB b=some c):gf c:=by
 unfold fB at h
 split at h
 ·split at h
  ·simp at h
  rename_i x J;obtain rfl:=aaW h;exact H3 _ qo qo
 simp at h
def jB{c L}(o:bh c L)(h:L.cf)(up):gf (ei L.sn L.l up).1:=by
 unfold ei
 split
 ·rename_i e J;have O:=List.find?_some J;have N:=o.Jg e (acM.1 (List.mem_of_find?_eq_some J));obtain⟨⟨-,-,U⟩,-⟩:=N
  grind[Option.isSome_iff_exists,HU,mq]
 exact wg h
def gf.len{c}(h:gf c):eq c<=7:=by
 have:=qR c _ h.2 qo qo;omega
def Lg.SW{c L}(o:bh c L)(O:c<=1000000000):L.last+1<=de:=by
 have J:=o.idx;have N:=o.len
 grind[bX,Lg.last,de]
def Pr.ok(p:Pr):Prop:=p.mt+1<=de/\p.nx<=de/\p.rd<=ac/\0<=p.of/\p.of<=2097152
structure Rb (z k:Nat) (R:Nd):Prop where
 nd:0<=R.nd/\R.nd<7
 role:R.role=0\/R.role=1\/R.role=2
 lead : -1<=R.lead/\R.lead<7
 Je:R.Je<=ac
 el:0<=R.el/\R.el<=k
 wt:0<=R.wt/\R.wt<=31
 yes:eq R.yes<=k
 Jn:R.Jn<=k
 pr:∀v,(R.pr v).ok
 ps:R.ps.idx<=ac/\R.ps.term<=ac/\eq R.ps.Jq<=7/\eq R.ps.data<=256*z
 out:eq R.out<=k
theorem Rb.up{z k j R}(o:Rb z k R)(h:k<=j):Rb z j R:=by
 obtain⟨J,U,V,X,h5,Y,h7,h8,Z,N,O⟩:=o;exact⟨J,U,V,X,qo,Y,qo,qo,Z,qo,qo⟩
def Rb.Sa{z z' k j R}(o:Rb z k R)(J:z<=z')(h:k<=j):Rb z' j R:={o.up h with ps:=by have:=o.ps;omega}
section
variable {z k c:Nat}{R:Nd}{L:Lg}
theorem Rb.Nl(o:Rb z k R)(L m):Rb z (k+1) (R.Nl L m):={o.up (aaq k)with out:=by have:=o.out;simp[Nd.Nl];omega}
theorem Rb.Jp(o:Rb z k R)(v){p}(h:p.ok):Rb z k (R.Jp v p):={o with pr:=fun i=>by unfold Nd.Jp;dsimp only;split;exact h;exact o.pr i}
theorem Rb.send(o:Rb z k R)(L v):Rb z (k+1) (R.send L v):=by
 have h:=o.Jp v (p:={R.p v with ws:=true}) (o.pr v.toNat);unfold Nd.send
 repeat' split
 ·exact o.up<|aaq k
 all_goals exact h.Nl L _
theorem Rb.Qd(a L):∀(l:Ae) {k:Nat} {R:Nd},Rb z k R->Rb z (k+eq l) (Nd.Qd a L l R)
 |[],k,R,o=>o
 |v::r,k,R,o=>by
  unfold Nd.Qd;refine(Rb.Qd a L r (k:=k+1) ?_).up Au
  split
  ·exact(o.Jp v (p:={R.p v with ws:=false})<|o.pr v.toNat).send L v
  exact o.send L v
def nb(R:Nd){c L}(b:bh c L)(f:L.cf):eq (R.Rr L)<=7:=aat (acq _ _) (jB b f L.last).len
theorem Rb.tell(o:Rb z k R)(b:bh c L)(f:L.cf)(a):Rb z (k+8) (R.tell L a):=by
 unfold Nd.tell;have:=nb R b f;refine(Rb.Qd a L _ (k:=k+1) ?_).up qo
 split
 ·exact {o.up (aaq k)with Jn:=by have:=o.Jn;dsimp only;omega}
 exact o.up<|aaq k
def wu{c f B}(h:∀v∈c,f v<=B):iG c f<=B:=by
 unfold iG;rw[aaR];cases hg:(fb (c.map fun v=>((f v:Nat):Int)))[(eq c-1)/2]? with
 |none=>simp
 |some x=>
  have J:=(dW _).mem_iff.1 (aam hg)
  grind
theorem Rb.RA(o:Rb z k R)(b:bh c L)(J:c<=1000000000):Rb z k (R.RA L):=by
 unfold Nd.RA;dsimp only
 split
 ·refine {o with Je:=aat (wu (B:=de) fun v hv=>?_) (show de<=ac by decide)};have N:=Lg.SW b J;have O:=(o.pr v.toNat).1;unfold Nd.p
  split<;>omega
 exact o
theorem Rb.Qb(o:Rb z k R){x}(h : -1<=x/\x<7):Rb z k (R.Qb x):={o with role:=.inl rfl,lead:=h,el:=⟨aaD 0,by have:=o.el;show(0:Int)<=_;omega⟩,wt:=⟨aaD 0,by show(0:Int)<=31;decide⟩}
theorem Rb.RR(o:Rb z k R)(b:bh c L)(f:L.cf):Rb z (k+8) (R.RR L):=by
 unfold Nd.RR
 split
 ·exact(o.tell b f true).Qb Q9
 exact o.up qo
theorem Rb.Qc(o:Rb z k R)(b:bh c L)(f:L.cf)(J:c<=1000000000):Rb z (k+8) (R.Qc L):=(o.RA b J).RR b f
theorem Rb.Rq(o:Rb z k R)(b:bh c L)(f:L.cf)(J:c<=1000000000):Rb z (k+16) (R.Rq L):=by
 unfold Nd.Rq
 split
 ·exact(o.Qc b f J).tell b f false
 exact(o.Qc b f J).up qo
theorem Rb.did(o:Rb z k R)(e):Rb z k (R.did e):=by
 unfold Nd.did
 split
 ·exact o
 exact {o with role:=.inl I,lead:=by simp,out:=aad _}
end
structure NI (c q z k:Nat) (R:Nd) (L:Lg) (D:Dk):Prop where
 rb:Rb z k R
 rn:Rn c q L D
 cf:L.cf
theorem NI.up{c q z k c' q' k' R L D}(o:NI c q z k R L D)(J:c<=c')(N:q<=q')(O:k<=k'):NI c' q' z k' R L D:=⟨o.rb.up O,o.rn.up J N,o.cf⟩
theorem NI.Sa{c q z k c' q' z' k' R L D}(o:NI c q z k R L D)(J:c<=c')(N:q<=q')(O:k<=k')(U:z<=z'):NI c' q' z' k' R L D:=⟨o.rb.Sa U O,o.rn.up J N,o.cf⟩
def NI.r{c q z z' k k' R R' L D}(o:NI c q z k R L D)(h:Rb z' k' R'):NI c q z' k' R' L D:=⟨h,o.rn,o.cf⟩
section
variable {c q z k:Nat}{R:Nd}{L:Lg}{D:Dk}
theorem NI.last(o:NI c q z k R L D)(J:c<=1000000000):L.last+1<=de:=L.SW o.rn.lb J
theorem NI.Jc(o:NI c q z k R L D)(t v)(ht:t<=ac):NI (c+2) (q+1) z k R (L.Jc D t v).1 (L.Jc D t v).2.1:=⟨o.rb,o.rn.Jc t v ht,o.cf.Jc D t v⟩
theorem NI.sync(o:NI c q z k R L D):NI (c+1) q z k R (L.sync D).1 (L.sync D).2.1:=⟨o.rb,o.rn.sync,o.cf.SP (CF L D)⟩
theorem NI.append(o:NI c q z k R L D)(e)(h:e.idx<=ac/\e.term<=ac)(J:c<=900000000):NI (c+12) (q+1) z k R (L.append [e] D).1 (L.append [e] D).2.1:=
 ⟨o.rb,(o.rn.append [e] (by simpa using h) (by simp only[abd];omega)).up Q8 Q8,o.cf.SP (wr L [e] D)⟩
theorem NI.merge(o:NI c q z k R L D)(i t x)(J:∀e∈x,e.idx<=ac/\e.term<=ac)(hl:eq x<=8)(N:c<=900000000):NI (c+98) (q+9) z k R (L.merge i t x D).1 (L.merge i t x D).2.1:=
 ⟨o.rb,(o.rn.merge i t x J qo).up qo qo,o.cf.SP (B8 L i t x D)⟩
theorem NI.lay(o:NI c q z k R L D)(J:c<=900000000)(kind data):NI (c+13) (q+1) z (k+16) (R.lay L D kind data).1 (R.lay L D kind data).2.1 (R.lay L D kind data).2.2.1:=by
 have O:=o.last qo;have N:=o.rn.lb.kt;have a:=o.append ⟨L.last+1,L.kt,kind,data⟩ ⟨by grind[de,ac],N⟩ J;have b:=a.sync;unfold Nd.lay;dsimp only
 split
 ·exact(a.r<|a.rb.did _).up qo qo qo
 split
 ·exact(b.r<|b.rb.did _).up qo qo qo
 exact b.r<|b.rb.Rq b.rn.lb b.cf qo
def NI.T0(o:NI c q z k R L D)(J:c<=1000000000):NI c q z k (R.up L) L D:=by
 have h:=o.last J;have h0:=o.rb;refine o.r {h0 with role:=.inr (.inr I),lead:=?_,el:=⟨aaD 0,?_⟩,pr:=fun v=>?_}
 ·have:=h0.nd;show -1<=R.nd/\R.nd<7;omega
 ·have:=h0.el;show(0:Int)<=_;omega
 exact⟨by unfold de;exact(by decide:0+1<=2^62),h,by show 0<=ac;omega,aaD 0,by show(0:Int)<=2097152;omega⟩
theorem NI.Qa(o:NI c q z k R L D)(J:c<=900000000)(l):NI (c+13) (q+1) z (k+16) (R.Qa L D l).1 (R.Qa L D l).2.1 (R.Qa L D l).2.2.1:=by
 unfold Nd.Qa
 split
 ·exact o.up qo qo qo
 exact(o.T0 qo).lay J 0 []
theorem Rb.asks(L):∀(l:Ae) {k:Nat} {R:Nd},Rb z k R->Rb z (k+eq l) (Nd.asks L l R)
 |[],k,R,o=>o
 |v::r,k,R,o=>by
  unfold Nd.asks;exact(Rb.asks L r (o.Nl L _)).up Au
theorem Rb.Kf(o:Rb z k R):Rb z (k+1) R.Kf:=
 {o.up (aaq k)with role:=.inr (.inl rfl),lead:=by show -1<=(-1:Int)/\(-1:Int)<7;decide,el:=⟨aaD 0,by show(0:Int)<=_;omega⟩,wt:=⟨aaD 0,by show(0:Int)<=31;decide⟩,yes:=by show 1<=k+1;omega}
theorem NI.Qi(o:NI c q z k R L D)(O:c<=800000000)(J:L.kt<de)(l):NI (c+15) (q+2) z (k+24) (R.Qi L D l).1 (R.Qi L D l).2.1 (R.Qi L D l).2.2.1:=by
 have a:=o.Jc (L.kt+1) R.nd (by unfold de at J;unfold ac;omega);unfold Nd.Qi;dsimp only
 split
 ·exact(a.r<|a.rb.did _).up qo qo qo
 have N:=nb R.Kf a.rn.lb a.cf;exact((a.r ((Rb.asks _ _ a.rb.Kf).up (j:=k+8) qo)).Qa qo l).up qo qo qo
theorem Rb.Ro(o:Rb z k R)(d):Rb z (k+1) (R.Ro d):=by
 have J:=o.el;have N:=o.wt;refine {o.up (aaq k)with el:=?_,wt:=?_}
 ·show 0<=R.el+1/\R.el+1<=_;omega
 show 0<=(if R.wt=0 then _ else R.wt)/\(if R.wt=0 then _ else R.wt)<=31;omega
theorem NI.idle(o:NI c q z k R L D)(J:c<=800000000)(d):NI (c+15) (q+2) z (k+25) (R.idle L D d).1 (R.idle L D d).2.1 (R.idle L D d).2.2.1:=by
 have h:=o.r (o.rb.Ro d);unfold Nd.idle
 split
 ·exact h.up qo qo qo
 exact(h.Qi J qo _).up qo qo qo
def Rb.T6{z k R}(o:Rb z k R):Rb z k {R with el:=0}:={o with el:=⟨aaD 0,Q8⟩}
theorem NI.Sw(o:NI c q z k R L D):NI c q z (k+9) (R.Sw L) L D:=by
 unfold Nd.Sw
 split
 ·exact o.r<|(o.rb.T6.tell o.rn.lb o.cf true).up qo
 have J:=o.rb.el;exact o.r {o.rb.up (show k<=k+9 by omega)with el:=by grind}
theorem NI.tick(o:NI c q z k R L D)(J:c<=800000000)(d):NI (c+15) (q+2) z (k+25) (R.tick L D d).1 (R.tick L D d).2.1 (R.tick L D d).2.2.1:=by
 unfold Nd.tick
 repeat' split
 ·exact o.up qo qo qo
 ·exact o.Sw.up qo qo qo
 exact o.idle J d
def Rb.fl(o:Rb z k R):Rb z k {R with role:=0,lead:=-1}:={o with role:=.inl rfl,lead:=by simp}
theorem NI.raise(o:NI c q z k R L D)(t)(ht:t<=ac):NI (c+2) (q+1) z k (R.raise L D t).1 (R.raise L D t).2.1 (R.raise L D t).2.2.1:=by
 have a:=o.Jc t (-1) ht;unfold Nd.raise;dsimp only
 split
 ·exact a.r a.rb.fl
 exact a.r<|a.rb.did _
theorem Rb.Rx(o:Rb z k R)(L m):Rb z (k+1) (R.Rx L m):=by
 unfold Nd.Rx
 repeat' split
 all_goals first|exact o.Nl L _|exact o.up (aaq k)
def xI{ht t hv c nw}(J:ht<=ac)(N:t<=ac):(i6 ht hv t c nw).1.1<=ac:=by
 unfold i6
 grind
theorem NI.asked(o:NI c q z k R L D)(m)(hb:m.bd):NI (c+2) (q+1) z (k+1) (R.asked L D m).1 (R.asked L D m).2.1 (R.asked L D m).2.2.1:=by
 unfold Nd.asked;dsimp only
 split
 ·have a:=o.Jc (i6 L.kt L.kv m.term m.Jl (jp m.lt m.idx (L.Ka L.last).1 L.last)).1.1 (i6 L.kt L.kv m.term m.Jl (jp m.lt m.idx (L.Ka L.last).1 L.last)).1.2 (xI o.rn.lb.kt hb.term)
  split
  ·exact(a.r<|a.rb.did _).up qo qo qo
  have h:Rb z k {R with el:=0,wt:=0}:={o.rb.T6 with wt:=⟨aaD 0,Q8⟩};exact a.r (h.Nl _ _)
 exact(o.r<|o.rb.Nl L _).up qo qo qo
theorem NI.Qe(o:NI c q z k R L D)(J:c<=900000000)(m):NI (c+13) (q+1) z (k+17) (R.Qe L D m).1 (R.Qe L D m).2.1 (R.Qe L D m).2.2.1:=by
 unfold Nd.Qe
 split
 ·exact o.up qo qo qo
 have h:Rb z (k+1) {R with yes:=R.yes++[m.Jl]}:={o.rb.up (aaq k)with yes:=by have:=o.rb.yes;simp;omega};exact(o.r h).Qa J _
theorem NI.RK(o:NI c q z k R L D)(m)(hb:m.bd)(n g):NI c q z (k+1) (R.RK L D m n g).1 (R.RK L D m n g).2.1 (R.RK L D m n g).2.2.1:=by
 unfold Nd.RK;have J:=o.rb.Je;have N:=hb.Je;have h:Rb z k {R with Je:=if g=true then max R.Je (min m.Je n)else R.Je}:={o.rb with Je:=by dsimp only;split<;>omega};exact o.r (h.Nl _ _)
def lG{m:bg}(h:m.ok):0<=m.Jl/\m.Jl<7:=h.1.2.1
def rA{m:bg}(h:m.ok)(J:m.kind=3):entsOK m.idx 0 m.Jg/\eq m.Jg<=8:=by
 have:=h.2.1 .Jg (by rw[J];simp[eR]);exact this
def yN{m:bg}(h:m.ok)(J:m.kind=5\/m.kind=6):0<=m.off/\m.off<=2097152:=by
 have:=h.2.1 .off (by grind[eR]);exact this
def OC{m:bg}(h:m.ok)(J:m.kind=5):gf m.Jq:=by
 have:=h.2.1 .Jq (by rw[J];simp[eR]);exact wg this
def D4{m:bg}(h:m.ok)(J:m.kind=5):eq m.data<=256:=by
 have:=h.2.1 .data (by rw[J];simp[eR]);exact this.1
theorem NI.app(o:NI c q z k R L D)(N:c<=900000000)(m)(hb:m.bd)(ho:m.ok)(O:m.kind=3):NI (c+99) (q+9) z (k+1) (R.app L D m).1 (R.app L D m).2.1 (R.app L D m).2.2.1:=by
 unfold Nd.app;dsimp only;have U:=lG ho
 split
 ·exact o.up qo qo qo
 have a:=(o.r (o.rb.Qb (x:=m.Jl) qo)).merge m.idx m.lt m.Jg (fun e J=>⟨(hb.Jg e J).1,(hb.Jg e J).2.1⟩) (rA ho O).2 N;have b:=a.sync
 repeat' split
 ·exact a.up qo qo qo
 ·exact(a.r<|a.rb.did _).up qo qo qo
 ·exact(a.RK m hb _ _).up qo qo qo
 ·exact(b.r<|b.rb.did _).up qo qo qo
 exact(b.RK m hb _ _).up qo qo qo
theorem NI.Rj(o:NI c q z k R L D)(J:c<=900000000)(m)(hb:m.bd):NI c q z (k+8) (R.Rj L m) L D:=by
 have hl:=o.last qo;have hp:=o.rb.pr m.Jl.toNat;have N:=hb.Jn;unfold Pr.ok at hp;refine o.r ?_;unfold Nd.Rj;dsimp only;unfold Nd.p
 split
 ·refine Rb.Qc (o.rb.Jp m.Jl ?_) o.rn.lb o.cf qo;unfold Pr.ok;dsimp only;omega
 refine(o.rb.Jp m.Jl ?_).up qo;unfold Pr.ok lf;dsimp only;omega
theorem NI.Np(o:NI c q z k R L D)(J:c<=900000000)(m)(hb:m.bd):NI c q z (k+9) (R.Np L m) L D:=by
 unfold Nd.Np
 split
 ·exact o.up qo qo qo
 have h:=o.Rj J m hb;unfold Nd.SE
 split
 ·exact h.r<|h.rb.send L _
 exact h.up qo qo qo
theorem Rb.piece(o:Rb z k R)(m)(hb:m.bd)(ho:m.ok)(J:m.kind=5):Rb (z+1) (k+1) (R.piece m):=by
 have N:=o.ps;have O:=D4 ho J;have U:=(OC ho J).len;have V:=hb.idx;have X:=hb.lt;unfold Nd.piece;dsimp only
 repeat' split
 all_goals refine {o.Sa (aaq z) (aaq k)with ps:=?_}
 all_goals grind
def Rb.Ui(o:Rb z k R):Rb z k {R with pf:=0,ps:=bE.zero}:={o with ps:=⟨aad _,aad _,aad _,aad _⟩}
theorem NI.inst{j}(o:NI c q z k R L D)(hj:q+20<=1048576*j)(J:c<=499900000)(m)(hb:m.bd):NI (c+(8*z+j+22)) (q+3) z (k+1) (R.inst L D m).1 (R.inst L D m).2.1 (R.inst L D m).2.2.1:=by
 have hp:=o.rb.ps
 have a:NI (c+(8*z+j+22)) (q+3) z k R (L.install R.ps D).1 (L.install R.ps D).2.1:=
  ⟨o.rb,(o.rn.install (k:=4*z+1) (j:=j) R.ps hp.2.1 J qo qo).up qo qo,o.cf.of (AB L R.ps D).2.2⟩
 have N:=o.rb.Je;have O:=hb.idx;unfold Nd.inst;dsimp only
 repeat' split
 ·exact(a.r a.rb.Ui).up qo qo qo
 ·exact(a.r<|a.rb.Ui.did _).up qo qo qo
 have h:Rb z k {R with pf:=0,ps:=bE.zero,Je:=max R.Je m.idx}:={a.rb.Ui with Je:=by dsimp only;omega};exact a.r (h.Nl _ _)
theorem NI.chunk{j}(o:NI c q z k R L D)(hj:q+20<=1048576*j)(O:c<=499900000)(m)(hb:m.bd)(ho:m.ok)(U:m.kind=5):NI (c+(8*z+j+30)) (q+3) (z+1) (k+2) (R.chunk L D m).1 (R.chunk L D m).2.1 (R.chunk L D m).2.2.1:=by
 have V:=lG ho;have J:=o.rb.Qb (x:=m.Jl) qo;have N:=J.piece m hb ho U;unfold Nd.chunk;dsimp only
 repeat' split
 ·exact o.Sa qo qo qo qo
 ·exact(o.r<|J.Nl L _).Sa qo qo qo qo
 ·exact(o.r<|N.Nl L _).up qo qo qo
 exact((o.r N).inst hj O m hb).up qo qo qo
theorem NI.chunked(o:NI c q z k R L D)(m)(ho:m.ok)(N:m.kind=6):NI c q z (k+1) (R.chunked L m) L D:=by
 have J:=yN ho (.inr N);have hp:=o.rb.pr m.Jl.toNat;unfold Nd.chunked
 split
 ·exact o.up qo qo qo
 exact o.r<|(o.rb.Jp m.Jl (p:={R.p m.Jl with ws:=false,of:=m.off}) ⟨hp.1,hp.2.1,hp.2.2.1,J⟩).send L _
theorem NI.Qj{j}(o:NI c q z k R L D)(hj:q+20<=1048576*j)(Y:c<=499900000)(m)(hb:m.bd)(ho:m.ok):NI (c+(8*z+j+110)) (q+9) (z+1) (k+17) (R.Qj L D m).1 (R.Qj L D m).2.1 (R.Qj L D m).2.2.1:=by
 unfold Nd.Qj
 by_cases J:m.kind=1
 ·rw[aab J];exact(o.asked m hb).Sa qo qo qo qo
 by_cases N:m.kind=2
 ·rw[aaa J,aab N];exact(o.Qe qo m).Sa qo qo qo qo
 by_cases O:m.kind=3
 ·rw[aaa J,aaa N,aab O];exact(o.app qo m hb ho O).Sa qo qo qo qo
 by_cases U:m.kind=4
 ·rw[aaa J,aaa N,aaa O,aab U];exact(o.Np qo m hb).Sa qo qo qo qo
 by_cases V:m.kind=5
 ·rw[aaa J,aaa N,aaa O,aaa U,aab V];exact(o.chunk hj Y m hb ho V).Sa qo qo qo qo
 rw[aaa J,aaa N,aaa O,aaa U,aaa V]
 split
 ·rename_i X;exact(o.chunked m ho X).Sa qo qo qo qo
 exact o.Sa qo qo qo qo
theorem NI.Ru{j}(o:NI c q z k R L D)(hj:q+20<=1048576*j)(J:c<=499900000)(m)(hb:m.bd)(ho:m.ok):NI (c+(8*z+j+110)) (q+9) (z+1) (k+17) (R.Ru L D m).1 (R.Ru L D m).2.1 (R.Ru L D m).2.2.1:=by
 unfold Nd.Ru
 split
 ·exact(o.r<|o.rb.Rx L m).Sa qo qo qo qo
 exact o.Qj hj J m hb ho
theorem NI.take{j}(o:NI c q z k R L D)(hj:q+30<=1048576*j)(J:c<=499800000)(m)(hb:m.bd):NI (c+(8*z+j+120)) (q+10) (z+1) (k+17) (R.take L D m).1 (R.take L D m).2.1 (R.take L D m).2.2.1:=by
 unfold Nd.take
 split
 ·exact o.Sa qo qo qo qo
 split
 ·exact o.Sa qo qo qo qo
 split
 ·exact o.Sa qo qo qo qo
 rename_i h _
 have ho:m.ok:=by
  simp_all[enc]
 unfold Nd.Sk;dsimp only
 split
 ·have a:=o.raise m.term hb.term
  split
  ·exact a.Sa qo qo qo qo
  exact(a.Ru (j:=j) qo qo m hb ho).Sa qo qo qo qo
 exact(o.Ru (j:=j) qo qo m hb ho).Sa qo qo qo qo
theorem NI.Jk(o:NI c q z k R L D)(J:c<=900000000)(b):NI (c+13) (q+1) z (k+16) (R.Jk L D b).1 (R.Jk L D b).2.1 (R.Jk L D b).2.2.1:=by
 unfold Nd.Jk
 repeat' split
 ·exact o.up qo qo qo
 ·exact o.up qo qo qo
 exact o.lay J 1 b
theorem NI.change(o:NI c q z k R L D)(J:c<=900000000)(a n):NI (c+13) (q+1) z (k+16) (R.change L D a n).1 (R.change L D a n).2.1 (R.change L D a n).2.2.1:=by
 have hl:=o.last qo;unfold Nd.change;dsimp only
 split
 ·exact o.up qo qo qo
 split
 ·exact o.up qo qo qo
 generalize (if a=true then jF L.cfg.1 n else ku L.cfg.1 n)=x
 split
 ·exact o.up qo qo qo
 split
 ·exact(o.r (o.rb.Jp n (p:=Pr.new (L.last+1)) ⟨by unfold de;exact(by decide:0+1<=2^62),hl,by show 0<=ac;omega,aaD 0,by show(0:Int)<=2097152;omega⟩)).lay J 2 _
 exact o.lay J 2 _
theorem NI.read(o:NI c q z k R L D):NI c q z (k+8) (R.read L).1 L D:=by
 unfold Nd.read
 repeat' split
 ·exact o.up qo qo qo
 ·exact o.up qo qo qo
 exact o.r<|o.rb.tell o.rn.lb o.cf true
def Lg.RX{c L}(o:bh c L)(i):(L.Ka i).1<=ac:=by
 unfold Lg.Ka En.Ka;have J:=o.st
 repeat' split
 ·exact J
 ·omega
 cases h:L.l[i-L.sn.idx-1]? with
 |none=>exact aad _
 |some e=>exact(o.Jg e (aam h)).2.2
theorem NI.save{j}(o:NI c q z k R L D)(hj:q+20<=1048576*j)(J:c<=499900000)(i data d)(N:(eq data+63)/64<=d):NI (c+(2*d+j+20)) (q+3) z k (R.save L D i data).1 (R.save L D i data).2.1 (R.save L D i data).2.2.1:=by
 unfold Nd.save;dsimp only
 split
 ·exact o.up qo qo qo
 split
 ·exact o.up qo qo qo
 have a:NI (c+(2*d+j+20)) (q+3) z k R (L.save ⟨i,(L.Ka i).1,(ei L.sn L.l i).1,data⟩ D).1 (L.save ⟨i,(L.Ka i).1,(ei L.sn L.l i).1,data⟩ D).2.1:=
  ⟨o.rb,o.rn.save (j:=j) _ (Lg.RX o.rn.lb i) J N qo,o.cf.of (Br L _ D).2.2⟩
 split
 ·exact a
 exact a.r<|a.rb.did _
end
end
section
def D0{s:cW}{r}(hs:s.bd)(J:r.1<2^64/\eq r.2<=48):(s.pick r).bd:=by
 unfold cW.pick
 split
 ·exact J
 exact hs
def Bo{c D}(o:D.Ok c)(area):(iF D area).bd:=
 D0 (D0 ⟨Nat.zero_lt_succ _,aad _⟩ (xh o area 0)) (xh o area 1)
theorem Fn:∀(r:List (Aa)) (i:Nat) (l:List ah),j6 i r=some l->eq l=eq r/\∀e∈l,i9 e
 |[],i,l,h=>by
  cases h
  simp
 |b::r,i,l,h=>by
  rw[xu]at h;cases hg:gD b with
  |none=>rw[hg]at h;cases h
  |some e=>
   rw[hg]at h;dsimp only at h
   split at h
   ·cases hr:j6 (i+1) r with
    |none=>rw[hr]at h;cases h
    |some q=>
     rw[hr]at h;cases h;obtain⟨O,U⟩:=Fn r (i+1) q hr;have N:=IG hg;refine⟨by simp[O],fun y J=>?_⟩;rcases aaB.1 J with rfl|J
     ·exact⟨nI.1 (by rw[N.1];rfl),N.2⟩
     exact U y J
   cases h
def Jy{c D}(o:aW c D){fr first W E}(h:dL D fr first=(some W,E,0)):eq W.Jd<=eq D.Iz:=by
 unfold dL at h
 split at h
 ·cases h
 split at h
 ·cases h
 rename_i O
 split at h
 ·cases h
 rename_i U
 split at h
 ·cases h
 rename_i J
 split at h
 ·cases h
 simp only[aah,aae]at h;obtain⟨rfl,_⟩:=h
 have J:(ic D fr (ci (aU D)) (dY fr first (aU D)) []).2.2=true:=by
  simp_all
 have h0:jc D (dY fr first (aU D)).next [] (dY fr first (aU D)):=⟨rfl,rfl,rfl,by simp[dY],by simp[dY];omega,by simp[dY],by simp[dY],by simp[dY]⟩;have N:=(jc.scan o.ok _ _ _ _ h0 J).Jd;rw[abl]at N
 grind[qV,vF]
def CV(g n D):Rk 0 D (fO D g n).1:=by
 unfold fO
 split
 ·exact(Ex D).free _
 exact(Ex D).sync _
theorem BX(g):∀(l:Af) (D:Dk),Rk 0 D (wsettle g l D).1
 |[],D=>Ex D
 |n::r,D=>by
  unfold Go.En.wsettle
  split
  ·exact(CV g n D).trans<|BX g r _
  exact CV g n D
def Lt(D fr first):Rk 0 D (dL D fr first).2.1:=by
 grind[Rk.of,BX,dL]
theorem wI(pl):∀(l:Ae) (D:Dk),Rk 0 D (Na pl l D).1
 |[],D=>Ex D
 |a::r,D=>by
  rw[qN]
  split
  ·split
   ·exact(Ex D).free _
   exact((Ex D).free _).trans<|wI pl r _
  exact wI pl r D
def IC{D S v}(hv:eq v<=7){p}(h:kq D S v=some p):pp p.1/\p.2.1<=bX/\p.2.2<=bX:=by
 unfold kq at h
 split at h
 ·cases h;exact⟨⟨aad _,aad _,hv,aad _⟩,aad _,aad _⟩
 split at h
 ·cases h
 split at h
 ·cases h
 cases h;refine⟨⟨ia _ _,ia _ _,(HT _).1,?_⟩,ia _ _,ia _ _⟩
 grind[ia,pd]
theorem Rn.opened{c q D}(o:aW c D)(hq:eq D.Iz<=q){first L}(h:(eZ D first).1=some L):Rn (c+2*q) q L (eZ D first).2.1/\(eZ D first).2.2=0:=by
 unfold eZ at h⊢
 split at h
 ·cases h
 rename_i hv;have hv:(bG first).isSome=true:=by grind
 rw[aaa (by rw[hv];simp)]
 split at h
 ·cases h
 rename_i hd;rw[aaa hd];cases hkh:jo (iF D 0)with
 |none=>rw[hkh]at h;cases h
 |some Z=>
  rw[hkh]at h;dsimp only at h⊢;cases hhd:kq D (iF D 4) first with
  |none=>rw[hhd]at h;cases h
  |some p=>
   rw[hhd]at h;dsimp only at h⊢;unfold rJ at h⊢
   split at h
   ·cases h
   rename_i hf;rw[aaa hf];have U:aW (c+q) (Na p.2.1 (aU D) D).1:=(aW.Na p.2.1 (aU D) D c o).up (by rw[vF];omega);have V:eq (Na p.2.1 (aU D) D).1.Iz<=q:=by have:=(wI p.2.1 (aU D) D).len U.ok;omega
   generalize (Na p.2.1 (aU D) D).1=F at h U V⊢;unfold rI at h⊢;have X:=A7 (D:=F) (fr:=p.2.2) (first:=p.1.idx+1);have N:=U.opened p.2.2 (p.1.idx+1);have ad:=(Lt F p.2.2 (p.1.idx+1)).len N.ok;cases hw:(dL F p.2.2 (p.1.idx+1)).1 with
   |none=>rw[hw]at h;cases h
   |some W=>
    rw[hw]at h;dsimp only at h⊢
    have he:dL F p.2.2 (p.1.idx+1)=(some W,(dL F p.2.2 (p.1.idx+1)).2.1,0):=by
     rw[<-hw,<-X.2 W hw]
    have hb:=cK.opened U he;have aa:=Jy U he;cases hre:lF p.1 W with
    |none=>rw[hre]at h;cases h
    |some l=>
     rw[hre]at h;dsimp only at h⊢;cases h;have J:=IC (sS hv) hhd;have ab:=hb.1.Ja
     have Y:eq l<=70000000000+(c+q)/\∀e∈l,i9 e:=by
      grind[Fn,List.length_drop,lF]
     have O:Z.1<=ac /\ -1<=Z.2/\Z.2<=6:=by
      grind[jo,aG]
     refine⟨⟨⟨hb.1.up qo,Bo o.ok 0,Bo o.ok 4,O.1,O.2,J.1.idx,J.1.term,J.1.Jq,J.1.data,by have:=J.2.1;dsimp only;omega,by grind[bX,c9],aC,Y.2⟩,N.up qo,aC,qo⟩,rfl⟩
end
section
section deqs
variable {P:Program}{T:be}{w0:World}{ops:Ai}{Q:An}{plan plan':Af}{z:Nat}{listed listed':Al}{n:Nat}{l l':Sl}{K K0:PH}{hs A:Ac}
end deqs
def yu{r}(h:0<=r/\r<=1073741824):aW 0 (eX r):=⟨OU ⟨h.1,qo⟩,by simp[eX],by simp[eX],by simp[eX,fo];omega⟩
end
section
def RO(t:Nat)(a:List ah):Nat:=((a.getLast?).map ah.term).getD t
def IR(t e a):RO t (e::a)=RO e.term a:=by
 grind[RO]
theorem xL:∀(a b:List ah) (i t:Nat),eH i t (a++b)=0↔eH i t a=0/\eH (i+eq a) (RO t a) b=0
 |[],b,i,t=>by simp[RO,eH]
 |e::a,b,i,t=>by
  rw[aaL,tv,tv]
  by_cases h:e.idx≠i+1\/e.term<t
  ·omega
  rw[aaa h,aaa h,xL a b e.idx e.term,IR,aas,show e.idx+eq a=i+(eq a+1) by omega]
def BH{s l k}(h:k<=eq l):Ka s l (s.idx+k)=(RO s.term (l.take k),true):=by
 grind[Ka,RO]
def I6{i t l}(h:eH i t l=0){k}(J:k<=eq l):eH (i+k) (RO t (l.take k)) (l.drop k)=0:=by
 grind[List.take_append_drop,xL]
end
section
def Ct.TB{f}{args:Ad}(c:Ct P w0 f args K hs (fun v J _=>Le K J/\v=.bool true)):Ct P w0 f args K hs (fun v J _=>J=K/\v=.bool true):=
 Ct.Ta c (fun w v J hs' N ⟨le,hv⟩=>⟨K,hs',⟨rfl,hv⟩,N.SJ le⟩)
end
section
end
section
def Gj:(-9223372036854775808:Int)<=0/\(0:Int)<=9223372036854775807:=by decide
section
variable {n to:Int}{T:Nat} (hn:0<=n/\n<7) (ht:0<=to/\to<7) (hne:n≠to) (h0:T≠0) (hT:T<=ac)
include hn ht hne h0 hT
end
structure Nz (R:Nd):Prop where
 pr:∀v,(R.pr v).ok
 Je:R.Je<=ac
 Jn:R.Jn<=ac
 nd:0<=R.nd/\R.nd<7
def Rb.nz{z k R}(o:Rb z k R)(J:k<=ac):Nz R:=⟨o.pr,o.Je,by have:=o.Jn;omega,o.nd⟩
theorem Nz.Jp{R}(o:Nz R)(v){p}(h:p.ok):Nz (R.Jp v p):={o with pr:=fun i=>by unfold Nd.Jp;dsimp only;split;exact h;exact o.pr i}
theorem Nz.Nl{R}(o:Nz R)(L m):Nz (R.Nl L m):=⟨o.pr,o.Je,o.Jn,o.nd⟩
theorem Nz.send{R}(o:Nz R)(L v):Nz (R.send L v):=by
 have h:=o.Jp v (p:={R.p v with ws:=true}) (o.pr v.toNat);unfold Nd.send
 repeat' split
 ·exact o
 all_goals exact h.Nl L _
section
variable {c q z k:Nat}{R:Nd}{L:Lg}{D:Dk}
end
end
section
section
variable {c q z k u n:Nat}{R:Nd}{L:Lg}{D:Dk}
def M4(o:NI c q z k R L D)(O:c<=900000000){j}(hj:j<=8):L.sn.idx+eq L.l+j<2*bX:=by
 have J:=o.rn.lb.idx;have N:=o.rn.lb.len;unfold bX at J⊢;omega
end
end
section
def yn{n l o f x v}(J:o.op=.makeFunc f #[x] #[])(O:ev l x=some v)(U:∀w,(Instr.makeFunc f #[v] #[]).run P w=.ok (.func f #[v] #[]) w):∀A w,Ag n l A->(execOp A.eval o).run P w=.ok (.value (.func f #[v] #[])) w:=by
 intro A w N;simp only[execOp,J,Array.map_empty,List.map_toArray,aay,List.map_nil,N.ev O]
 rfl
def Ct.T8{f args}{a b c}{S:Value->PH->PH->PH->PH->Prop}(pre){post}
  (h:Ct P w0 f args K (a::b::c::(pre++post)) (fun v U hs'=>∃J N O,hs'=J::N::O::(pre++post)/\S v U J N O)):
  Ct P w0 f args K (pre++(a::b::c::post)) (fun v U hs'=>∃J N O,hs'=pre++(J::N::O::post)/\S v U J N O):=by
 have p:∀x y z:PH,(pre++(x::y::z::post)).Perm (x::y::z::(pre++post)):=fun x y z=>aak pre [x,y,z] post;refine⟨h.1,fun w Y=>(h.2 w (Y.perm (p a b c))).mono ?_⟩;rintro e w' ⟨v,U,hs',rfl,⟨J,N,O,rfl,X⟩,V⟩;exact⟨v,U,_,I,⟨J,N,O,I,X⟩,V.perm (p J N O).symm⟩
abbrev Ek:=@Ct.T8
def Ct.T7{f args}{a b}{S:Value->PH->PH->PH->Prop}(pre){post}
  (h:Ct P w0 f args K (a::b::(pre++post)) (fun v O hs'=>∃J N,hs'=J::N::(pre++post)/\S v O J N)):
  Ct P w0 f args K (pre++(a::b::post)) (fun v O hs'=>∃J N,hs'=pre++(J::N::post)/\S v O J N):=by
 have p:∀x y:PH,(pre++(x::y::post)).Perm (x::y::(pre++post)):=fun x y=>aak pre [x,y] post;refine⟨h.1,fun w X=>(h.2 w (X.perm (p a b))).mono ?_⟩;rintro e w' ⟨v,O,hs',rfl,⟨J,N,rfl,V⟩,U⟩;exact⟨v,O,_,I,⟨J,N,I,V⟩,U.perm (p J N).symm⟩
abbrev Cp:=@Ct.T7
def Ga{T:be}{ops:Ai}{Q:An}{plan plan' z listed listed' n l l'}{K0:PH}{A:Ac}(ys)[hT:a8 P T](J:Region.noSelect ops=true)(k i:Nat){p d t b ty c fr}(h0:mu T ops n z k plan listed l=some (p,d,t,⟨b,0,none⟩,plan',listed',l'))(Y:nh ops z ys (p/2)=true)
  (hi:A[i]?=some (pt b c ty fr)) (hm:i7 P t c.size=true) (hk:WA P w0 ops Q K0 A z plan' listed' n ((d,.agg c)::l') K hs):WA P w0 ops Q K0 A z plan listed n l K hs:=by
 unfold mu at h0
 split at h0
 ·rename_i p' o r L' l2 hh
  split at h0
  ·rename_i dd t' x hp hz hg hd O
   split at h0
   ·rename_i a' hb hx;simp only[aae,aah]at h0;obtain⟨rfl,rfl,rfl,rfl,rfl,rfl,rfl⟩:=h0;obtain⟨g1,g2⟩:=ki hh;refine Bd J k g1 ?_;have U:p'=2*(p' / 2):=by have:=aaF hp;omega
    rw[U];refine Bm g2 J hz hd hb (fun A' ha=>.inl ⟨gQ ha hg,fun w hw=>?_⟩) hk;obtain⟨L,N,X,V⟩:=hw;have Z:=pC (P:=P) (w:=w) (t:=t') (a:=⟨b,0,none⟩) (cs:=c.toList) qo rfl (fun j v hv=>(V (vE N ys X Y)).cell (.inr ⟨i,hi⟩) (m7 c.toList (fun j v h=>by simpa using h) j v hv));have e:c.toList.toArray=c:=by simp
    rw[e]at Z;simp only[execOp,O,ha.ev hx];simp[Z]
   simp at h0
  simp at h0
 simp at h0
def lZ(p:Pr)(t:Ad):Ad:=.int .u64 p.mt::.int .u64 p.nx::.int .u64 p.rd::.bool p.ws::.int .i64 p.of::t
structure NS where
 y:Value
 v:Value
 d:Value
 o:Value
 f0:Value
 f1:Value
 f2:Value
def aH(lb:Nat)(R:Nd)(s:NS):Ah:=
 (.int .i64 R.nd::Rp lb::.bool R.hl::.int .i64 R.role::.int .i64 R.lead::.int .u64 R.Je::.int .i64 R.el::.int .i64 R.wt::s.y::.int .u64 R.Jn ::
  lZ (R.pr 0) (lZ (R.pr 1) (lZ (R.pr 2) (lZ (R.pr 3) (lZ (R.pr 4) (lZ (R.pr 5) (lZ (R.pr 6)
   [.int .i64 R.pf,.int .u64 R.ps.idx,.int .u64 R.ps.term,s.v,s.d,s.o,s.f0,s.f1,s.f2]))))))).toArray
def uR{j}(h:j<7):j=0\/j=1\/j=2\/j=3\/j=4\/j=5\/j=6:=qo
def jq(lb R s){j}(hj:j<7){k v}(h:(lZ (R.pr j) [])[k]?=some v):(aH lb R s)[10+j*5+k]?=some v:=by
 have J:k<5:=by
  grind[lZ]
 obtain rfl|rfl|rfl|rfl|rfl:k=0\/k=1\/k=2\/k=3\/k=4:=qo
 all_goals
  obtain rfl|rfl|rfl|rfl|rfl|rfl|rfl:=uR hj
  all_goals exact h
def DR(R:Nd)(j:Nat)(p i):(R.Jp (j:Int) p).pr i=if i=j then p else R.pr i:=rfl
def rF(lb R s){j}(hj:j<7)(p):
  (p.nx=(R.pr j).nx/\p.rd=(R.pr j).rd/\p.ws=(R.pr j).ws/\p.of=(R.pr j).of->(aH lb R s).setIfInBounds (10+j*5) (.int .u64 p.mt)=aH lb (R.Jp (j:Int) p) s) /\
  (p.mt=(R.pr j).mt/\p.rd=(R.pr j).rd/\p.ws=(R.pr j).ws/\p.of=(R.pr j).of->(aH lb R s).setIfInBounds (10+j*5+1) (.int .u64 p.nx)=aH lb (R.Jp (j:Int) p) s) /\
  (p.mt=(R.pr j).mt/\p.nx=(R.pr j).nx/\p.ws=(R.pr j).ws/\p.of=(R.pr j).of->(aH lb R s).setIfInBounds (10+j*5+2) (.int .u64 p.rd)=aH lb (R.Jp (j:Int) p) s) /\
  (p.mt=(R.pr j).mt/\p.nx=(R.pr j).nx/\p.rd=(R.pr j).rd/\p.of=(R.pr j).of->(aH lb R s).setIfInBounds (10+j*5+3) (.bool p.ws)=aH lb (R.Jp (j:Int) p) s) /\
  (p.mt=(R.pr j).mt/\p.nx=(R.pr j).nx/\p.rd=(R.pr j).rd/\p.ws=(R.pr j).ws->(aH lb R s).setIfInBounds (10+j*5+4) (.int .i64 p.of)=aH lb (R.Jp (j:Int) p) s):=by
 obtain⟨a,b,c,d,e⟩:=p;refine⟨?_,?_,?_,?_,?_⟩
 all_goals
  rintro⟨J,N,O,U⟩;dsimp only at J N O U;subst J N O U;obtain rfl|rfl|rfl|rfl|rfl|rfl|rfl:=uR hj
  all_goals rfl
def jv(K:PH)(c:Ad)(m:bg):Prop:=∃p,c=(mv m p).toList/\dF K m p
theorem jv.le{K J:PH}(l:Le K J){c m}(h:jv K c m):jv J c m:=let⟨p,N,O⟩:=h;⟨p,N,O.le l⟩
theorem rx{α R}:∀{cs:List (Ad)} {xs:List α},eG R cs xs↔fg R cs xs
 |[],[]=>Iff.rfl
 |_::_,_::_=>and_congr_right fun _=>rx
 |[],_::_=>Iff.rfl
 |_::_,[]=>Iff.rfl
theorem fE.of{ao n cap es}(x:dn 4 (eI K) K ao n cap es):fE K ao cap es:=by
 obtain⟨css,rfl,J,N,O⟩:=x;exact⟨css,J,rx.1 N⟩
def fE.SL{ao cap es}(x:fE K ao cap es):dn 4 (eI K) K ao (eq es) cap es:=by
 obtain⟨css,X,J⟩:=x;refine⟨css,I,X,rx.2 J,fun d Z=>?_⟩;obtain⟨i,hi⟩:=abe.1 Z;have h4:=(rx.2 J).len;have Y:i<eq es:=by grind
 obtain⟨c,O,U,N,V,_⟩:=(rx.2 J).get (aai Y);rw[hi]at O;cases O;rw[V]
 rfl
abbrev RT:Nat:=106
abbrev gu(rb:Nat):Value:=.func (.func 121) #[Rp rb] #[]
abbrev kK(rb:Nat):Value:=.func (.func 122) #[Rp rb] #[]
structure nE (K:PH) (rb:Nat) (R:Nd) (s:NS) (hy hd ho:PH):Prop where
 y:∃ao cap,s.y=.slice ao (eq R.yes) cap/\aJ hy ao (eq R.yes) cap 3 1 (iv R.yes)
 v:∃ao cap,s.v=.slice ao (eq R.ps.Jq) cap/\aj K ao (eq R.ps.Jq) cap 1 (iv R.ps.Jq)
 d:∃ao cap,s.d=.slice ao (eq R.ps.data) cap/\aJ hd ao (eq R.ps.data) cap 5 1 (bv R.ps.data)
 o:∃ao cap,s.o=.slice ao (eq R.out) cap/\ka 14 34 (jv K) ho ao (eq R.out) cap R.out
 f:s.f0=gu rb/\s.f1=gu rb/\s.f2=kK rb
theorem nE.le{K V:PH}(l:Le K V){rb R s hy hd ho}(G:nE K rb R s hy hd ho):nE V rb R s hy hd ho:=by
 obtain⟨X,⟨ao,cap,Y,O⟩,Z,⟨N,J,h4,U⟩,h5⟩:=G;exact⟨X,⟨ao,cap,Y,O.le l⟩,Z,⟨N,J,h4,U.imp fun _ _=>jv.le l⟩,h5⟩
def iq(K:PH)(rb:Nat)(R:Nd)(s:NS)(g:PH):Prop:=∃N J ho,g=dt [N,J,ho]/\iW [N,J,ho]/\nE K rb R s N J ho
theorem iq.le{K J:PH}(l:Le K J){rb R s g}(G:iq K rb R s g):iq J rb R s g:=let⟨X,V,ho,N,O,U⟩:=G;⟨X,V,ho,N,O,U.le l⟩
def iq.r{rb R R' s g}(G:iq K rb R s g)(O:R'.yes=R.yes:=by rfl)(U:R'.ps.Jq=R.ps.Jq:=by rfl)(V:R'.ps.data=R.ps.data:=by rfl)(X:R'.out=R.out:=by rfl):iq K rb R' s g:=by
 obtain⟨Z,Y,ho,J,N,⟨a,b,c,d,e⟩⟩:=G;exact⟨Z,Y,ho,J,N,⟨by rw[O];exact a,by rw[U];exact b,by rw[V];exact c,by rw[X];exact d,e⟩⟩
structure cX (K:PH) (rb lb db:Nat) (R:Nd) (L:Lg) (D:Dk) (s:NS) (lh g:PH):Prop where
 l:dV K lb db L D lh
 g:iq K rb R s g
theorem cX.le{K J:PH}(l:Le K J){rb lb db R L D s lh g}(o:cX K rb lb db R L D s lh g):cX J rb lb db R L D s lh g:=⟨o.l.le l,o.g.le l⟩
def Q0(rb lb db:Nat)(K:PH)(R:Nd)(L:Lg)(D:Dk)(J a b c:PH):Prop:=∃s,a=pt rb (aH lb R s) RT/\Le K J/\cX J rb lb db R L D s b c
abbrev gc(w0:World)(K:PH)(hs:Ac)(rb lb db:Nat)(R:Nd)(s:NS)(lh g:PH)(f:FuncId)(args:Ad)(R':Nd)(O:Lg)(J:Dk)(u:Value):Prop:=
 ai w0 f args K (pt rb (aH lb R s) RT::lh::g::hs) (fun v N hs'=>∃a b c,hs'=a::b::c::hs/\Q0 rb lb db K R' O J N a b c/\v=u)
end
section
def JY{c yes:Ae}{j}(hj):eq ((c.take (j+1)).filter fun v=>decide (v∈yes))=eq ((c.take j).filter fun v=>decide (v∈yes))+if c[j]∈yes then 1 else 0:=by
 rw[aaN,aai hj,abG,aaj]
 grind
def Kw{f}{c:Ae}{j}(hj):((c.take j).map f++List.replicate (eq c-j) 0).set j (f c[j])=(c.take (j+1)).map f++List.replicate (eq c-(j+1)) 0:=by
 have J:eq ((c.take j).map f)=j:=by simp;omega
 rw[aco _ _ qo,J,ack,show eq c-j=eq c-(j+1)+1 by omega,List.replicate_succ,List.set_cons_zero,aaN,aai hj]
 grind
def Jv{f c ys}(hp:ys.Perm (c.map f))(hs:dz 0 (eq ys) ys):ys.getD ((eq c-1)/2) 0=iG c f:=by
 have h:=xZ (l:=c.map fun v=>((f v:Nat):Int)) (ys:=ys.map fun x=>((x:Nat):Int)) (by grind[Function.comp_def]) hs.pw
 grind[iG]
section
variable {w0:World}{K hv:PH}{hs:Ac}
def Eu(hm:In K hs hv)(ao k l)(x:aj hv ao (eq l) k 1 (iv l))(hl:eq l<=2^40)(n):
  ai w0 154 [.slice ao (eq l) k,.int .i64 n] K hs (fun v V hs'=>V=K/\hs'=hs/\∃i:Int,v=.int .i64 i/\(n∈l->∃j:Nat,i=(j:Int)/\l[j]?=some n/\n∉l.take j)/\(n∉l->i = -1)):=by
 refine ent Tryz.func154 ?_;refine au ?_;refine loop (σ:=Nat) (fun j=>[(0,.slice ao (eq l) k),(1,.int .i64 n),(7,.int .i64 (eq l)),(8,.int .i64 (j:Nat))]) (fun _=>K) (fun _=>hs) (fun j=>j<=eq l/\n∉l.take j) (fun j=>eq l-j) 0 ⟨aad _,Q8⟩ ⟨I,I,I,I,trivial⟩ I I ?_;rintro j ⟨hj,N⟩;refine au ?_;refine bc 0 I (fun e2=>?_) (fun e2=>?_)
 ·refine au ?_;have J:j<eq l:=qo
  refine au ?_;refine ej 3 j I I I x (ma J) fun X O=>?_;refine ld 0 I hm O ?_;refine bc 0 I (fun U=>?_) (fun U=>?_)
  ·refine au ?_;exact af I I ⟨I,I,((j:Nat):Int),I,fun _=>⟨j,I,by rw[aai J,U],N⟩,fun h=>absurd (by rw[U];simp) h⟩
  refine au ?_;refine cZ j ?_;refine bn (x:=j) (j+1) sb I I ⟨qo,?_⟩ qo;rw[aaN,aai J]
  grind
 refine au ?_;rw[aaA qo]at N;refine au ?_;exact af I I ⟨I,I,-1,I,fun h=>absurd h N,fun _=>I⟩
def By(hm:In K hs hv)(ao k l)(x:aj hv ao (eq l) k 1 (iv l))(hl:eq l<=2^40)(n):
  ai w0 129 [.slice ao (eq l) k,.int .i64 n] K hs (Ap K hs (.bool (decide (n∈l)))):=by
 refine ent Tryz.func129 ?_;refine au ?_;refine cl 2 I (Eu hm ao k l x hl n) ?_;rintro V O N ⟨rfl,rfl,i,rfl,hi,hn⟩;refine aw 0 I fun J U=>?_;refine au ?_;refine af I I ⟨I,I,?_⟩
 rw[show J=decide (n∈l)from by
  grind]
def BI(d)(J:d<2^64):
  ai w0 135 [.int .u64 (d:Nat)] K hs (Ap K hs (.int .i64 (10+d%22:Nat))):=by
 refine ent Tryz.func135 ?_;refine au ?_;refine ar 1 I (mj .u64 d 22) ?_;refine ar 0 I (ba qo) ?_;refine ar 0 I (ba (x:=((10+d%22:Nat):Int)) qo) ?_;refine au ?_;exact af I I ⟨I,I,I⟩
def tV(hm:In K hs hv)(ao k l)(x:aj hv ao (eq l) k 1 (iv l))(hl:eq l<=2^40)(n):
  ai w0 147 [.agg #[.slice ao (eq l) k],.int .i64 n] K hs (Ap K hs (.bool (decide (n∈l)))):=by
 refine ent Tryz.func147 ?_;refine au ?_;refine bx 0 I fun O=>?_;refine au ?_;refine cl 1 I (By (Bl hm) ao k l x hl n) ?_;rintro U N J ⟨rfl,rfl,rfl⟩;refine au (Bh ?_);exact af I I ⟨I,I,I⟩
def Fo{hy}(hm:In K hs hv)(ao k c)(x:aj hv ao (eq c) k 1 (iv c))(hc:eq c<=2^40)(V:In K hs hy)(ay ky yes)(y:aj hy ay (eq yes) ky 1 (iv yes))(X:eq yes<=2^40):
  ai w0 69 [.agg #[.slice ao (eq c) k],.slice ay (eq yes) ky] K hs (Ap K hs (.bool (mD c yes))):=by
 refine ent Tryz.func69 ?_;refine au ?_;refine bx 0 I fun Y=>?_;refine au ?_
 refine loop (σ:=Nat) (fun j=>[(1,.slice ay (eq yes) ky),(2,Rp Y),(5,.int .i64 ((eq ((c.take j).filter fun v=>decide (v∈yes)):Nat):Int)),(9,.slice ao (eq c) k),(10,.int .i64 (eq c)),(11,.int .i64 (j:Nat))])
  (fun _=>K) (fun _=>pt Y #[.slice ao (eq c) k] 46::hs) (fun j=>j<=eq c) (fun j=>eq c-j) 0 (aad _) ⟨rfl,rfl,rfl,rfl,rfl,rfl,trivial⟩ rfl rfl ?_
 intro j hj;have hn:eq ((c.take j).filter fun v=>decide (v∈yes))<=j:=aat (acq _ _) Au;refine au ?_;refine bc 0 I (fun e2=>?_) (fun e2=>?_)
 ·refine au ?_;have U:j<eq c:=qo
  have J:=JY (yes:=yes) U;refine au ?_;refine ej 0 j I I I x (ma U) fun ab O=>?_;refine ld 0 I (Bl hm) O ?_;refine au ?_;refine cl 2 I (By (Bl V) ay ky yes y X c[j]) ?_;rintro ag aa Z ⟨rfl,rfl,rfl⟩;refine fin 0 I (th (fw I (fun N=>?_) (fun N=>?_)))
  ·rw[decide_eq_true_iff]at N;rw[aab N]at J;refine au ?_;refine ar 1 I (ba (x:=((eq ((c.take j).filter fun v=>decide (v∈yes))+1:Nat):Int)) qo) ?_;refine au ?_;refine cZ j ?_;exact bn (x:=j) (j+1) ⟨I,I,by rw[J];rfl,rfl,rfl,rfl,trivial⟩ rfl rfl qo qo
  rw[decide_eq_false_iff_not]at N;rw[aaa N]at J;refine au ?_;refine cZ j ?_;exact bn (x:=j) (j+1) ⟨I,I,by rw[J];rfl,rfl,rfl,rfl,trivial⟩ rfl rfl qo qo
 refine au ?_;obtain rfl:j=eq c:=qo
 rw[aaG];refine au ?_;refine ar 1 I (mF (eq c) 2 qo) ?_;refine aw 0 I fun ad ae=>?_;refine au (Bh ?_);refine af I I ⟨I,I,?_⟩
 grind[mD]
def Ml{hM}(hm:In K hs hv)(ao k c)(x:aj hv ao (eq c) k 1 (iv c))(hc:gf c)(aq:In K hs hM)(am J)(aV:eq J=7)(xM:aj hM am 7 7 1 (jd J)):
  ai w0 199 [.agg #[.slice ao (eq c) k],.slice am 7 7] K hs (fun v K' hs'=>K'=K/\hs'=hs/\v=.int .u64 ((iG c (fun v:Int=>J.getD v.toNat 0):Nat):Int)):=by
 have aT:=hc.len;have aS:eq c≠0:=by have:=hc.1;simpa using this
 refine ent Tryz.func199 ?_;refine au ?_;refine bx 0 I fun b2=>?_;refine au ?_;refine aw 1 I fun aL ad=>?_;refine fin 0 I (th (ax ad I (fun e2=>absurd e2 qo) (fun e2=>?_)));refine au ?_;refine Ha 1 (eq c) (.int .u64 0) I I I I (by simp[roomBytes];omega) qo qo Q9 fun O ol=>?_;refine au ?_
 refine loop (σ:=Nat) (fun i=>[(1,.slice am 7 7),(2,Rp b2),(5,.slice (some ⟨O,0,none⟩) (eq c) (eq c)),(18,.int .i64 (eq c)),(19,.int .i64 (i:Nat))]) (fun _=>K)
  (fun i=>pt O (kA true [] ((c.take i).map (fun v:Int=>J.getD v.toNat 0)++List.replicate (eq c-i) 0) []) 29::pt b2 #[.slice ao (eq c) k] 46::hs) (fun i=>i<=eq c) (fun i=>eq c-i) 0 (aad _) ⟨rfl,rfl,rfl,rfl,rfl,trivial⟩ rfl (by
   have:Array.replicate (eq c) (Value.int .u64 0)=kA true [] (List.replicate (eq c) 0) []:=by simp[kA,iC,kI]
   simp[this]
   rfl) ?_
 intro i hi;refine au ?_;refine bc 0 I (fun e4=>?_) (fun e4=>?_)
 ·refine au ?_;have N:i<eq c:=qo
  have hv:=hc.mem (abx N);refine au ?_;refine ej 1 i I I I x (ma N) fun aA U=>?_;refine ld 0 I (Bl (Bl hm)) U ?_;refine au ?_;refine aw 1 I fun aN ae=>?_
  refine' eQ (q:=c[i]<7) 1 5 34 [28,29] ae I I I I I I I (fun _=>?x6) (fun aR ak=>?_)
  case x6=>
   refine au ?_;refine aw 3 I fun aO ag=>?_;exact fin 1 I (bJ ag I I I)
  refine fin 0 I (th (ax ak I (fun e8=>?_) (fun e8=>absurd ⟨hv.1,hv.2⟩ e8)));refine au ?_;have av:c[i].toNat<eq J:=qo
  refine ej 4 c[i].toNat I qo I xM (u:=.int .u64 (J.getD c[i].toNat 0:Nat)) (by simp[jd,av,aaR]) fun aD V=>?_;refine ld 0 I (Bl (Bl aq)) V ?_;have Y:=Kw (f:=fun v:Int=>J.getD v.toNat 0) N;have Z:eq ((c.take i).map (fun v:Int=>J.getD v.toNat 0)++List.replicate (eq c-i) 0)=eq c:=by simp;omega
  generalize (c.take i).map (fun v:Int=>J.getD v.toNat 0)++List.replicate (eq c-i) 0=XS at Y Z⊢;have xl:=pX (kd:=true) (g:=O) (e:=29) (pre:=[]) (xs:=XS) (post:=[]) (cap:=eq c) qo;rw[Z]at xl;refine dZ 0 i I I xl qo Q9 fun aE an=>?_;cases an;rw[bf,aaO,aaf];have hg:=bN (kd:=true) (pre:=[]) (xs:=XS) (post:=[]) (i:=i) qo;rw[aaT,aaO]at hg;refine Ji 0 0 I I hg I ?_
  refine Ez 0 (pt O (kA true [] ((c.take (i+1)).map (fun v:Int=>J.getD v.toNat 0)++List.replicate (eq c-(i+1)) 0) []) 29) ?_ (.here (by
   rw[<-Y,<-eK qo];simp[kI]))
  refine au ?_;refine cZ i ?_;exact bn (x:=i) (i+1) sb I I qo qo
 refine au ?_;obtain rfl:i=eq c:=qo
 refine au ?_;rw[ack,List.replicate_zero,aaw,aaG];have aa:eq (c.map fun v:Int=>J.getD v.toNat 0)=eq c:=by simp
 have hs:=y5 true (w0:=w0) (K:=K) (hs:=pt b2 #[.slice ao (eq c) k] 46::hs) O (eq c) [] [] (c.map fun v:Int=>J.getD v.toNat 0) qo qo;rw[aa]at hs;refine cl 1 I hs ?_;rintro aY az ay ⟨rfl,ys,rfl,hp,hS⟩;have ab:eq ys=eq c:=by rw[hp.len,aa]
 rw[<-ab]at hS;have ap:=Jv hp.perm hS;refine au ?_;refine ar 3 I (ba (x:=(eq c:Int)-1) qo) ?_;refine ar 0 (v':=.int .i64 (((eq c-1)/2:Nat):Int)) I (by grind[mF]) ?_;have xl:=pX (kd:=true) (g:=O) (e:=29) (pre:=[]) (xs:=ys) (post:=[]) (cap:=eq c) qo;rw[ab]at xl;have hk:(eq c-1)/2<eq ys:=qo
 refine ej 0 ((eq c-1)/2) I I I xl (u:=.int .u64 ((ys.getD ((eq c-1)/2) 0:Nat):Int)) (by simp_all[iC]) fun aF X=>?_;refine ld 0 I (.inr ⟨0,I⟩) X ?_;rw[ap];refine au (Bh (Bh ?_));exact af I I ⟨I,I,I⟩
def yj(t i lt last):ai w0 139 [.int .u64 (t:Nat),.int .u64 (i:Nat),.int .u64 (lt:Nat),.int .u64 (last:Nat)] K hs (Ap K hs (.bool (jp t i lt last))):=by
 refine ent Tryz.func139 ?_;refine au ?_;refine aw 2 I fun V J=>?_
 refine' dB (q:=t=lt/\last<=i) 1 9 21 [11,12] J I I I I I I I (fun _=>?x2) (fun aa ab=>?_)
 case x2=>
  refine au ?_;refine aw 2 I fun X N=>?_
  refine' eQ (q:=last<=i) 1 4 20 [15,16] N I I I I I I I (fun _=>?x4) (fun Z U=>?_)
  case x4=>
   refine au ?_;refine aw 2 I fun Y O=>?_;exact fin 1 I (bJ (O.trans qo) I I I)
  exact fin 1 I<|bJ (U.trans qo) I I I
 refine au ?_;refine af I I ⟨I,I,?_⟩
 grind[jp]
def O3(nx mt J)(N:nx<2^64)(O:mt+1<2^64):ai w0 146 [.int .u64 (nx:Nat),.int .u64 (mt:Nat),.int .u64 (J:Nat)] K hs (Ap K hs (.int .u64 (lf nx mt J:Nat))):=by
 refine ent Tryz.func146 ?_;refine au ?_;refine ar 1 (v':=.int .u64 (((J+1)%18446744073709551616:Nat):Int)) I (congrArg (Value.int .u64) (by rfl)) ?_;refine ar 2 (v':=.int .u64 (max nx 1-1:Nat)) I (by grind[bL]) ?_;refine ar 2 I (bL (x:=((mt+1:Nat):Int)) qo) ?_;refine au ?_;refine af I I ⟨I,I,?_⟩
 grind[lf]
end
end
section
theorem OM(l j n):(iv l).set j (.int .i64 n)=iv (l.set j n):=by simp[iv,ab3]
def Eq(l j):(iv l).take j=iv (l.take j):=by simp[iv]
structure o6 (c:Ae) (p:Int->Bool) (i j:Nat) (xs:Ae):Prop where
 len:eq xs=eq c
 lt:i<j/\j<=eq c
 done:xs.take i=(c.take j).filter p
 todo:xs.drop j=c.drop j
def o6.skip{c p i j xs}(o:o6 c p i j xs)(hj)(h:p c[j]=false):o6 c p i (j+1) xs:=by
 obtain⟨J,U,N,O⟩:=o;refine⟨J,qo,?_,?_⟩
 ·rw[N,aaN,aai hj,abG];simp[h]
 rw[<-aaP,<-aaP,O]
def o6.S4{c p i j xs}(o:o6 c p i j xs)(hj)(h:p c[j]=true):o6 c p (i+1) (j+1) (xs.set i c[j]):=by
 obtain⟨J,U,N,O⟩:=o;refine⟨by simpa using J,qo,?_,?_⟩
 ·have hi:i<eq xs:=qo
  rw[aaN,List.take_set_of_le (aac i),N,ab9 hi,aaN,aai hj,abG];simp[h]
 rw[List.drop_set_of_lt qo,<-aaP,<-aaP,O]
section
variable {w0:World}{K hv:PH}{hs:Ac}
def EJ(a cap b)(hm:In K hs hv)(x:aj hv (some a) (eq b) cap 1 (iv b))(aa:0<eq b)(hl:eq b<2^40):
  ai w0 45 [.slice (some a) (eq b) cap] K hs
   (fun v X hs'=>X=K/\∃h J O,hs'=h::hs/\v=.slice J (eq b) O/\aJ h J (eq b) O 3 1 (iv b)):=by
 refine ent Tryz.func45 ?_;refine au ?_;refine cb 1 I (fun U=>absurd U Q8) (fun U=>?_);refine au ?_;refine lit 0 #[] I Q9 qk fun b5=>?_;refine app 1 0 I I (aJ.Re (c:=#[]) (n:=0) Q8 At) (Bl hm) x I Q9 (yQ _) (by show(0+eq b)*8<=_;omega) (by simp[maxLen];omega) fun N Y Z V=>?_;refine au ?_;have e:0+eq b=eq b:=aaO _;rw[e]at V;exact af I (by rw[e];rfl) ⟨rfl,Z,N,Y,rfl,rfl,V⟩
def Fp(b1 rb ty1 ty2 A nd)(J:In K hs (pt b1 #[Rp rb] ty1))(N:In K hs (pt rb A ty2))(O:A[0]?=some (.int .i64 nd))(n):
  ai w0 128 [.int .i64 n,Rp b1] K hs (Ap K hs (.bool (decide (n=nd)))):=by
 refine ent Tryz.func128 ?_;refine au ?_;refine ld 1 I J (co.pt I) ?_;refine ld 2 I N (co.pt O) ?_;refine aw 0 I fun U V=>?_;refine au ?_;exact af I I ⟨I,I,by grind⟩
abbrev uP(J:Nat):Value:=.func (.func 128) #[] #[Rp J]
def ON(hm:In K hs hv)(ao k l)(x:aj hv ao (eq l) k 1 (iv l))(hl:eq l<=2^40)(b1 rb ty1 ty2 A nd)(h1:In K hs (pt b1 #[Rp rb] ty1))(h2:In K hs (pt rb A ty2))(hA:A[0]?=some (.int .i64 nd)):
  ai w0 179 [.slice ao (eq l) k,uP b1] K hs (fun v X hs'=>X=K/\hs'=hs/\∃i:Int,v=.int .i64 i/\(nd∈l->∃j:Nat,i=(j:Int)/\l[j]?=some nd/\nd∉l.take j)/\(nd∉l->i = -1)):=by
 refine ent Tryz.func179 ?_;refine au ?_;refine loop (σ:=Nat) (fun j=>[(0,.slice ao (eq l) k),(1,uP b1),(7,.int .i64 (eq l)),(8,.int .i64 (j:Nat))]) (fun _=>K) (fun _=>hs) (fun j=>j<=eq l/\nd∉l.take j) (fun j=>eq l-j) 0 ⟨aad _,Q8⟩ ⟨I,I,I,I,trivial⟩ I I ?_;rintro j ⟨hj,N⟩;refine au ?_;refine bc 0 I (fun e2=>?_) (fun e2=>?_)
 ·refine au ?_;have J:j<eq l:=qo
  refine au ?_;refine ej 3 j I I I x (ma J) fun Z U=>?_;refine ld 0 I hm U ?_;refine cl 0 I (Fp b1 rb ty1 ty2 A nd h1 h2 hA l[j]) ?_;rintro aa Y V ⟨rfl,rfl,rfl⟩;refine fin 0 I (th (fw I (fun O=>?_) (fun O=>?_)))
  ·rw[decide_eq_true_iff]at O;refine au ?_;exact af I I ⟨I,I,((j:Nat):Int),I,fun _=>⟨j,I,by rw[aai J,O],N⟩,fun h=>absurd (by rw[<-O];simp) h⟩
  rw[decide_eq_false_iff_not]at O;refine au ?_;refine cZ j ?_;refine bn (x:=j) (j+1) sb I I ⟨qo,?_⟩ qo;rw[aaN,aai J]
  grind
 refine au ?_;rw[aaA qo]at N;refine au ?_;exact af I I ⟨I,I,-1,I,fun h=>absurd h N,fun _=>I⟩
def OV(g off cap cur c)(o:aJ (pt g cur 3) (some ⟨g,off,none⟩) (eq c) cap 3 1 (iv c))(ap:cur.size=off+cap)(aq:(cur.toList.drop off).take (eq c)=iv c)(hl:eq c<=1000000)(b1 rb Z aa A nd)
  (h1:In K hs (pt b1 #[Rp rb] Z)) (h2:In K hs (pt rb A aa)) (hA:A[0]?=some (.int .i64 nd)):
  ai w0 127 [.slice (some ⟨g,off,none⟩) (eq c) cap,uP b1] K (pt g cur 3::hs)
   (fun v K' hs'=>K'=K/\∃O,hs'=pt g O 3::hs/\v=.slice (some ⟨g,off,none⟩) (eq (c.filter fun v=>decide (v≠nd))) cap/\aJ (pt g O 3) (some ⟨g,off,none⟩) (eq (c.filter fun v=>decide (v≠nd))) cap 3 1 (iv (c.filter fun v=>decide (v≠nd)))):=by
 refine ent Tryz.func127 ?_;refine au ?_;refine cl 2 I (ON (.inr ⟨0,I⟩) _ cap c o.Ni qo b1 rb Z aa A nd (Bl h1) (Bl h2) hA) ?_;rintro aO ak az ⟨rfl,rfl,i,rfl,hi,hn⟩;refine au ?_;refine bc 1 I (fun e2=>?_) (fun e2=>?_)
 ·refine au ?_
  have aN:nd∉c:=fun h=>by
   obtain⟨j,rfl,_⟩:=hi h;omega
  have hf:(c.filter fun v=>decide (v≠nd))=c:=acs.2 fun v hv=>by
   grind
  refine au ?_;rw[hf];exact af I I ⟨I,cur,I,I,o⟩
 refine au ?_;have an:nd∈c:=abq fun h=>e2 (hn h);obtain⟨j0,rfl,ae,hb⟩:=hi an;have ay:=(aav.1 ae).1;refine au ?_;refine eP 1 j0 ?_;refine au ?_;have ad:=o.2.1
 refine loop (σ:=Nat×Nat×Ah×Ae) (fun s=>[(0,.slice (some ⟨g,off,none⟩) (eq c) cap),(1,uP b1),(5,.int .i64 s.1),(6,.int .i64 s.2.1)]) (fun _=>ak) (fun s=>pt g s.2.2.1 3::hs)
  (fun s=>o6 c (fun v=>decide (v≠nd)) s.1 s.2.1 s.2.2.2/\s.2.2.1.size=off+cap/\(s.2.2.1.toList.drop off).take (eq c)=iv s.2.2.2) (fun s=>eq c-s.2.1) (j0,j0+1,cur,c) ⟨⟨rfl,by grind,?_,rfl⟩,ap,aq⟩ sb rfl rfl ?_
 ·rw[aaN,ae,abG];simp only[Option.toList_some,acO,List.filter_nil];simp only[ne_eq,not_true_eq_false,decide_false,acF,if_false,aaw];exact(acs.2 fun v hv=>by grind).symm
 rintro⟨i,j,U,xs⟩ ⟨X,J,N⟩;dsimp only at X J N⊢;have aL:=X.lt;have ox:aJ (pt g U 3) (some ⟨g,off,none⟩) (eq c) cap 3 1 (iv xs):=aJ.Uq J ad o.2.2.1 N;refine au ?_;refine bc 3 I (fun e4=>?_) (fun e4=>?_)
 ·refine au ?_;have Y:j<eq c:=qo
  have av:xs[j]?=some c[j]:=by
   have:=congrArg (·[0]?) X.todo;simpa[aa0,Y]using this
  refine au ?_;refine ej 2 j I I I ox.Ni (u:=.int .i64 c[j]) (by simp[iv,av]) fun aE ab=>?_;refine ld 0 I (.inr ⟨0,I⟩) ab ?_;refine au ?_;refine cl 2 I (Fp b1 rb Z aa A nd (Bl h1) (Bl h2) hA c[j]) ?_;rintro aR aD aA ⟨rfl,rfl,rfl⟩;refine au ?_;refine fw I (fun e5=>?_) (fun e5=>?_)
  ·have V:decide (c[j]≠nd)=true:=by simpa using e5
   refine au ?_;refine dZ 3 i I I ox.Ni qo Q9 fun aF am=>?_;cases am;rw[bf,aaf];obtain⟨w,hw⟩:∃w,U[off+i]?=some w:=⟨_,Array.getElem?_eq_getElem qo⟩;refine Ji 0 0 I I hw I ?_;refine Ez 0 (pt g (U.setIfInBounds (off+i) (.int .i64 c[j])) 3) ?_;refine au ?_;refine eP 1 i ?_;refine au ?_;refine eP 1 j ?_;refine fin 1 I ?_;refine bn (x:=(i,j,U,xs)) (i+1,j+1,U.setIfInBounds (off+i) (.int .i64 c[j]),xs.set i c[j]) sb I I ⟨X.S4 Y V,by simpa using J,?_⟩ aC
   grind[OM,List.drop_set,List.take_set]
  have V:decide (c[j]≠nd)=false:=by simpa using e5
  refine au ?_;refine eP 1 j ?_;refine fin 1 I ?_;exact bn (x:=(i,j,U,xs)) (i,j+1,U,xs) sb I I ⟨X.skip Y V,J,N⟩ aC
 refine au ?_;obtain rfl:j=eq c:=qo
 have hd:=X.done;rw[aaG]at hd
 have ag:eq (c.filter fun v=>decide (v≠nd))=i:=by
  have:=congrArg List.length hd;rw[aal,X.len]at this;omega
 refine au ?_;refine o9 2 i (eq c-i) I I (by dsimp only[Option.getD];omega) qo ?_;rw[EG qo,aaf];refine SR 0 0 I I (z:=.int .i64 0) I I qo qo ?_;refine au ?_;refine o9 2 0 i I I Q8 qo ?_;rw[pZ];refine au ?_;refine af I I ⟨I,_,I,by rw[ag];rfl,?_⟩
 have o1:=aJ.Uq (g:=g) (e:=3) J (show i<=cap by omega) o.2.2.1 (xs:=iv (c.filter fun v=>decide (v≠nd))) (by
  rw[show i=min i (eq c) by omega,<-aaK,N,Eq,hd])
 rw[ag]
 have o2:=o1.behind qo (by
  rw[aaf,show i=min i (eq c) by omega,<-aaK,N,Eq,hd]) (off+i) (List.replicate (eq c-i) (.int .i64 0)) qo (by rw[List.length_replicate];omega)
 simp_all
end
end
section
section
variable {w0:World}{K lh g:PH}{hs:Ac}{rb lb db c q z k:Nat}{R:Nd}{L:Lg}{D:Dk}{s:NS}
def m6(o:NI c q z k R L D)(hc:c<=900000000)(O:dV K lb db L D lh):
  ai w0 67 [Rp rb] K (pt rb (aH lb R s) RT::lh::hs)
   (fun v J hs'=>∃a b,hs'=a::b::hs/\a=pt rb (aH lb R s) RT/\b=lh/\Le K J/\∃ao cap,v=.tuple #[.agg #[.slice ao (eq L.cfg.1) cap],.int .u64 L.cfg.2]/\aj J ao (eq L.cfg.1) cap 1 (iv L.cfg.1)):=by
 have hl:=o.last qo;refine ent Tryz.func67 ?_;refine acY ?_;refine al 0 (.agg Ij) I qk fun N=>?_;refine au ?_;refine bC [1] 12 [0,2,4,6,8,10,12,14,17,19,20,22,25,26] ?_;refine au ?_;refine cl 0 I (Ck 2 I (mp lb db L D c o.rn.lb qo O)) ?_;rintro aa X U ⟨rfl,rfl,rfl⟩;refine aP Q8 I ?_;refine aB qk 0 I ?_;refine cl 0 I (Er 2 I (EI lb db L D c o.rn.lb qo O (L.sn.idx+eq L.l) (by unfold Lg.last de at hl;unfold ac;omega))) ?_;rintro ab Y V ⟨h',rfl,Z,le,ao,cap,rfl,x⟩;subst Z;refine Ez 0 (pt N Ij 46) ?_;refine dX Q8 le ?_;refine aB qk 2 I ?_;refine bA 0 0 I I qk I I ?_;refine Ez 0 (pt N #[.slice ao (eq L.cfg.1) cap] 46) ?_;refine au ?_;exact gk 0 1 I I I I qk ⟨_,_,I,I,I,le,ao,cap,I,x⟩
def iI(N:dV K lb db L D lh):
  ai w0 14 [Rp rb] K (pt rb (aH lb R s) RT::lh::hs)
   (fun v J hs'=>∃a b,hs'=a::b::hs/\J=K/\a=pt rb (aH lb R s) RT/\b=lh/\v=.int .u64 L.kt):=by
 refine ent Tryz.func14 ?_;refine au ?_;refine cl 0 I (Ck 1 I (zf lb db L D N)) ?_;rintro X V U ⟨rfl,rfl,rfl⟩;refine jy 0 (v:=.int .u64 L.kt) I (fun A w O _=>nS (t:=112) (x:=.tmp 7) (i:=0) (v:=.agg #[.int .u64 L.kt,.int .i64 L.kv]) I I Aq A w O) ?_;refine au ?_;exact af I I ⟨_,_,I,I,I,I,I⟩
def xy(o:NI c q z k R L D)(hc:c<=900000000)(hL:dV K lb db L D lh):
  ai w0 68 [Rp rb] K (pt rb (aH lb R s) RT::lh::hs)
   (fun v K' hs'=>∃a b,hs'=a::b::hs/\a=pt rb (aH lb R s) RT/\b=lh/\Le K K'/\∃ao cap,v=.slice ao (eq (R.Rr L)) cap/\aj K' ao (eq (R.Rr L)) cap 1 (iv (R.Rr L))):=by
 have J:gf L.cfg.1:=jB o.rn.lb o.cf L.last;have ab:=J.len;have N:0<eq L.cfg.1:=abz.2 J.1;refine ent Tryz.func68 ?_;refine au ?_;refine bx 0 I fun b1=>?_;refine au ?_;refine cl 0 I (Cp [_] (m6 o hc hL)) ?_;rintro v7 K7 ap ⟨_,_,rfl,rfl,rfl,le,ao,cap,rfl,x⟩;refine al 3 (.agg Ij) I qk fun b3=>?_;refine bA 0 0 I I qk I I ?_;refine Ez 1 (pt b1 #[Rp rb] 25) ?_;refine Ez 3 (_) ?_;refine au ?_;obtain⟨a,rfl⟩:=x.addr (j:=0) N qo;refine cl 0 I (EJ a cap L.cfg.1 (.inl I) x N qo) ?_;rintro aq ag ad ⟨rfl,g,am,O,rfl,rfl,Y⟩;have an:1<=O:=by have:=Y.2.1;omega
 obtain⟨gb,off,U,rfl,rfl,V,X⟩:=Y.UB qo;refine cl 1 I (OV gb off O U L.cfg.1 Y V X qo b1 rb _ _ _ R.nd (.inr ⟨1,I⟩) (.inr ⟨2,I⟩) I) ?_;rintro av ak ae ⟨rfl,aa,rfl,rfl,Z⟩;refine au (Ei fun K2 l1 l2=>Bh (Bh ?_));exact af I I ⟨_,_,I,I,I,le.trans l1,_,O,I,Z.Ni.le l2⟩
def t9:ai w0 66 [Rp rb] K (pt rb (aH lb R s) RT::hs) (fun v O hs'=>O=K/\hs'=pt rb (aH lb R s) RT::hs/\v=.int .i64 R.leads):=by
 unfold Nd.leads;refine ent Tryz.func66 ?_;refine au ?_;refine fw I (fun J=>?_) (fun J=>?_)
 ·refine au ?_;exact af I I ⟨I,I,by rw[aab J]⟩
 refine au ?_;refine bc 0 I (fun N=>?_) (fun N=>?_)
 ·refine au ?_;exact af I I ⟨I,I,by rw[aaa (by simp[J]),aab N]⟩
 refine au ?_;exact af I I ⟨I,I,by rw[aaa (by simp[J]),aaa N]⟩
def BR(o:NI c q z k R L D)(hc:c<=900000000)(N:dV K lb db L D lh):
  ai w0 84 [Rp rb] K (pt rb (aH lb R s) RT::lh::hs) (fun v V hs'=>∃a b,hs'=a::b::hs/\V=K/\a=pt rb (aH lb R s) RT/\b=lh/\v=.bool (R.settled L)):=by
 have J:=o.rb.Je;refine ent Tryz.func84 ?_;refine au ?_;refine bC [0] 14 [0,2,4,6,8,10,12,14,17,18,20,22,24,26] ?_;refine au ?_;refine cl 0 I (Ck 1 I (nr lb db L D c o.rn.lb qo N R.Je (by unfold ac at J;omega))) ?_;rintro ab X O ⟨rfl,rfl,rfl⟩;refine aP Q8 I ?_;refine aI qk 5 I (acV ?_);refine cl 2 I (iI N) ?_;rintro ad Y U ⟨_,_,rfl,rfl,rfl,rfl,rfl⟩;refine aw 0 I fun Z aa=>?_;refine au ?_;refine af I I ⟨_,_,I,I,I,I,?_⟩
 grind[Nd.settled,Lg.Ka]
def Da(x):ai w0 142 [Rp rb,.int .i64 x] K (pt rb (aH lb R s) RT::hs) (fun v J hs'=>J=K/\hs'=pt rb (aH lb (R.Qb x) s) RT::hs/\v=.tuple #[]):=by
 refine ent Tryz.func142 ?_;refine au ?_;exact bZ I ⟨I,I,I⟩
def my(G:iq K rb R s g)(e):
  ai w0 92 [Rp rb,.int .i64 e] K (pt rb (aH lb R s) RT::lh::g::hs) (fun v U hs'=>∃a b c,hs'=a::b::c::hs/\U=K/\(∃s',a=pt rb (aH lb (R.did e) s') RT/\iq K rb (R.did e) s' c)/\b=lh/\v=.int .i64 e):=by
 unfold Nd.did;refine ent Tryz.func92 ?_;refine au ?_;refine bc 1 I (fun e2=>?_) (fun e2=>?_)
 ·refine au ?_;rw[aaa e2];refine au ?_;obtain⟨N,J,ho,rfl,V,⟨y,v,d,o,f⟩⟩:=G;refine Bk (hs':=dt [N,J,ho]::pt rb (aH lb {R with hl:=true,out:=[],role:=0,lead:=-1} {s with o:=.slice none 0 0}) RT::lh::hs) ?_ ?_
  ·exact(aak [_,_] [_] hs)
  refine WQ.split V (Cm 2 En.em I (.inr I) (WQ.join [N,J,En.em] fun O=>?_));refine Bk (hs':=pt rb (aH lb {R with hl:=true,out:=[],role:=0,lead:=-1} {s with o:=.slice none 0 0}) RT::lh::dt [N,J,En.em]::hs) (aak [_] [_,_] hs) ?_;exact af I I ⟨_,_,_,I,I,⟨_,I,N,J,En.em,I,O,⟨y,v,d,⟨none,0,I,ka.nil _ _⟩,f⟩⟩,I,I⟩
 refine au ?_;rw[aab (aag.1 e2)];refine au ?_;exact af I I ⟨_,_,_,I,I,⟨s,I,G⟩,I,I⟩
end
end
section
def yO(m p):∀u∈(mv m p).toList,u.oneCell'=true:=by
 simp only[mv,List.forall_mem_cons]
 repeat' constructor
 simp
section
variable {w0:World}{K lh g:PH}{hs:Ac}{rb lb db c q z k:Nat}{R:Nd}{L:Lg}{D:Dk}{s:NS}
def jS(iN:cX K rb lb db R L D s lh g)(ho:eq R.out<=8000000)(m p)(hS:dF K m p):
  gc w0 K hs rb lb db R s lh g 137 [Rp rb,.agg (mv m p)] (R.Nl L m) L D (.tuple #[]):=by
 obtain⟨hL,V,U,hq,rfl,dj,⟨y,v,d,⟨aO,cO,eo,so⟩,f⟩⟩:=iN;obtain⟨sy,sv,sd,sq,f0,f1,f2⟩:=s;dsimp only at eo y v d f;subst eo;refine ent Tryz.func137 ?_;refine acY ?_;refine bx 0 I fun Z=>?_;refine Bi (hs':=dt [V,U,hq]::pt Z (mv m p) 34::_::lh::hs) (aak [_,_,_] [_] hs) (Be dj ?_);refine au ?_;refine bC [4] 7 [0,2,4,6,8,12,11,15,16,19] ?_;refine au ?_;refine cl 0 I (Cp [V,U,hq,_] (iI hL)) ?_;rintro v9 K9 ab ⟨_,_,rfl,rfl,rfl,rfl,rfl⟩;refine aP Q8 I ?_;refine aB qk 0 I ?_;refine Ji 0 3 I I I I ?_;refine aP Q8 I ?_;refine aB qk 1 I ?_;refine Ji 0 3 I I I I ?_;refine Ez 3 (pt Z (mv {m with Jl:=R.nd,term:=L.kt} p) 34) ?_;refine au ?_;refine bC [4,3] 10 [0,2,4,6,8,10,13,15,16,18,21] ?_;refine au ?_;refine lit 0 (mv {m with Jl:=R.nd,term:=L.kt} p) I Q9 qk fun aa=>?_
 refine aP Q8 I ?_;refine aB qk 0 I ?_;refine Qq 0 3 _ {m with Jl:=R.nd,term:=L.kt} I I I so ⟨p,I,hS⟩ I (yO _ _) I Q9 (by show(eq R.out+1)*160<=_;omega) (by simp[maxLen];omega) fun J N O Y=>?_;refine aP Q8 I ?_;refine aB qk 2 I ?_;refine Ji 0 5 I I I I ?_;refine bQ (.inl qk) ?_;have e:eq (R.Nl L m).out=eq R.out+1:=by simp[Nd.Nl]
 refine aI qk 0 I (Bh (WQ.join [V,U,O] fun X=>WQ.Tj (Bk (aak [_] [_,_] hs) ?_)));exact bZ I ⟨_,_,_,I,⟨⟨sy,sv,sd,.slice J (eq R.out+1) N,f0,f1,f2⟩,I,Cg _,hL,V,U,O,I,X,y,v,d,⟨J,N,by rw[e],by rw[e];exact Y⟩,f⟩,I⟩
def ur(Z:cX K rb lb db R L D s lh g)(o:NI c q z k R L D)(hc:c<=900000000)(hk:k<=7200000)(j)(hj:j<7):
  gc w0 K hs rb lb db R s lh g 148 [Rp rb,.int .i64 (j:Nat)] (R.send L (j:Int)) L D (.tuple #[]):=by
 have hp:=o.rb.pr j;have aL:=o.rb.out;unfold Pr.ok at hp;unfold Nd.send;rw[show R.p (j:Int)=R.pr j from rfl];refine ent Tryz.func148 ?_;refine acY ?_;refine sG (sz:=5) (a:=⟨rb,10,none⟩) 4 j I Tryz.underlying101 qk I hj ?_;rw[bf];refine au ?_;refine aX 3 0 I I (jq lb R s hj (k:=3) I) ?_;refine fin 0 I (th (fw I (fun e1=>?_) (fun e1=>?_)))
 ·rw[aab e1];refine rt (rT ?_);exact jK I ⟨_,_,_,I,⟨s,I,Cg _,Z⟩,I⟩
 rw[aaa (by simp[e1])];refine sk (acV ?_);refine Ji 3 0 I I (jq lb R s hj (k:=3) I) I ?_;obtain⟨J,O⟩:=a9 (R.Jp (j:Int) {R.pr j with ws:=true});have V:J.pr j={R.pr j with ws:=true}:=by rw[O,DR,aab rfl]
 refine Ez 0 (pt rb (aH lb J s) RT) ?_ (.here (by rw[O,<-(rF lb R s hj {R.pr j with ws:=true}).2.2.2.1 ⟨rfl,rfl,rfl,rfl⟩]));rw[<-O];have I1:cX K rb lb db J L D s lh g:=⟨Z.l,by rw[O];exact Z.g.r⟩;have ad:eq J.out<=8000000:=by rw[O];show eq R.out<=_;omega
 have aa:J.Je=R.Je/\J.Jn=R.Jn:=by rw[O];exact⟨I,I⟩
 refine au ?_;refine cl 0 I (Er 1 I (qa lb db L D c o.rn.lb Z.l)) ?_;rintro a5 aY aN ⟨h',rfl,hh,le,aV,cV,aD,cD,rfl,xV,xD⟩;subst hh;refine al 0 (.agg It) I qk fun b5=>?_;refine bA 0 0 I I qk I I ?_;refine Ew (pt b5 (dg L.sn aV cV aD cD) 48::pt rb (aH lb J s) RT::h'::g::hs) I ?_;refine au ?_;refine bC [1,0] 7 [0,2,4,6,8,10,12] ?_;refine bT qk 3 0 I I (jq lb J s hj (k:=1) I) ?_;refine au ?_;rw[V];refine dU qk 0 ((R.pr j).nx<=L.sn.idx) I Q8 fun a2 ag=>?_;refine au ?_;refine ax ag I (fun e2=>?_) (fun e2=>?_)
 ·rw[aab e2];refine sq (bC [1,0] 9 [0,2,4,6,8,10,12,14,16] ?_);refine bT qk 3 0 I I (jq lb J s hj (k:=4) I) ?_;refine au ?_;rw[V];refine au ?_;have a3:=o.rn.lb.data;obtain⟨f,hf⟩:=a9 (min (R.pr j).of.toNat (eq L.sn.data));rw[show(if(eq L.sn.data:Int)<(R.pr j).of then(eq L.sn.data:Int)else(R.pr j).of)=(f:Int)from qo];refine ar 1 I (ba (x:=((f+256:Nat):Int)) qo) ?_;refine au ?_;obtain⟨u,hu⟩:=a9 (min 256 (eq L.sn.data-f));rw[show(if(eq L.sn.data:Int)<((f+256:Nat):Int)then(eq L.sn.data:Int)else((f+256:Nat):Int))=((f+u:Nat):Int)from qo]
  have ab:(L.sn.data.drop (R.pr j).of.toNat).take 256=(L.sn.data.drop f).take u:=by
   rcases aaz (R.pr j).of.toNat (eq L.sn.data)with h|h
   ·rw[show f=(R.pr j).of.toNat by omega,hu,<-aaK,show f=(R.pr j).of.toNat by omega];simp[aaA]
   simp_all
  refine bC [0] 20 [0,2,4,6,8,10,12,14,16,18,20,22,24,26,28,30,32,34,36,39] ?_;refine au ?_;refine zW qk 2 f u I I xD I I qo (ys:=bv ((L.sn.data.drop f).take u)) (by simp[bv]) fun N X az=>?_;obtain⟨M,Y⟩:∃M:bg,M={bg.zero with kind:=5,to:=(j:Int),idx:=L.sn.idx,lt:=L.sn.term,off:=(f:Int),whole:=eq L.sn.data,Jq:=L.sn.Jq,data:=(L.sn.data.drop f).take u}:=⟨_,rfl⟩;have ae:eq ((L.sn.data.drop f).take u)=u:=by simp;omega
  have an:mv M ⟨none,0,aV,cV,N,X⟩=#[.int .i64 5,.int .i64 0,.int .i64 (j:Nat),.int .u64 0,.int .u64 L.sn.idx,.int .u64 L.sn.term,.int .u64 0,.int .u64 0,.bool false,.slice none 0 0,.int .i64 f,.int .i64 (eq L.sn.data),.slice aV (eq L.sn.Jq) cV,.slice N u X]:=by
   rw[Y];unfold mv;rw[ae]
   rfl
  refine jh qk 0 (.agg (mv M ⟨none,0,aV,cV,N,X⟩)) I (fun w=>by rw[an];kernel_rfl) ?_;refine au ?_;refine cl 0 I (Ek [_] (jS (I1.le le) ad M ⟨none,0,aV,cV,N,X⟩ (by rw[Y];exact⟨fE.nil _ _ _,xV,by rw[ae];exact az⟩))) ?_;rintro a6 a0 aO ⟨_,_,_,rfl,⟨s2,rfl,U,I2⟩,rfl⟩;refine dX Q8 U ?_;refine aI qk 0 I (ac0 (rT (Bh ?_)));have ak:(min (R.pr j).of (eq L.sn.data:Int))=(f:Int):=qo
  exact jK I ⟨_,_,_,I,⟨s2,by rfl,le.trans U,by rw[ab,ak,<-Y];exact I2⟩,I⟩
 rw[aaa e2];have a4:0<(R.pr j).nx:=qo
 have ap:(R.pr j).nx<2^64:=by unfold de at hp;omega
 refine sk (th (sq (bC [1] 15 [0,2,4,6,8,10,12,14,16,19,20,22,24,26,28] ?_)));refine au ?_;refine bT qk 3 0 I I (jq lb J s hj (k:=1) I) ?_;rw[V];refine bF qk 0 I (bL (x:=(((R.pr j).nx:Nat):Int)-1) qo) ?_;refine au ?_;rw[show(((R.pr j).nx:Nat):Int)-1=(((R.pr j).nx-1:Nat):Int)from qo];refine cl 0 I (Ck 2 I (nr lb db L D c o.rn.lb qo (Z.l.le le) ((R.pr j).nx-1) qo)) ?_;rintro bb a1 aR ⟨rfl,rfl,rfl⟩;refine aP Q8 I ?_;refine aI qk 5 I (th ?_);refine bC [1] 26 [0,2,4,6,8,10,12,14,16,18,20,22,24,26,28,30,32,34,36,38,40,42,44,46,49,50,53] ?_;refine dA [25,6] qk 5 0 I qk I (jq lb J s hj (k:=1) I) ?_;rw[V];refine bF qk 0 I (bL (x:=(((R.pr j).nx:Nat):Int)-1) qo) ?_;rw[show(((R.pr j).nx:Nat):Int)-1=(((R.pr j).nx-1:Nat):Int)from qo]
 refine dA [25] qk 4 0 I qk I I ?_;refine dA [25] qk 3 0 I qk I I ?_;refine dA [24] qk 3 0 I qk I I ?_;refine dA [24] qk 3 0 I qk I (jq lb J s hj (k:=1) I) ?_;rw[V];refine au ?_;refine cl 0 I (Er 2 I (LZ lb db L D c o.rn.lb qo (Z.l.le le) (R.pr j).nx ap 8 qo)) ?_;rintro aS aA aq ⟨h2,rfl,am,U,aE,cE,rfl,xE⟩;subst am;refine Ew (pt b5 (dg L.sn aV cV aD cD) 48::pt rb (aH lb J s) RT::h2::g::hs) I ?_;refine dX Q8 U ?_;obtain⟨M,Y⟩:∃M:bg,M={bg.zero with kind:=3,to:=(j:Int),idx:=(R.pr j).nx-1,lt:=(L.Ka ((R.pr j).nx-1)).1,Je:=J.Je,Jn:=J.Jn,Jg:=iK L.sn L.l (R.pr j).nx 8}:=⟨_,rfl⟩;refine jh qk 0 (.agg (mv M ⟨aE,cE,none,0,none,0⟩)) I (fun w=>by rw[Y];kernel_rfl) ?_;refine au ?_;refine cl 0 I (Ek [_] (jS ((I1.le le).le U) ad M ⟨aE,cE,none,0,none,0⟩ (by rw[Y];exact⟨fE.of xE,aj.nil _ _ _ _,aj.nil _ _ _ _⟩))) ?_
 rintro aT aF av ⟨_,_,_,rfl,⟨s2,rfl,ay,I2⟩,rfl⟩;refine bQ (.inl qk) ?_;refine aI qk 0 I (Bh ?_);rw[aa.1,aa.2]at Y;exact bZ I ⟨_,_,_,I,⟨s2,by rw[<-Y],(le.trans U).trans ay,by rw[<-Y];exact I2⟩,I⟩
def M0{v}(b:bh c L)(f:L.cf)(hv:v∈R.Rr L):0<=v/\v<7:=(jB b f L.last).mem (abA.1 hv).1
def um(iN:cX K rb lb db R L D s lh g)(o:NI c q z k R L D)(hc:c<=900000000)(hk:k<=6400000)(a):
  gc w0 K hs rb lb db R s lh g 88 [Rp rb,.bool a] (R.tell L a) L D (.tuple #[]):=by
 have ay:=o.rb.Jn;have av:=nb R o.rn.lb o.cf;obtain⟨R0,J⟩:=a9 (if a=true then {R with Jn:=R.Jn+1}else R)
 have o0:NI c q z (k+1) R0 L D:=by
  refine o.r (R':=R0) ?_;rw[J]
  split
  ·exact {o.rb.up (aaq k)with Jn:=by show R.Jn+1<=_;omega}
  exact o.rb.up<|aaq k
 have I0:cX K rb lb db R0 L D s lh g:=⟨iN.l,by rw[J];split;exact iN.g.r;exact iN.g⟩;have ad:R0.Rr L=R.Rr L:=by rw[J];split<;>rfl
 unfold Nd.tell;rw[<-J];generalize ak:Nd.Qd a L (R.Rr L) R0=Rt;refine ent Tryz.func88 ?_;refine jn (σ:=Unit) (fun _=>[(0,Rp rb),(1,.bool a)]) (fun _=>pt rb (aH lb R0 s) RT::lh::g::hs) (fun _=>True) ?_ ?_
 ·refine au ?_;refine fw I (fun e1=>?_) (fun e1=>?_)
  ·refine au ?_;refine ar 0 I (bL (x:=((R.Jn+1:Nat):Int)) qo) ?_;refine Ji 2 0 I I I I ?_;refine Ez 0 (pt rb (aH lb {R with Jn:=R.Jn+1} s) RT) ?_;refine fin 0 I ?_;exact jx () trivial sb I (by rw[J,aab e1])
  refine sk ?_;exact jx () trivial sb I (by rw[J,aaa (by simp[e1])])
 rintro _ _;refine acY ?_;refine cl 1 I (Cp [] (xy o0 hc I0.l)) ?_;rintro aA U an ⟨_,_,rfl,rfl,rfl,le,ao,cap,rfl,x⟩;rw[ad]at x⊢;refine au ?_
 refine loop (σ:=Nat×Nd×PH×NS×PH×PH) (fun u=>[(0,Rp rb),(1,.bool a),(15,.slice ao (eq (R.Rr L)) cap),(16,.int .i64 ((eq (R.Rr L):Nat):Int)),(17,.int .i64 u.1)]) (fun u=>u.2.2.1)
  (fun u=>pt rb (aH lb u.2.1 u.2.2.2.1) RT::u.2.2.2.2.1::u.2.2.2.2.2::hs)
  (fun u=>u.1<=eq (R.Rr L)/\Nd.Qd a L ((R.Rr L).drop u.1) u.2.1=Rt/\NI c q z (k+1+u.1) u.2.1 L D/\cX u.2.2.1 rb lb db u.2.1 L D u.2.2.2.1 u.2.2.2.2.1 u.2.2.2.2.2/\Le U u.2.2.1)
  (fun u=>eq (R.Rr L)-u.1) (0,R0,U,s,_,g) ⟨aad _,ak,o0,I0.le le,Cg _⟩ ⟨rfl,rfl,rfl,rfl,rfl,trivial⟩ rfl rfl ?_
 rintro⟨i,O,Ki,si,li,gi⟩ ⟨hi,hT,Z,Ii,N⟩;dsimp only at hi hT Z Ii N⊢;refine acY ?_;refine aw 0 I fun aq ag=>?_;refine au ?_;refine ax ag I (fun e3=>?_) (fun e3=>?_)
 ·have X:i<eq (R.Rr L):=qo
  have hv:=M0 o.rn.lb o.cf (abx X);have gw:(R.Rr L).drop i=(R.Rr L)[i]::(R.Rr L).drop (i+1):=aaI X;obtain⟨j,hj⟩:∃j:Nat,(R.Rr L)[i]=(j:Int):=⟨(R.Rr L)[i].toNat,qo⟩;have ab:=ma X;rw[hj]at hv gw ab;refine au ?_;refine ej 0 i I I I x ab fun ap aa=>?_;obtain⟨y,hy,az⟩:=In.le (K:=U) (hs:=[]) (.inl rfl) N;refine ld 0 I (.inl I) (aa.le N) ?_;refine fin 1 I (acU ?_);rw[gw]at hT;unfold Nd.Qd at hT;refine fin 1 I (th (fw I (fun e4=>?_) (fun e4=>?_)))
  ·rw[aab e4]at hT;have o1:NI c q z (k+1+i) (O.Jp (j:Int) {O.p (j:Int)with ws:=false}) L D:=Z.r (Z.rb.Jp _ (p:={O.p (j:Int)with ws:=false}) (Z.rb.pr j));refine rg ?_;refine sG (sz:=5) (a:=⟨rb,10,none⟩) 4 j I Tryz.underlying101 qk I qo ?_;rw[bf];refine Ji 1 0 I I (jq lb O si qo (k:=3) I) I ?_;refine Ez 0 (pt rb (aH lb (O.Jp (j:Int) {O.p (j:Int)with ws:=false}) si) RT) ?_ (.here (by rw[<-(rF lb O si (show j<7 by omega) {O.p (j:Int)with ws:=false}).2.2.2.1 ⟨rfl,rfl,rfl,rfl⟩]));refine au ?_;refine cl 2 I (ur ⟨Ii.l,Ii.g.r⟩ o1 hc qo j qo) ?_;rintro am V ae ⟨_,_,_,rfl,⟨s2,rfl,Y,I2⟩,rfl⟩;refine au ?_;refine cZ i ?_;exact bn (x:=(i,O,Ki,si,li,gi)) (i+1,_,V,s2,_,_) ⟨I,I,I,I,I,trivial⟩ I I ⟨qo,hT,o1.r (o1.rb.send L _),I2,N.trans Y⟩ qo
  rw[aaa (by simp[e4])]at hT;refine sk (acX ?_);refine cl 2 I (ur Ii Z hc qo j qo) ?_;rintro am V ae ⟨_,_,_,rfl,⟨s2,rfl,Y,I2⟩,rfl⟩;refine au ?_;refine cZ i ?_;exact bn (x:=(i,O,Ki,si,li,gi)) (i+1,_,V,s2,_,_) ⟨I,I,I,I,I,trivial⟩ I I ⟨qo,hT,Z.r (Z.rb.send L _),I2,N.trans Y⟩ qo
 obtain rfl:i=eq (R.Rr L):=qo
 rw[aa6]at hT;unfold Nd.Qd at hT;refine ex (xt (xt (xb ?_)));exact bZ I ⟨_,_,_,I,⟨si,by rw[<-hT],le.trans N,by rw[<-hT];exact Ii⟩,I⟩
end
end
section
def iQ(R:Nd)(j:Nat):Af:=(List.range 7).map fun i=>if i<j then(R.pr i).mt else 0
def M2(R){j}(hj:j<7):(iQ R j).set j (R.pr j).mt=iQ R (j+1):=by
 obtain rfl|rfl|rfl|rfl|rfl|rfl|rfl:=uR hj
 all_goals rfl
def ym(R j):eq (iQ R j)=7:=by simp[iQ]
def Hy{c f g}(h:∀v∈c,f v=g v):iG c f=iG c g:=by
 grind[List.map_congr_left,iG]
def OI(R n){nd}(J:nd=R.nd)(h:0<=nd/\nd<7){v}(hv:0<=v/\v<7):((iQ R 7).set nd.toNat n).getD v.toNat 0=if v=R.nd then n else(R.p v).mt:=by
 subst J;have hl:=ym R 7;rw[aaR,abI]
 by_cases e:v=R.nd
 ·simp_all
 grind[iQ,Nd.p]
section
variable {w0:World}{K lh g:PH}{hs:Ac}{rb lb db c q z k:Nat}{R:Nd}{L:Lg}{D:Dk}{s:NS}
def ER(iN:cX K rb lb db R L D s lh g)(o:NI c q z k R L D)(hc:c<=900000000)(hk:k<=5600000):
  gc w0 K hs rb lb db R s lh g 145 [Rp rb] (R.Qc L) L D (.tuple #[]):=by
 have ad:gf L.cfg.1:=jB o.rn.lb o.cf L.last;have aD:=ad.len;have ay:=o.last qo;have ak:=o.rb.nd;unfold Nd.Qc;refine ent Tryz.func145 ?_;refine acY ?_;refine cl 1 I (Cp [] (m6 o hc iN.l)) ?_;rintro bs am aE ⟨_,lh,rfl,rfl,rfl,X,ao,cap,rfl,x⟩;have I1:=iN.le X;refine al 3 (.agg Ij) I qk fun b2=>?_;refine bA 0 0 I I qk I I ?_;refine Ew (pt b2 #[.slice ao (eq L.cfg.1) cap] 46::pt rb (aH lb R s) RT::lh::g::hs) I ?_;refine au ?_;refine Ha 0 7 (.int .u64 0) I I I I Q9 Q9 Q9 Q9 fun U om=>?_;refine au ?_
 refine loop (σ:=Nat) (fun i=>[(0,Rp rb),(2,Rp b2),(4,.slice (some ⟨U,0,none⟩) 7 7),(17,.int .i64 7),(18,.int .i64 (i:Nat))]) (fun _=>am)
  (fun i=>pt U (kA true [] (iQ R i) []) 29::pt b2 #[.slice ao (eq L.cfg.1) cap] 46::pt rb (aH lb R s) RT::lh::g::hs) (fun i=>i<=7) (fun i=>7-i) 0 qo sb rfl rfl ?_
 intro j hj;refine acY ?_;refine bc 0 I (fun e2=>?_) (fun e2=>?_)
 ·refine au ?_;have V:j<7:=qo
  have ae:=ym R j;refine au ?_;refine sG (sz:=5) (a:=⟨rb,10,none⟩) 6 j I Tryz.underlying101 qk I V ?_;rw[bf];refine aX 1 2 I I (jq lb R s V (k:=0) I) ?_;have xl:=pX (kd:=true) (g:=U) (e:=29) (pre:=[]) (xs:=iQ R j) (post:=[]) (cap:=7) qo;rw[ae]at xl;refine dZ 0 j I I xl V Q9 fun bb an=>?_;cases an;rw[bf,aaO,aaf];have hg:=bN (kd:=true) (pre:=[]) (xs:=iQ R j) (post:=[]) (i:=j) qo;rw[aaT,aaO]at hg;refine Ji 0 0 I I hg I ?_
  refine Ez 0 (pt U (kA true [] (iQ R (j+1)) []) 29) ?_ (.here (by
   rw[<-M2 R V,<-eK qo];simp[kI]))
  refine au ?_;refine cZ j ?_;exact bn (x:=j) (j+1) sb I I qo qo
 refine au ?_;obtain rfl:j=7:=qo
 have ae:=ym R 7;obtain⟨nd,ag⟩:∃nd:Nat,R.nd=(nd:Int):=⟨R.nd.toNat,qo⟩;refine au ?_;refine bC [2] 11 [0,2,4,6,8,10,12,14,16,19,20,23] ?_;refine au ?_;refine cl 0 I (Ck 3 I (mp lb db L D c o.rn.lb qo I1.l)) ?_;rintro bB aY aF ⟨rfl,rfl,rfl⟩;refine aP Q8 I ?_;refine bu qk 0 nd I ag qo ?_;rw[bf,aaO,aaf];refine au ?_;have hg:=bN (kd:=true) (pre:=[]) (xs:=iQ R 7) (post:=[]) (i:=nd) qo;rw[aaT,aaO]at hg;refine Ji 0 0 I I hg I ?_
 refine Ez 0 (pt U (kA true [] ((iQ R 7).set nd L.last) []) 29) ?_ (.here (by
  rw[<-eK qo];simp[kI,Lg.last]))
 refine au ?_;have Y:eq ((iQ R 7).set nd L.last)=7:=by simp[ae]
 have xl:=pX (kd:=true) (g:=U) (e:=29) (pre:=[]) (xs:=(iQ R 7).set nd L.last) (post:=[]) (cap:=7) qo;rw[Y]at xl;refine cl 1 I (Ml (.inl I) ao cap L.cfg.1 x ad (.inr ⟨0,I⟩) (some ⟨U,0,none⟩) ((iQ R 7).set nd L.last) Y xl) ?_;rintro bV a0 aL ⟨rfl,rfl,rfl⟩;obtain⟨n,hn⟩:=a9 (iG L.cfg.1 fun v=>if v=R.nd then L.last else(R.p v).mt)
 rw[Hy (g:=fun v=>if v=R.nd then L.last else(R.p v).mt) (fun v hv=>by
  have:=OI R L.last (nd:=R.nd) rfl ak (ad.mem hv)
  rwa[ag]at this⊢),<-hn]
 have az:n<=de:=by
  rw[hn];refine wu fun v hv=>?_;have:=(o.rb.pr v.toNat).1;unfold Nd.p
  split<;>omega
 refine au ?_;refine cl 1 I (Ck 3 I (nr lb db L D c o.rn.lb qo I1.l n (by unfold de at az;omega))) ?_;rintro b0 a1 aN ⟨rfl,rfl,rfl⟩;refine fin 5 I (th ?_);refine jn (σ:=Unit) (fun _=>[(0,Rp rb),(2,Rp b2)]) (fun _=>pt U (kA true [] ((iQ R 7).set nd L.last) []) 29::pt b2 #[.slice ao (eq L.cfg.1) cap] 46::pt rb (aH lb (R.RA L) s) RT::lh::g::hs) (fun _=>True) ?_ ?_
 ·refine au ?_;refine aw 0 I fun bi ap=>?_
  refine' eQ (q:=(L.Ka n).1=L.kt) 1 5 66 [60,61] ap I I I I I I I (fun _=>?x4) (fun bp av=>?_)
  case x4=>
   refine cl 2 I (Cp [_,_] (iI I1.l)) ?_;rintro b1 a2 aO ⟨_,_,rfl,rfl,rfl,rfl,rfl⟩;refine aw 0 I fun bo aq=>?_;exact fin 1 I (bJ (aq.trans (by unfold Lg.Ka;omega)) rfl rfl rfl)
  refine fin 0 I<|th (ax av I (fun e6=>?_) (fun e6=>?_))
  ·refine rg ?_;refine Ji 4 2 I I I I ?_;refine Ez 2 (pt rb (aH lb {R with Je:=n} s) RT) ?_;refine fin 0 I ?_;exact jx () trivial sb I (by simp_all[Nd.RA])
  refine sk ?_;exact jx () trivial sb I (by simp_all[aaa,Nd.RA])
 rintro _ _;obtain⟨O,ab⟩:=a9 (R.RA L);rw[<-ab];have o1:NI c q z k O L D:=by rw[ab];exact o.r (o.rb.RA o.rn.lb qo)
 have I2:cX _ rb lb db O L D s _ g:=⟨I1.l,by
  rw[ab];unfold Nd.RA;dsimp only
  split
  ·exact I1.g.r
  exact I1.g⟩
 have bq:O.Rr L=O.Rr L:=rfl;unfold Nd.RR;refine acY ?_;refine cl 1 I (Cp [_,_] (m6 o1 hc I2.l)) ?_;rintro b3 a3 aR ⟨_,_,rfl,rfl,rfl,J,Z,N,rfl,x2⟩;refine bA 3 1 I I qk I I ?_;refine Ez 1 (pt b2 #[.slice Z (eq L.cfg.1) N] 46) ?_;refine au ?_;refine bC [2,1] 15 [0,2,4,6,8,10,12,14,16,18,20,22,25,26,28] ?_;refine au ?_;refine dP qk 0 (L.cfg.2<=O.Je) I Q8 (fun h7=>?_) (fun h7=>?_)
 ·refine au ?_;refine cl 0 I (tV (.inl I) Z N L.cfg.1 x2 qo O.nd) ?_;rintro b4 a4 aS ⟨rfl,rfl,rfl⟩;refine aP Q8 I ?_;refine aI qk 2 I (th (fw I (fun h8=>?_) (fun h8=>?_)))
  ·have aa:O.nd∉L.cfg.1:=by simpa using h8
   rw[aab ⟨h7,aa⟩];refine acY ?_;refine cl 1 I (Ek [_,_] (um (I2.le J) o1 hc qo true)) ?_;rintro b5 a5 aT ⟨_,_,_,rfl,⟨s2,rfl,aA,I3⟩,rfl⟩;refine fin 0 I (acX ?_);refine Bi (hs':=pt rb (aH lb (O.tell L true) s2) RT::_::_::pt U (kA true [] ((iQ R 7).set nd L.last) []) 29::pt b2 #[.slice Z (eq L.cfg.1) N] 46::hs) (aak [_,_] [_,_,_] hs) ?_;refine cl 1 I (Da (-1)) ?_;rintro b6 a6 aV ⟨rfl,rfl,rfl⟩;refine fin 0 I (Bk (aak [_,_,_] [_,_] hs) (Bh (Bh ?_)));exact bZ I ⟨_,_,_,I,⟨s2,I,(X.trans J).trans aA,I3.l,I3.g.r⟩,I⟩
  have aa:O.nd∈L.cfg.1:=by simpa using h8
  rw[aaa (fun h=>h.2 aa)];refine sk (Bh (Bh ?_));exact bZ I ⟨_,_,_,I,⟨s,I,X.trans J,I2.le J⟩,I⟩
 rw[aaa (fun h=>h7 h.1)];refine aB qk 6 I ?_;refine Bc 1 I ?_;refine aP Q8 I ?_;refine aI qk 2 I (th (bP I (sk (Bh (Bh ?_)))));exact bZ I ⟨_,_,_,I,⟨s,I,X.trans J,I2.le J⟩,I⟩
end
end
end Go.En
