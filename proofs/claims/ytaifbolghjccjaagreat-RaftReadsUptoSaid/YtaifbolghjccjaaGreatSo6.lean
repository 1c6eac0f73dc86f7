/-
  Part 6.
-/
import Derived.Test.YtaifbolghjccjaaGreatSo5
set_option linter.defProp false
set_option linter.unusedSectionVars false
set_option linter.unusedSimpArgs false
set_option linter.unusedVariables false
set_option maxRecDepth 4000
namespace Go.En
open Go.Proofs Go.Proofs.YtaifbolghjccjaaGreat
open List renaming length -> eq
attribute [local irreducible] Code.wp wpList Calls
variable {P:bE->List ah->Prop}{w0:World}{K:PH}{hs:Ac}
section
def Cn(M:Nat)(L:Lg):Prop:=L.Qh.num<=M/\L.head.num<=M/\L.place<=M
def kf(J:Ae)(M:Nat)(E:Dk)(A:List (Nat×Int))(P:bE->List ah->Prop):Prop:=∀O,Cr E O->0<=O.room->∃L N U,eZ O J=(some L,N,0)/\(L.kt,L.kv)∈A/\P L.sn L.l/\cH J M L N U none/\Cn M L/\gz 0 N/\(N.Iz.map (·.1)).Nodup
def nk{vot0 M E A}(hv:(bG vot0).isSome=true)(hh:∀f',Pk (E.sec 0) f'->(di f').num<=M/\∃J∈A,jo (di f')=some J)
  (he:∀f',Pk (E.sec 4) f'->(di f').num<=M/\∃sn place fr,place<=M/\kX (di f') vot0 sn place fr/\((di f').num≠0->∀g,Pk (E.sec (bz place)) g->js g sn.data)/\eM E fr M sn (P sn)):kf vot0 M E A P:=by
 intro D' c hr;obtain⟨Z,J,h2,h3⟩:=hh _ (c.pk 0);obtain⟨U,sn,place,fr,e2,V,X,Y⟩:=he _ (c.pk 4);obtain⟨L,N,O,k1,k2,k3,k4,k5,k6,k7,k8,k9,aa⟩:=HQ c hr hv h3 V (fun h=>X h _ (c.pk _)) Y;refine⟨L,N,O,k1,by rw[k3];exact h2,by rw[k2];exact k4,k5,⟨by rw[k8];exact Z,by rw[k9];exact U,qo⟩,k6,k7⟩
theorem js.pk{f g d}(h:js f d)(p:Pk f g):js g d:=by rw[h.fx.pk p];exact h
def cH.Ss{vot0 M M' L}{D E:Dk}{S op}(o:cH vot0 M L D S op)(J:Cn M' L)(hs:E.sec 0=D.sec 0){A:List (Nat×Int)}(N:(L.kt,L.kv)∈A):∀f',Pk (E.sec 0) f'->(di f').num<=M'/\∃O∈A,jo (di f')=some O:=by
 intro f' p;rw[hs]at p;rw[o.RG.pk p,o.RH];exact⟨J.1,_,N,o.RJ⟩
def cH.ST{vot0 M M' L D E S op}(o:cH vot0 M L D S op)(J:Cn M' L)(hs:E.sec 4=D.sec 4)(hs2:E.sec (bz L.place)=D.sec (bz L.place))(w:eM E L.fr M' L.sn (P L.sn)):
  ∀f',Pk (E.sec 4) f'->(di f').num<=M'/\∃sn place fr,place<=M'/\kX (di f') vot0 sn place fr/\((di f').num≠0->∀g,Pk (E.sec (bz place)) g->js g sn.data)/\eM E fr M' sn (P sn):=by
 intro f' p;rw[hs]at p;rw[o.RL.pk p,o.RM];exact⟨J.2.1,_,_,_,J.2.2,o.RD,fun h g N=>(o.S9 h).pk (by rw[<-hs2];exact N),w⟩
def cH.Sr{vot0 M M' L D E S op}(o:cH vot0 M L D S op)(hv:(bG vot0).isSome=true)(J:Cn M' L)(hs:∀a,a%4≠1->E.sec a=D.sec a)(w:eM E L.fr M' L.sn (P L.sn)){A}(N:(L.kt,L.kv)∈A):kf vot0 M' E A P:=
 nk hv (o.Ss J (hs 0 Q9) N) (o.ST J (hs 4 Q9) (hs _ (by simp[bz])) w)
def Rs(J:Ae)(M n:Nat)(L:Lg)(E:Dk)(r:Rl)(A:List (Nat×Int))(P:bE->List ah->Prop)(ok:Prop):Prop:=
 (ok/\cC n E/\L.rl=r/\Cn M L/\∃S op,cH J M L E S op/\dT S op L.sn (P L.sn))\/(E.dead=true/\kf J M E A P)
def HG{vot0 M n L D S op}(o:cH vot0 M L D S op)(hv:(bG vot0).isSome=true)(U:Cn M L)(hM:M+1<=c9)(X:L.sn.idx<=eB)(p:dT S op L.sn (P L.sn))(t v)(ht:t<=ac)(h:cC (n+1) D):
  Rs vot0 (M+1) n (L.Jc D t v).1 (L.Jc D t v).2.1 (L.rl.Jc t v).1 [(L.kt,L.kv),((L.rl.Jc t v).1.kt,(L.rl.Jc t v).1.kv)] P ((L.Jc D t v).2.2=(L.rl.Jc t v).2):=by
 have J:Cn (M+1) L:=⟨by have:=U.1;omega,by have:=U.2.1;omega,by have:=U.2.2;omega⟩;have ab:=ht;unfold ac at ab;have aa:=hM;unfold c9 at aa;unfold Lg.Jc Rl.Jc;rw[aaa (by rw[o.code];simp)]
 by_cases h1:v < -1\/7<=v
 ·rw[aab h1,aab (show v < -1\/6<v by omega)];exact .inl ⟨I,h.mono qo,I,J,S,op,o.up qo,p⟩
 rw[aaa h1,aaa (show ¬(v < -1\/6<v) by omega)]
 by_cases Z:t<L.kt
 ·rw[aab Z,aab (show t<L.rl.kt from Z)];exact .inl ⟨I,h.mono qo,I,J,S,op,o.up qo,p⟩
 rw[aaa Z,aaa (show ¬t<L.rl.kt from Z)]
 have hu:eq (aK t++aK (v+1).toNat)<=48:=by
  grind[uj]
 obtain⟨Y,s2⟩:=BP (n:=n) h 0 (S:=L.Qh) o.RG o.RH hu (by have:=U.1;omega);have hk:=(tY L.Qh 0 D (aK t++aK (v+1).toNat)).keys;have N:jo ⟨L.Qh.num+1,aK t++aK (v+1).toNat⟩=some (t,v):=ID qo ht ⟨qo,qo⟩;generalize L.Qh.save 0 D (aK t++aK (v+1).toNat)=R at Y s2 hk;obtain⟨H,E,c⟩:=R;dsimp only at Y s2 hk⊢
 have O:gt E S op:=o.Rf.frame (fun k=>Y _ (by unfold aM;omega)) fun a ha h1=>by
  grind
 have e4:E.sec 4=D.sec 4:=Y 4 Q9;have ep:E.sec (bz L.place)=D.sec (bz L.place):=Y _ (by unfold bz;omega);rcases s2 with⟨g1,V,g3,g4,g5⟩|⟨g1,V,g3⟩
 ·rw[aab g1];refine .inl ⟨I,g3,I,⟨by dsimp only;rw[V];dsimp only;have:=U.1;omega,J.2⟩,S,op,?_,p⟩
  exact {
   code:=o.code
   Rh:=o.Rh
   Jd:=o.Jd
   Rf:=O
   Sz:=o.Sz
   ops:=o.ops
   lt:=o.lt
   Sm:=o.Sm
   Sn:=o.Sn
   next:=by have:=o.next;dsimp only;omega
   ok:=o.ok
   val:=o.val
   RG:=g4
   RH:=g5.trans V.symm
   RJ:=by dsimp only;rw[V];exact N
   RL:=by rw[e4];exact o.RL
   RM:=by rw[e4];exact o.RM
   RD:=o.RD
   S9:=by rw[ep];exact o.S9
   Jj:=o.Jj}
 rw[aaa qo];refine .inr ⟨V,nk hv (fun f' pf=>?_) (o.ST J e4 ep (o.RE qo hM X p O))⟩;rcases g3 f' pf with g|g
 ·rw[g];exact⟨J.1,_,Q8,o.RJ⟩
 rw[g];exact⟨by have:=U.1;dsimp only;omega,_,Q8,N⟩
theorem Dm{vot0}{Q:List ah->Prop}:∀(x:List ah) (M n:Nat) (L:Lg) (D:Dk) (S:List Sg) (op:Option Og),cH vot0 M L D S op->M+eq x<=c9->L.sn.idx+eq L.l+eq x<eB->dT S op L.sn Q->(∀k,k<=eq x->Q (L.l++x.take k))->ig L.sn (L.l++x)->cC (n+20*eq x) D ->
  ((Lg.Rc x L D).2.2=0/\cC n (Lg.Rc x L D).2.1/\(∃W,(Lg.Rc x L D).1={L with w:=W,l:=L.l++x})/\∃O J,cH vot0 (M+eq x) (Lg.Rc x L D).1 (Lg.Rc x L D).2.1 O J/\dT O J L.sn Q) \/
   ((Lg.Rc x L D).2.2=30/\(Lg.Rc x L D).2.1.dead=true/\(∀a,a%4≠1->(Lg.Rc x L D).2.1.sec a=D.sec a)/\eM (Lg.Rc x L D).2.1 L.fr (M+eq x) L.sn Q)
 |[],M,n,L,D,S,op,o,_,_,p,_,_,h=>.inl ⟨rfl,h.mono qo,⟨L.w,by rw[aaw];rfl⟩,S,op,o,p⟩
 |e::r,M,n,L,D,S,op,o,hM,hl,p,U,g,h=>by
  simp only[aas]at hM hl h U;have ab:Q L.l:=by have:=U 0 qo;simpa using this
  have ad:Q (L.l++[e]):=by have:=U 1 qo;simpa using this
  have aa:ig L.sn (L.l++[e]):=by
   have:=g.take (eq L.l+1)
   grind
  rw[ri];rcases NP (n:=n+20*eq r) o qo qo p ab ad aa (h.mono qo)with⟨V,X,g3,O,J,Y,g5⟩|⟨V,X,g3,Y⟩
  ·rw[aaa (by rw[V];simp)];have Z:L.l++e::r=(L.l++[e])++r:=by simp
   rcases Dm r (M+1) n {L with w:=(L.w.append e.bytes D).1,l:=L.l++[e]} _ O J Y qo (by grind) g5 (fun k hk=>by
    have:=U (k+1) qo
    grind) (by dsimp only;rw[<-Z];exact g) X with⟨k1,k2,⟨W,k3⟩,S2,op2,k4,k5⟩|⟨k1,k2,k3,k4⟩
   all_goals grind
  rw[aab qo];refine .inr ⟨V,X,g3,fun F c hr=>?_⟩;obtain⟨S',W,E,l,w1,N,w3⟩:=Y F c hr;exact⟨S',W,E,l,w1,⟨N.op,N.code,N.Jd,N.lt,N.Sn,by have:=N.next;simp only[aas];omega,N.Rf,N.vw⟩,w3⟩
end
section
def kN:List ah->List ah->Nat
 |a::l,b::s=>if a=b then kN l s+1 else 0
 |_,_=>0
theorem yW:∀(l s:List ah),kN l s<=eq l/\kN l s<=eq s
 |[],_=>⟨aac _,aad _⟩
 |a::l,[]=>⟨aad _,aac _⟩
 |a::l,b::s=>by
  unfold kN;have:=yW l s
  split
  ·simp only[aas];omega
  simp
theorem FF:∀(l s:List ah) (c:Nat),l[c]?≠s[c]?->kN l s<=c
 |[],_,c,_=>aad c
 |a::l,[],c,_=>aad c
 |a::l,b::s,0,h=>by
  simp_all[kN]
 |a::l,b::s,c+1,h=>by
  unfold kN;have:=FF l s c (by simpa using h)
  grind
def j9(r s:Rl)(sn:bE)(l:List ah):Prop:=(r.sn=s.sn/\sn=s.sn/\∃k,kN r.l s.l<=k/\k<=eq s.l/\l=s.l.take k)\/(r.sn≠s.sn/\sn=s.sn/\l=s.l)
def xY{r c y}(U:c<=eq r.l)(J:c=eq r.l\/∃e,y.head?=some e/\r.l[c]?≠some e)(k)(V:k<=eq y):j9 r {r with l:=r.l.take c++y} r.sn (r.l.take c++y.take k):=by
 have hl:eq (r.l.take c)=c:=by rw[aal];omega
 refine .inl ⟨I,I,c+k,?_,?_,?_⟩
 ·have:kN r.l (r.l.take c++y)<=c:=by
   rcases J with rfl|⟨e,N,O⟩
   ·simp[yW]
   refine FF _ _ _ ?_
   simp_all[abc,List.head?_eq_getElem?]
  dsimp only;omega
 all_goals grind
theorem BQ{s l}:∀{x:List ah} {b:Bool} {e:ah} {r:List ah} {B:Bool},RZ s l x b=(e::r,B)->(Ka s l e.idx).2=false\/(Ka s l e.idx).1≠e.term
 |[],_,_,_,_,h=>by cases h
 |a::x,b,e,r,B,h=>by
  rw[tG]at h
  split at h
  ·rename_i J;cases h;exact J
  exact BQ h
theorem Rs.up{vot0 M M' n m L E r A}{P:bE->List ah->Prop}{ok}(h:Rs vot0 M n L E r A P ok)(V:M<=M')(hm:m<=n):Rs vot0 M' m L E r A P ok:=by
 rcases h with⟨J,N,h3,O,S,op,h5,h6⟩|⟨J,N⟩
 ·exact .inl ⟨J,N.mono hm,h3,⟨by have:=O.1;omega,by have:=O.2.1;omega,by have:=O.2.2;omega⟩,S,op,h5.up V,h6⟩
 refine .inr ⟨J,fun X c hr=>?_⟩;obtain⟨Z,Y,S',k1,k2,k3,k4,U,k6⟩:=N X c hr;exact⟨Z,Y,S',k1,k2,k3,k4.up V,⟨by have:=U.1;omega,by have:=U.2.1;omega,by have:=U.2.2;omega⟩,k6⟩
def LQ{sn l x}(g:ig sn l)(N:eH (sn.idx+eq l) (Ka sn l (sn.idx+eq l)).1 x=0)(J:∀e∈x,i9 e):ig sn (l++x):=by
 refine⟨(xL _ _ _ _).2 ⟨g.1,?_⟩,fun e he=>?_⟩
 ·simp_all[BH]
 rcases aao.1 he with he|he
 ·exact g.2 e he
 exact J e he
def C6{J:Ae}{M n L D}{S:List Sg}{op:Option Og}(o:cH J M L D S op)(hv:(bG J).isSome=true)(U:Cn M L){A:List (Nat×Int)}(hA:(L.kt,L.kv)∈A)(p:dT S op L.sn (P L.sn))(x:List ah)(hM:M+eq x<=c9)(hl:L.sn.idx+eq L.l+eq x<eB)
  (hf:eH L.last (Ka L.sn L.l L.last).1 x=0) (hx:∀e∈x,i9 e) (hq:∀k,k<=eq x->P L.sn (L.l++x.take k)) (h:cC (n+20*eq x) D):
  Rs J (M+eq x) n (L.Rc x D).1 (L.Rc x D).2.1 {L.rl with l:=L.l++x} A P ((L.Rc x D).2.2=0):=by
 have N:Cn (M+eq x) L:=⟨by have:=U.1;omega,by have:=U.2.1;omega,by have:=U.2.2;omega⟩;rcases Dm x M n L D S op o hM hl p hq (LQ o.Jj hf hx) h with⟨Z,V,⟨W,O⟩,S1,Y,X,g5⟩|⟨Z,V,O,X⟩
 ·refine .inl ⟨Z,V,by rw[O];rfl,by rw[O];exact N,S1,Y,X,?_⟩
  simp_all
 exact .inr ⟨V,o.Sr hv N O X hA⟩
def Jt{vot0 M n L D S op}(o:cH vot0 M L D S op)(hv:(bG vot0).isSome=true)(N:Cn M L){A}(hA:(L.kt,L.kv)∈A)(p:dT S op L.sn (P L.sn))(x)(hM:M+eq x<=c9)(hl:L.sn.idx+eq L.l+eq x<eB)
  (hx:∀e∈x,e.idx<=ac/\e.term<=ac) (Y:∀sn l,j9 L.rl (L.rl.append x).1 sn l->P sn l) (h:cC (n+20*eq x) D):
  Rs vot0 (M+eq x) n (L.append x D).1 (L.append x D).2.1 (L.rl.append x).1 A P ((L.append x D).2.2=(L.rl.append x).2):=by
 have O:Cn (M+eq x) L:=⟨by have:=N.1;omega,by have:=N.2.1;omega,by have:=N.2.2;omega⟩;unfold Rl.append at Y⊢;unfold Lg.append;rw[aaa (by rw[o.code];simp)]
 by_cases J:fQ L.last (Ka L.sn L.l L.last).1 x=0
 ·have V:¬fQ (L.rl.sn.idx+eq L.rl.l) (Ka L.rl.sn L.rl.l (L.rl.sn.idx+eq L.rl.l)).1 x≠0:=by intro h2;exact h2 J
  rw[aaa V]at Y⊢;rw[aaa (by rw[J];simp)];have X:=nW J;have U:=xK J;refine C6 o hv N hA p x hM hl U (fun e Z=>⟨X e Z,hx e Z⟩) (fun k hk=>?_) h;have:=Y _ _ (xY (r:=L.rl) (c:=eq L.l) (y:=x) (aac _) (.inl rfl) k hk |> fun h=>by rw[show L.rl.l.take (eq L.l)=L.l from aaG]at h;exact h);exact this
 rw[aab J,aab (show fQ (L.rl.sn.idx+eq L.rl.l) (Ka L.rl.sn L.rl.l (L.rl.sn.idx+eq L.rl.l)).1 x≠0 from J)];exact .inl ⟨I,h.mono qo,I,O,S,op,o.up qo,p⟩
def wo{J:Ae}{M n L D}{S:List Sg}{op:Option Og}(o:cH J M L D S op)(hv:(bG J).isSome=true)(U:Cn M L){A:List (Nat×Int)}(X:(L.kt,L.kv)∈A)(p:dT S op L.sn (P L.sn))(x:List ah)(last)(Y:M+eq x<=c9)(hl:L.sn.idx+eq L.l+eq x<eB)
  (N:eH L.last (Ka L.sn L.l L.last).1 x=0) (O:∀e∈x,i9 e) (hq:∀k,k<=eq x->P L.sn (L.l++x.take k)) (h:cC (n+20*eq x) D):
  Rs J (M+eq x) n (L.Ms x last D).1 (L.Ms x last D).2.1 {L.rl with l:=L.l++x} A P ((L.Ms x last D).2.2=(last,true,0)):=by
 have h1:=C6 (n:=n) o hv U X p x Y hl N O hq h
 have V:L.append x D=L.Rc x D:=by
  unfold Lg.append;rw[aaa (by rw[o.code];simp),aaa (by rw[LW (fun e Z=>(O e Z).1) N];simp)]
 unfold Lg.Ms;rw[V]
 by_cases hc:(L.Rc x D).2.2=0
 all_goals simp_all
def IN{vot0 M n L D S op}(o:cH vot0 M L D S op)(hv:(bG vot0).isSome=true)(N:Cn M L){A}(hA:(L.kt,L.kv)∈A)(p:dT S op L.sn (P L.sn))(Y:P L.sn L.l)(i t)(hi:L.sn.idx<=i)(x last)(hM:M+1+eq x<=c9)(hl:L.sn.idx+eq L.l+eq x<eB)
  (hx:∀e∈x,i9 e) (hf:eH i t x=0) (ht:Ka L.sn L.l i=(t,true)) (hq:∀sn l,j9 L.rl (L.rl.Jo x last).1 sn l->P sn l) (h:cC (n+10+20*eq x) D):
  Rs vot0 (M+1+eq x) n (L.Jo x last D).1 (L.Jo x last D).2.1 (L.rl.Jo x last).1 A P ((L.Jo x last D).2.2=(L.rl.Jo x last).2):=by
 obtain⟨⟨y,B⟩,hy⟩:∃p,RZ L.sn L.l x true=p:=⟨_,rfl⟩;have O:RZ L.rl.sn L.rl.l x true=(y,B):=hy;have J:=pO L.sn L.l x true;rw[hy]at J;dsimp only at J;have ak:=J.length_le;cases y with
 |nil=>
  rw[Bv hy,AS O];have h1:=wo (n:=n) o hv N hA p [] last Au qo rfl Q8 (fun k hk=>by simpa using Y) (h.mono Au);rw[aaw]at h1;exact h1.up Au (aac _)
 |cons e r=>
  obtain⟨u,g1,g2,g3,g4⟩:=E9 L.sn L.l x i t true hf ht e r B hy;have g5:=CE (s:=L.sn) (l:=L.l) (i:=e.idx-1) (by rw[g2]);rw[AZ hy,vI O];rw[vI O]at hq;have aa:∀a∈e::r,i9 a:=fun a ha=>hx a (J.subset ha);have am:eq (L.l.take (e.idx-L.sn.idx-1))=e.idx-L.sn.idx-1:=by rw[aal];omega
  cases hB:B with
  |true=>
   subst hB;have g6:=CE (s:=L.sn) (l:=L.l) (i:=e.idx) g4.symm
   have hne:L.l[e.idx-L.sn.idx-1]?≠some e:=by
    have h7:¬(Ka L.sn L.l e.idx).1=e.term:=by
     grind[BQ]
    grind[Ka]
   have Z:∀k,k<=eq (e::r)->P L.sn (L.l.take (e.idx-L.sn.idx-1)++(e::r).take k):=fun k hk=>hq _ _ (xY (r:=L.rl) (c:=e.idx-L.sn.idx-1) (y:=e::r) (by show _<=eq L.l;omega) (.inr ⟨e,rfl,hne⟩) k hk);have ab:=JA (n:=n+20*eq (e::r)) o qo qo p Y (i:=e.idx) qo qo (by have:=Z 0 qo;grind) (h.mono qo)
   have ad:(fA L.sn L.l e.idx).getD 0=e.idx-L.sn.idx-1:=by
    grind[fA]
   have V:L.cutAt e.idx (L.w.truncate e.idx D).1={L with w:=(L.w.truncate e.idx D).1,l:=L.l.take (e.idx-L.sn.idx-1)}:=by unfold Lg.cutAt;rw[ad]
   rw[aab rfl];rcases ab with⟨k1,U,k3,S1,an,k4,k5⟩|⟨k1,U,k3,k4⟩
   ·rw[aaa (by rw[k1];simp),V];rw[show e.idx-(L.sn.idx+1)=e.idx-L.sn.idx-1 by omega]at k4
    have X:({L with w:=(L.w.truncate e.idx D).1,l:=L.l.take (e.idx-L.sn.idx-1)}:Lg).last=e.idx-1:=by
     grind[Lg.last]
    have h3:=wo (n:=n) k4 hv ⟨by have:=N.1;dsimp only;omega,by have:=N.2.1;dsimp only;omega,by have:=N.2.2;dsimp only;omega⟩ hA k5 (e::r) last qo aC (by
     grind[KV]) aa Z U
    exact h3.up qo<|aac _
   rw[aab qo];refine .inr ⟨U,?_⟩;have ae:=o.Sr hv (M':=M+1) ⟨by have:=N.1;omega,by have:=N.2.1;omega,by have:=N.2.2;omega⟩ k3 k4 hA;rcases Rs.up (n:=n) (m:=n) (M':=M+1+eq x) (L:=L) (r:=L.rl) (ok:=True) (.inr ⟨U,ae⟩) qo (aac _)with⟨_,hh,_⟩|⟨_,hh⟩
   ·rw[hh.dead]at U;cases U
   exact hh
  |false=>
   subst hB
   have g6:e.idx=L.sn.idx+eq L.l+1:=by
    grind[Ka]
   have ag:L.rl.l.take (e.idx-L.rl.sn.idx-1)=L.l:=by
    show L.l.take (e.idx-L.sn.idx-1)=L.l;rw[show e.idx-L.sn.idx-1=eq L.l by omega,aaG]
   rw[ag]at hq⊢;rw[aaa Q8];have X:L.last=e.idx-1:=by unfold Lg.last;omega
   have h3:=wo (n:=n) o hv N hA p (e::r) last qo qo (by rw[X,g2];exact g3) aa (fun k hk=>by
    have:=xY (r:=L.rl) (c:=eq L.l) (y:=e::r) (aac _) (.inl rfl) k hk;rw[show L.rl.l.take (eq L.l)=L.l from aaG]at this;exact hq _ _ this) (h.mono qo)
   exact h3.up qo<|aac _
end
section
theorem Cn.up{M M' L}(h:Cn M L)(k:M<=M'):Cn M' L:=⟨aat h.1 k,aat h.2.1 k,aat h.2.2 k⟩
def Bw{vot0 M n L D S op}(o:cH vot0 M L D S op)(hv:(bG vot0).isSome=true)(U:Cn M L){A}(V:(L.kt,L.kv)∈A)(p:dT S op L.sn (P L.sn))(O:P L.sn L.l)(i t)(hi:L.sn.idx<=i)(x last)(X:M+1+eq x<=c9)(hl:L.sn.idx+eq L.l+eq x<eB)
  (Z:∀e∈x,i9 e) (Y:eH i t x=0) (N:∀sn l,j9 L.rl (L.rl.Kc i t x last).1 sn l->P sn l) (h:cC (n+10+20*eq x) D):
  Rs vot0 (M+1+eq x) n (L.Kc i t x last D).1 (L.Kc i t x last D).2.1 (L.rl.Kc i t x last).1 A P ((L.Kc i t x last D).2.2=(L.rl.Kc i t x last).2):=by
 unfold Rl.Kc at N⊢;unfold Lg.Kc
 by_cases J:(Ka L.sn L.l i).2=false\/(Ka L.sn L.l i).1≠t
 ·rw[aab J,aab (show(Ka L.rl.sn L.rl.l i).2=false\/(Ka L.rl.sn L.rl.l i).1≠t from J)];exact .inl ⟨I,h.mono qo,I,U.up qo,S,op,o.up qo,p⟩
 rw[aaa (show ¬((Ka L.rl.sn L.rl.l i).2=false\/(Ka L.rl.sn L.rl.l i).1≠t)from J)]at N⊢;rw[aaa J];have J:=not_or.1 J;exact IN o hv U V p O i t hi x last X hl Z Y (Prod.ext (aag.1 J.2) (by simpa using J.1)) N h
def J8{vot0 M n L D S op}(o:cH vot0 M L D S op)(hv:(bG vot0).isSome=true)(cn:Cn M L){A}(hA:(L.kt,L.kv)∈A)(p:dT S op L.sn (P L.sn))(Z:P L.sn L.l)(i t x)(hM:M+1+eq x<=c9)(hl:L.sn.idx+eq L.l+eq x<eB)
  (hx:∀e∈x,e.idx<=ac/\e.term<=ac) (N:∀sn l,j9 L.rl (L.rl.merge i t x).1 sn l->P sn l) (h:cC (n+10+20*eq x) D):
  Rs vot0 (M+1+eq x) n (L.merge i t x D).1 (L.merge i t x D).2.1 (L.rl.merge i t x).1 A P ((L.merge i t x D).2.2=(L.rl.merge i t x).2):=by
 have h0:cC n D/\L.rl=L.rl/\Cn (M+1+eq x) L/\∃S op,cH vot0 (M+1+eq x) L D S op/\dT S op L.sn (P L.sn):=⟨h.mono qo,rfl,cn.up qo,S,op,o.up qo,p⟩;have aa:L.rl.sn=L.sn:=rfl;unfold Rl.merge at N⊢;unfold Lg.merge;rw[aa]at N;rw[aaa (by rw[o.code];simp),aa]
 by_cases J:fQ i t x≠0
 ·rw[aab J,aab J];exact .inl ⟨I,h0⟩
 rw[aaa J]at N;rw[aaa J,aaa J];have J:=aag.1 J;have Y:=nW J;have X:=xK J
 by_cases hi:i<L.sn.idx
 ·rw[aab hi]at N;rw[aab hi,aab hi]
  by_cases U:i+eq x<L.sn.idx
  ·rw[aab U,aab U];exact .inl ⟨I,h0⟩
  rw[aaa U]at N;rw[aaa U,aaa U]
  by_cases O:((x.drop (L.sn.idx-i)).head?.map fun e=>decide (e.term<L.sn.term))=some true
  ·rw[aab O,aab O];exact .inl ⟨I,h0⟩
  rw[aaa O]at N;rw[aaa O,aaa O];have ab:eq (x.drop (L.sn.idx-i))<=eq x:=by simp
  have hm:=Bw (n:=n) o hv cn hA p Z L.sn.idx L.sn.term (aac _) (x.drop (L.sn.idx-i)) (i+eq x) qo qo (fun e V=>⟨Y e (aaV V),hx e (aaV V)⟩) (by
   cases hd:x.drop (L.sn.idx-i)with
   |nil=>rfl
   |cons e r=>
    have h3:=Cf x i t _ e r X hd;rw[hd]at O;simp at O;rw[tv,aaa qo];exact h3.2) N (h.mono qo)
  exact hm.up qo<|aac _
 rw[aaa hi]at N;rw[aaa hi,aaa hi];exact Bw o hv cn hA p Z i t qo x _ hM hl (fun e V=>⟨Y e V,hx e V⟩) X N h
def px(op:Option Og):Prop:=∀o,op=some o->o.t0=eq (eA o.idx o.Ja)
def nN{S op sn l}(hl:px op)(ok:fK none ((S++bD op).map Sg.v))(g:ig sn l)(J:LV sn (er none ((S++bD op).map Sg.v)) l):dT S op sn (fun l'=>l'=l):=by
 intro t ht;cases op with
 |none=>
  have:t=none:=ht;subst this;rw[show S++bD none=S from aaw S]at ok J
  simp_all
 |some o=>
  have h0:=hl o rfl;have hv:(S++bD (some o)).map Sg.v=S.map Sg.v++[(o.idx,o.Ja)]:=by simp[bD,Sg.v]
  rw[hv]at ok J;cases t with
  |none=>
   have ht:o.t0<eq (aK o.idx):=ht
   grind[eA]
  |some t=>
   obtain⟨V,rs⟩:=t;obtain⟨O,j,e2,U,N⟩:=ht;have:=N (eq o.Ja) (aac _) (by simp_all)
   grind
def wO{vot0 M n L D S op}(o:cH vot0 M L D S op)(h:cC n D):
  ((L.w.sync D).1=L.w/\cC n (L.w.sync D).2/\(∀a,a%4≠1->(L.w.sync D).2.sec a=D.sec a)/\∃N,cH vot0 M L (L.w.sync D).2 S N/\px N/\dT S N L.sn (fun l=>l=L.l)) \/
   ((L.w.sync D).1.code=30/\oZ D (L.w.sync D).2):=by
 rcases BB o.wi h with⟨Y,Z,g3,g4,U,g6⟩|g
 ·have O:bD (op.map Og.SX)=bD op:=by cases op<;>rfl
  have J:px (op.map Og.SX):=by
   intro q V;cases op with
   |none=>cases V
   |some X=>
    cases V;obtain⟨k,_,_,k3,_⟩:=o.ops X rfl;show eq X.T=_;rw[k3]
    rfl
  refine .inl ⟨Y,Z,U,_,?_,J,nN J (by rw[O];exact o.ok) o.Jj (by rw[O];exact o.vk.lv)⟩;have:=o.TK (W:=L.w) (l:=L.l) (M':=M) g3 (by rw[O];exact o.Jd) U (by rw[O];exact o.Sm) o.Sn o.next (by rw[O];exact o.ok) (by rw[O];exact o.vk) o.Jj;exact this
 exact .inr g
theorem C8{Z:Ae}{M n}:∀(f:Nat) (L:Lg) (D:Dk) (S:List Sg) (op:Option Og),cH Z M L D S op->M<=c9->L.sn.idx<=eB->L.w.first=L.sn.idx+1->px op->cC n D ->
  (∀a,a%4≠1->(Kd (L.sn.idx+1) f L.w.Jd D).2.1.sec a=D.sec a) /\
  (((Kd (L.sn.idx+1) f L.w.Jd D).2.2=0/\cC n (Kd (L.sn.idx+1) f L.w.Jd D).2.1/\∃S',cH Z M {L with w:={L.w with Jd:=(Kd (L.sn.idx+1) f L.w.Jd D).1}} (Kd (L.sn.idx+1) f L.w.Jd D).2.1 S' op) \/
   ((Kd (L.sn.idx+1) f L.w.Jd D).2.2=30/\(Kd (L.sn.idx+1) f L.w.Jd D).2.1.dead=true/\eM (Kd (L.sn.idx+1) f L.w.Jd D).2.1 L.fr M L.sn (fun l=>l=L.l)))
 |0,L,D,S,op,o,_,_,_,_,h=>⟨fun _ _=>rfl,.inl ⟨rfl,h,S,o⟩⟩
 |f+1,L,D,S,op,o,hM,X,ad,hl,h=>by
  unfold Go.En.Kd
  by_cases hc:1<eq L.w.Jd/\lD L.w.Jd (L.sn.idx+1)=true
  ·rw[aab hc];obtain⟨aA,aa⟩:=hc;have Y:=congrArg List.length o.Jd;rw[aaM,aaj]at Y;have az:eq (bD op)<=1:=by cases op<;>simp[bD]
   cases S with
   |nil=>simp only[aaT]at Y;omega
   |cons N S=>
    have U:=o.Jd;rw[aaL,aay]at U;have hh:(L.w.Jd.headD (0,0)).1=N.num:=by rw[U];rfl
    have hd:L.w.Jd.drop 1=(S++bD op).map fun s=>(s.num,s.idx):=by rw[U];rfl
    rw[hh,hd];have J:=o.Rf;have V:=aa4.1 J.Ry;have ay:∀q,op=some q->N.num<q.num:=fun q hq=>(J.op q hq).1 N Q8
    obtain⟨t,aq,SU⟩:∃s∈(S++bD op).map Sg.v,s.1<=L.sn.idx+1:=by
     unfold lD at aa;rw[hd,List.any_map,List.any_eq_true]at aa;obtain⟨s,h1,h2⟩:=aa;exact⟨s.v,aau.2 ⟨s,h1,I⟩,by simpa[Sg.v]using h2⟩
    have ae:=o.ok;have ab:=o.vk;rw[aaL,aay]at ae ab;obtain⟨av,a,b,ea,eb,ak⟩:=BT ((S++bD op).map Sg.v) (ef none N.v) none (.inl rfl) ae.2.2 ⟨t,aq,SU⟩;rw[show er none (N.v::(S++bD op).map Sg.v)=er (some (ef none N.v)) ((S++bD op).map Sg.v)from rfl,ea]at ab
    have ag:Vk L.w.first L.w.Ja L.sn L.l (er none ((S++bD op).map Sg.v)):=by
     rw[eb];obtain⟨f1,r1⟩:=a;obtain⟨f2,r2⟩:=b;obtain⟨k1,k2,k3,k4⟩:=ak;obtain⟨q1,q2,q3,q4,q5⟩:=ab;dsimp only at k1 k2 k3 k4;refine⟨qo,q2,qo,?_,?_⟩
     all_goals simp_all
    have O:∀k∈(D.free (aM N.num)).1.Iz.map (·.1),k∈D.Iz.map (·.1):=fun k hk=>by
     rcases(Rw.free (aM N.num) (Rw.refl [] D)).keys k hk with g|g
     ·exact g
     simp at g
    rcases h.free (aM N.num)with⟨g1,g2,g3,g4⟩|⟨g1,g2,g3⟩
    ·rw[aaa (by rw[g1];simp)]
     have am:aM N.num∉(D.free (aM N.num)).1.Iz.map (·.1):=by
      unfold Dk.free;rw[aaa (by rw[h.dead];decide)]
      split
      ·grind[Dk.free]
      show aM N.num∉(dN (aM N.num) D.Iz).map (·.1);have hx:=pF (aM N.num) (aM N.num) D.Iz h.keys;rw[aab rfl]at hx;exact gI.1 hx
     have ap:∀a,a%4≠1->(D.free (aM N.num)).1.sec a=D.sec a:=fun a ha=>g4 a (fun e=>ha (by rw[e];simp[aM]))
     have hw:WI {L.w with Jd:=(S++bD op).map fun s=>(s.num,s.idx)} (D.free (aM N.num)).1 S op:=by
      refine⟨o.Rh,⟨fun a ha h1=>?_,V.2,fun s hs=>J.bd s (by simp[hs]),fun s hs=>?_,fun q hq=>?_⟩,o.Sz,o.ops,fun s hs=>o.lt s (by simp_all)⟩
      ·rcases J.keys a (O a ha) h1 with⟨s,hs,e⟩|h2
       all_goals grind
      ·rw[g4 _ (rz (by have:=V.1 s hs;omega))];exact J.cl s (by simp[hs])
      obtain⟨q1,q2,q3,q4,q5⟩:=J.op q hq
      grind[rz]
     have an:=o.TK (M':=M) hw rfl ap (fun s hs=>o.Sm s (by simp_all)) o.Sn o.next av ag o.Jj;have hr:=C8 f _ _ S op an hM X ad hl g2
     simp_all
    rw[aab qo];exact⟨fun a _=>g3 a,.inr ⟨g1,g2,o.RE (aac _) hM X (nN hl o.ok o.Jj o.vk.lv) (oZ.Rf ⟨g2,g3,O⟩ o.Rf)⟩⟩
  rw[aaa hc];exact⟨fun _ _=>I,.inl ⟨I,h,S,o⟩⟩
end
section
def Vk.low{first Ja sn l v}(h:Vk first Ja sn l v)(J:first<sn.idx+1):Vk (sn.idx+1) (Ja.drop (sn.idx+1-first)) sn l v:=by
 cases v with
 |none=>have:=h.2.1;omega
 |some x=>
  obtain⟨f,r⟩:=x;obtain⟨U,q2,N,V,O⟩:=h;refine⟨qo,aac _,N,?_,O⟩
  grind[List.drop_drop]
def HY{W:Wl}{D}(h:W.code≠0):W.sync D=(W,D):=by unfold Wl.sync;rw[aab h]
def HD{vot0 M n L D S op}(o:cH vot0 M L D S op)(V:M+1<=c9)(ab:L.sn.idx+eq L.l<eB)(hl:px op)(h:cC (n+10) D):
  (∀a,a%4≠1->(L.w.Jf (L.sn.idx+1) D).2.sec a=D.sec a)/\(((L.w.Jf (L.sn.idx+1) D).1.first=L.w.first/\(L.w.Jf (L.sn.idx+1) D).1.Ja=L.w.Ja/\cC n (L.w.Jf (L.sn.idx+1) D).2/\∃X O,cH vot0 (M+1) {L with w:=(L.w.Jf (L.sn.idx+1) D).1} (L.w.Jf (L.sn.idx+1) D).2 X O/\dT X O L.sn (fun l=>l=L.l)) \/
   ((L.w.Jf (L.sn.idx+1) D).1.code=30/\(L.w.Jf (L.sn.idx+1) D).2.dead=true/\eM (L.w.Jf (L.sn.idx+1) D).2 L.fr (M+1) L.sn (fun l=>l=L.l))):=by
 have hp:=nN hl o.ok o.Jj o.vk.lv;have ag:=o.next;have ae:=o.Sn;unfold Wl.Jf
 by_cases he:L.sn.idx+1=L.w.first+eq L.w.Ja
 ·rw[aab he];have aa:=o.vk.fin;have ad:eq L.l=0:=qo
  have N:L.l.take (L.sn.idx+1-(L.sn.idx+1))=L.l:=aaA qo;obtain⟨Y,b1⟩:=wU (n:=n) (i:=L.sn.idx+1) o V qo hp rfl (aac _) qo N h;refine⟨Y,?_⟩;rcases b1 with⟨k,Z,J,U,g4,g5,g6,g7⟩|⟨Z,J,U⟩
  ·rw[N,aaA qo]at g7;have hv:((S++bD op)++bD (some ⟨L.w.next,L.sn.idx+1,[],eA (L.sn.idx+1) [],0⟩)).map Sg.v=(S++bD op).map Sg.v++[(L.sn.idx+1,[])]:=by simp[bD,Sg.v]
   refine .inl ⟨by rw[J],by rw[J],U,_,_,?_,g5⟩
   have:=o.TK (M':=M+1) (l:=L.l) (W:=(L.w.begin (L.sn.idx+1) D).1) g4 (by
    rw[J];dsimp only;rw[aa1,<-o.Jd];simp[bD]) Y (fun s hs=>by
    rcases aao.1 hs with hs|hs
    ·exact o.Sm s hs
    simp_all[bD]) (by rw[J];dsimp only;omega) (by rw[J];dsimp only;omega) (by rw[hv];exact g6) (by rw[hv,J];exact g7) o.Jj
   exact this
  exact .inr ⟨Z,J,U⟩
 rw[aaa he];exact⟨fun _ _=>I,.inl ⟨I,I,h.mono qo,S,op,o.up qo,hp⟩⟩
def HW{vot0 M n L D S op}(o:cH vot0 M L D S op)(O:M+1<=c9)(X:L.sn.idx+eq L.l<eB)(aa:L.w.first<L.sn.idx+1)(hl:px op)(h:cC (n+10) D):
  (∀a,a%4≠1->(L.w.Jh (L.sn.idx+1) D).2.1.sec a=D.sec a)/\(((L.w.Jh (L.sn.idx+1) D).2.2=0/\cC n (L.w.Jh (L.sn.idx+1) D).2.1/\∃Z V,cH vot0 (M+1) {L with w:=(L.w.Jh (L.sn.idx+1) D).1} (L.w.Jh (L.sn.idx+1) D).2.1 Z V/\px V) \/
   ((L.w.Jh (L.sn.idx+1) D).2.1.dead=true/\eM (L.w.Jh (L.sn.idx+1) D).2.1 L.fr (M+1) L.sn (fun l=>l=L.l))):=by
 have ad:=o.vk.fin;obtain⟨c0,c1⟩:=HD (n:=n) o O X hl h;unfold Wl.Jh;rw[aaa (by rw[o.Rh];simp),aaa qo,aaa qo];rcases c1 with⟨e1,e2,c2,Z,V,c3,c4⟩|⟨c2,c3,c4⟩
 ·rcases wO c3 c2 with⟨s1,N,s3,Y,J,s5,s6⟩|⟨s1,N⟩
  ·have ew:(L.w.Jb (L.sn.idx+1) D).1=(L.w.Jf (L.sn.idx+1) D).1:=s1;have N:cC n (L.w.Jb (L.sn.idx+1) D).2:=N;have s3:∀a,a%4≠1->(L.w.Jb (L.sn.idx+1) D).2.sec a=(L.w.Jf (L.sn.idx+1) D).2.sec a:=s3;have J:cH vot0 (M+1) {L with w:=(L.w.Jf (L.sn.idx+1) D).1} (L.w.Jb (L.sn.idx+1) D).2 Z Y:=J;rw[ew];have ag:(L.w.Jf (L.sn.idx+1) D).1.code=0:=J.Rh;rw[aaa qo];have U:=J.vk;dsimp only at U;rw[e1,e2]at U;have ab:=J.TK (M':=M+1) (l:=L.l) (W:={ (L.w.Jf (L.sn.idx+1) D).1 with first:=L.sn.idx+1,Ja:=L.w.Ja.drop (L.sn.idx+1-L.w.first)}) ⟨J.Rh,J.Rf,J.Sz,J.ops,J.lt⟩ J.Jd (fun _ _=>rfl) J.Sm J.Sn J.next J.ok (U.low aa) J.Jj;have ae:=C8 (eq (L.w.Jf (L.sn.idx+1) D).1.Jd+1) _ _ Z Y ab O aC rfl s5 N
   grind
  have s1:(L.w.Jb (L.sn.idx+1) D).1.code=30:=s1;have N:oZ (L.w.Jf (L.sn.idx+1) D).2 (L.w.Jb (L.sn.idx+1) D).2:=N;rw[aab qo];exact⟨fun a ha=>by dsimp only;rw[N.2.1 a,c0 a ha],.inr ⟨N.1,c3.RE (aac _) O aC c4 (N.Rf c3.Rf)⟩⟩
 simp_all[HY,Wl.Jb]
theorem D9(place)(data:Aa):∀(f n m:Nat) (b:Aa) (D:Dk),b=data.drop (64*n)->eq b<f->n+(eq b+63)/64<=65536->cC (m+(eq b+63)/64) D ->
  (∀j:Nat,j<n->64*j<eq data->f9 (D.sec (bz place)) j=some (fp ((data.drop (64*j)).take 64))) ->
  (∀a,a≠((bz place:Nat):Int)->(R7 place f n b D).1.sec a=D.sec a) /\
  (((R7 place f n b D).2=0/\cC m (R7 place f n b D).1/\∀j:Nat,64*j<eq data->f9 ((R7 place f n b D).1.sec (bz place)) j=some (fp ((data.drop (64*j)).take 64)))\/((R7 place f n b D).2=30/\(R7 place f n b D).1.dead=true))
 |0,_,_,_,_,_,Z,_,_,_=>by omega
 |f+1,n,m,b,D,hb,Z,hn,h,X=>by
  rw[pJ];have N:eq b=eq data-64*n:=by rw[hb,aar]
  by_cases J:b=[]
  ·rw[aab J];rw[J,aaT]at N;exact⟨fun _ _=>I,.inl ⟨I,h.mono qo,fun j hj=>X j qo hj⟩⟩
  rw[aaa J];have Y:0<eq b:=by grind
  obtain⟨w1,w2,w3⟩:=cC.write (n:=m+(eq b-64+63)/64) (h.mono qo) (bz place) n (b.take 64) qo qo (by rw[aal];omega);rcases w1 with⟨U,V⟩|⟨U,V⟩
  ·rw[aaa (by rw[U];simp)]
   obtain⟨r1,r2⟩:=D9 place data f (n+1) m (b.drop 64) _ (by grind[List.drop_drop]) (by rw[aar];omega) (by rw[aar];omega) (by rw[aar];exact V) (fun j hj O=>by
    rw[w2];unfold f9 jI
    by_cases e:j=n
    ·subst e;rw[aab rfl,<-hb];simp[gp]
    rw[aaa qo];exact X j qo O)
   simp_all
  simp_all
end
section
def Rw.Rf{A:Ae}{D E}(h:Rw A D E)(O:∀a∈A,a%4≠1):∀a∈E.Iz.map (·.1),a%4=1->a∈D.Iz.map (·.1):=fun a U N=>by
 rcases h.keys a U with J|J
 ·exact J
 exact absurd N<|O a J
def eM.Th{D E:Dk}{fr M sn}{Q:List ah->Prop}(h:eM D fr M sn Q)(hs:∀a,a%4=1->E.sec a=D.sec a)(J:∀a∈E.Iz.map (·.1),a%4=1->a∈D.Iz.map (·.1)):eM E fr M sn Q:=
 h.frame (fun n=>hs _ (by simp[aM])) fun n hn=>J _ hn (by unfold aM;omega)
def F6{vot0 M E H s place fr}(O:Fx (E.sec 4))(hs:di (E.sec 4)=H)(J:kX H vot0 s place fr)(N:js (E.sec (bz place)) s.data)(hp:place<=M)(hn:H.num<=M)(w:eM E fr M s (P s)):
  ∀f',Pk (E.sec 4) f'->(di f').num<=M/\∃sn place fr,place<=M/\kX (di f') vot0 sn place fr/\((di f').num≠0->∀g,Pk (E.sec (bz place)) g->js g sn.data)/\eM E fr M sn (P sn):=by
 intro f' p;rw[O.pk p,hs];exact⟨hn,s,place,fr,hp,J,fun _ g U=>N.pk U,w⟩
structure SOk (s:bE):Prop where
 idx:s.idx<bX
 term:s.term<=ac
 data:eq s.data<=2097152
 Jq:(bG s.Jq).isSome=true
def El{O:Ae}{M n L D}{S:List Sg}{op:Option Og}(o:cH O M L D S op)(hv:(bG O).isSome=true)(cn:Cn M L){A:List (Nat×Int)}(hA:(L.kt,L.kv)∈A)(s)(hs:SOk s)(fr)(hM:M+1<=2000000)(ak:fr<=M)
  (w0:eM D L.fr (M+1) L.sn (P L.sn)) (w1:eM D fr (M+1) s (P s)) (h:cC (n+((eq s.data+63)/64+1)) D):
  (∀a,a%4=1->(L.lay s fr D).2.1.sec a=D.sec a)/\(∀a∈(L.lay s fr D).2.1.Iz.map (·.1),a%4=1->a∈D.Iz.map (·.1)) /\
  (((L.lay s fr D).2.2=0/\cC n (L.lay s fr D).2.1/\(L.lay s fr D).1={L.laid s fr ⟨L.head.num+1,Lg.Nl s (L.place+1) fr⟩with code:=0}/\(L.lay s fr D).2.1.sec 0=D.sec 0/\Fx ((L.lay s fr D).2.1.sec 4)/\di ((L.lay s fr D).2.1.sec 4)=⟨L.head.num+1,Lg.Nl s (L.place+1) fr⟩/\js ((L.lay s fr D).2.1.sec (bz (L.place+1))) s.data) \/
   ((L.lay s fr D).2.2≠0/\(L.lay s fr D).2.1.dead=true/\kf O (M+1) (L.lay s fr D).2.1 A P)):=by
 have N:=cn.up (show M<=M+1 by omega);have hp:=cn.2.2;have hh:=cn.2.1;have am:((bz (L.place+1):Nat):Int)%4=2:=by simp[bz]
 have an:((bz L.place:Nat):Int)%4=2:=by simp[bz]
 have V:((bz L.place:Nat):Int)≠((bz (L.place+1):Nat):Int):=by unfold bz;omega
 obtain⟨v1,v2⟩:=D9 (L.place+1) s.data (eq s.data+1) 0 (n+1) s.data D rfl qo (by have:=hs.data;omega) (h.mono qo) (fun j hj=>by omega);have vk:=yK (L.place+1) (eq s.data+1) 0 s.data D;unfold Lg.lay;generalize R7 (L.place+1) (eq s.data+1) 0 s.data D=R1 at v1 v2 vk;obtain⟨E1,c1⟩:=R1;dsimp only at v1 v2 vk⊢;have k1:=vk.Rf (fun a J=>by simp_all);have a1:∀a,a%4≠2->E1.sec a=D.sec a:=fun a J=>v1 a (fun e=>by omega);rcases v2 with⟨x1,x2,x3⟩|⟨x1,x2⟩
 ·rw[aaa (by rw[x1];simp)];unfold Lg.Sf;have yk:=(Rw.sync (bz (L.place+1)) (Rw.refl [] E1)).Rf (fun a J=>by simp at J);have y:=x2.sync (bz (L.place+1));generalize E1.sync (bz (L.place+1))=R2 at y yk;obtain⟨X,c2⟩:=R2;dsimp only at y yk⊢;rcases y with⟨y1,y2,y3,y4⟩|⟨y1,y2,y3⟩
  ·rw[aaa (by rw[y1];simp)];have a2:∀a,a%4≠2->X.sec a=D.sec a:=fun a J=>by grind
   have b2:X.sec (bz L.place)=D.sec (bz L.place):=by rw[y4 _ V,v1 _ V]
   have d2:js (X.sec (bz (L.place+1))) s.data:=⟨by rw[y3];exact xU _,fun j hj=>by rw[y3,t6];exact x3 j hj⟩;unfold Lg.Rq;have ad:=MM (fr:=fr) (place:=L.place+1) (by have:=hs.idx;unfold bX at this;unfold ac;omega) hs.term qo qo hs.data hs.Jq;have z:=BP (n:=n) (h:=y2.mono qo) 4 (S:=L.head) (v:=Lg.Nl s (L.place+1) fr) (by rw[a2 _ Q9];exact o.RL) (by rw[a2 _ Q9];exact o.RM) ad qo;have zk:=(tY L.head 4 X (Lg.Nl s (L.place+1) fr)).Rf (fun a J=>by simp_all);generalize L.head.save 4 X (Lg.Nl s (L.place+1) fr)=R3 at z zk;obtain⟨H,Y,c3⟩:=R3;dsimp only at z zk⊢;obtain⟨z0,z⟩:=z;have ae:((bz L.place:Nat):Int)≠((4:Nat):Int):=qo
   have ag:((bz (L.place+1):Nat):Int)≠((4:Nat):Int):=qo
   have a3:∀a,a%4=1->Y.sec a=D.sec a:=fun a J=>by grind
   have k3:∀a∈Y.Iz.map (·.1),a%4=1->a∈D.Iz.map (·.1):=fun a J U=>k1 a (yk a (zk a J U) U) U;have aa:Y.sec 0=D.sec 0:=by rw[z0 0 Q9,a2 0 Q9]
   have d3:js (Y.sec (bz (L.place+1))) s.data:=by rw[z0 _ ag];exact d2
   have ab:kX ⟨L.head.num+1,Lg.Nl s (L.place+1) fr⟩ O s (L.place+1) fr:=.inr ⟨Q8,rfl,by have:=hs.idx;omega,hs.term,by unfold bX;omega,hs.data,by unfold bX;omega,hs.Jq⟩;rcases z with⟨z1,z2,z3,z4,z5⟩|⟨z1,z2,z3⟩
   ·rw[aaa (by rw[z1];simp)];unfold Lg.Sy;have u:=z3.free (bz L.place);have uk:=(Rw.free (bz L.place) (Rw.refl [] Y)).Rf (fun a J=>by simp at J);generalize Y.free (bz L.place)=R4 at u uk;obtain⟨E4,c4⟩:=R4;dsimp only at u uk⊢;have k4:∀a∈E4.Iz.map (·.1),a%4=1->a∈D.Iz.map (·.1):=fun a J U=>k3 a (uk a J U) U;rcases u with⟨u1,u2,Z,u4⟩|⟨u1,u2,Z⟩
    ·grind
    have a4:∀a,a%4=1->E4.sec a=D.sec a:=fun a J=>by rw[Z a,a3 a J]
    refine⟨a4,k4,.inr ⟨qo,u2,nk hv (o.Ss N (by rw[Z 0,aa]) hA) (F6 (by rw[Z 4];exact z4) (by rw[Z 4];exact z5) ab (by rw[Z];exact d3) qo aC (w1.Th a4 k4))⟩⟩
   rw[aab qo];refine⟨a3,k3,.inr ⟨aC,z2,nk hv (o.Ss N aa hA) fun f' pf=>?_⟩⟩;rcases z3 f' pf with g|g
   ·rw[g];exact⟨N.2.1,_,_,_,N.2.2,o.RD,fun hn g' pg=>(o.S9 hn).pk (by rw[z0 _ ae,b2]at pg;exact pg),w0.Th a3 k3⟩
   rw[g];exact⟨aC,_,_,_,qo,ab,fun _ g' pg=>d3.pk pg,w1.Th a3 k3⟩
  rw[aab qo];have a2:∀a,a%4≠2->X.sec a=D.sec a:=fun a J=>by rw[y3 a,a1 a J]
  have k2:∀a∈X.Iz.map (·.1),a%4=1->a∈D.Iz.map (·.1):=fun a J U=>k1 a (yk a J U) U;exact⟨fun a J=>a2 a qo,k2,.inr ⟨aC,y2,nk hv (o.Ss N (a2 0 Q9) hA) (o.ST N (a2 4 Q9) (by rw[y3,v1 _ V]) (w0.Th (fun a J=>a2 a qo) k2))⟩⟩
 rw[aab qo];exact⟨fun a J=>a1 a qo,k1,.inr ⟨aC,x2,nk hv (o.Ss N (a1 0 Q9) hA) (o.ST N (a1 4 Q9) (v1 _ V) (w0.Th (fun a J=>a1 a qo) k1))⟩⟩
end
section
def Rz(J:Ae)(M n:Nat)(L:Lg)(E:Dk)(r:Rl)(A:List (Nat×Int))(P:bE->List ah->Prop)(ok c:Prop):Prop:=
 (ok/\cC n E/\L.rl=r/\Cn M L/\∃S op,cH J M L E S op/\dT S op L.sn (P L.sn)/\(c->dT S op L.sn (fun l=>l=L.l)))\/(E.dead=true/\kf J M E A P)
theorem kf.up{vot0 M M' E A}{P:bE->List ah->Prop}(h:kf vot0 M E A P)(J:M<=M'):kf vot0 M' E A P:=fun N c X=>by
 obtain⟨U,O,V,Y,Z,k3,k4,k5,k6⟩:=h N c X;exact⟨U,O,V,Y,Z,k3,k4.up J,k5.up J,k6⟩
theorem Lg.RC{L:Lg}{D}(J:L.code=0):L.sync D=({L with w:=(L.w.sync D).1,code:=(L.w.sync D).1.code},(L.w.sync D).2,(L.w.sync D).1.code):=by
 simp_all[Lg.sync]
def cH.Tt{vot0 M L D S op}(o:cH vot0 M L D S op)(h:(L.w.sync D).1=L.w):L.sync D=(L,(L.w.sync D).2,0):=by
 rw[Lg.RC o.code,h,o.Rh];have J:=o.code;obtain⟨w,Qh,head,kt,kv,sn,place,fr,l,code⟩:=L;cases J
 rfl
def CG{vot0 M n L D S op}(o:cH vot0 M L D S op)(hv:(bG vot0).isSome=true)(V:Cn M L){A}(Z:(L.kt,L.kv)∈A)(p:dT S op L.sn (P L.sn))(O:P L.sn L.l)(hM:M<=c9)(J:L.sn.idx<=eB)(h:cC n D):
  Rz vot0 M n (L.sync D).1 (L.sync D).2.1 L.rl A P ((L.sync D).2.2=0) True:=by
 rcases wO o h with⟨X,N,s3,U,s4,s5,Y⟩|⟨X,N⟩
 ·rw[o.Tt X];exact .inl ⟨I,N,I,V,S,U,s4,Y.mono (fun l hl=>by subst hl;exact O),fun _=>Y⟩
 rw[Lg.RC o.code];exact .inr ⟨N.1,o.Sr hv V (fun a _=>N.2.1 a) (o.RE (aac _) hM J p (N.Rf o.Rf)) Z⟩
def Vk.snap{first Ja sn s l v}(h:Vk first Ja sn l v)(V:sn.idx<s.idx)(J:s.idx<=sn.idx+eq l):Vk first Ja s (l.drop (s.idx-sn.idx)) v:=by
 cases v with
 |none=>
  obtain⟨_,_,rfl⟩:=h;simp only[aaT]at J;omega
 |some x=>
  have N:=h.Ud;obtain⟨f,r⟩:=x;obtain⟨O,q2,X,U,Y⟩:=h;dsimp only at N;refine⟨O,qo,qo,U,?_⟩
  grind[List.map_drop,List.drop_drop]
def Cb{sn s l}(g:ig sn l)(N:sn.idx<s.idx)(O:s.idx<=sn.idx+eq l)(U:(Ka sn l s.idx).1=s.term):ig s (l.drop (s.idx-sn.idx)):=by
 refine⟨?_,fun e J=>g.2 e (aaV J)⟩;have V:=I6 g.1 (k:=s.idx-sn.idx) qo;have X:=BH (s:=sn) (l:=l) (k:=s.idx-sn.idx) qo
 grind
def cH.Uh{J:Ae}{M L}{D E:Dk}{S:List Sg}{op:Option Og}(o:cH J M L D S op){s:bE}(O:L.sn.idx<s.idx)(U:s.idx<=L.sn.idx+eq L.l)(Z:(Ka L.sn L.l s.idx).1=s.term){H}(hs:∀a,a%4=1->E.sec a=D.sec a)(hk:∀a∈E.Iz.map (·.1),a%4=1->a∈D.Iz.map (·.1))
  (e0:E.sec 0=D.sec 0) (Y:Fx (E.sec 4)) (s4:di (E.sec 4)=H) (N:kX H J s (L.place+1) L.fr) (hd:js (E.sec (bz (L.place+1))) s.data):cH J M {L with head:=H,l:=L.l.drop (s.idx-L.sn.idx),place:=L.place+1,sn:=s,code:=0} E S op where
 code:=rfl
 Rh:=o.Rh
 Jd:=o.Jd
 Rf:=o.Rf.frame (fun n=>hs _ (by simp[aM])) hk
 Sz:=o.Sz
 ops:=o.ops
 lt:=o.lt
 Sm:=o.Sm
 Sn:=o.Sn
 next:=o.next
 ok:=o.ok
 val:=by
  have X:=o.vk.snap O U;cases hv:er none ((S++bD op).map Sg.v)with
  |none=>
   have V:=o.vk;rw[hv]at V;have:=congrArg List.length V.2.2
   grind
  |some x=>
   rw[hv]at X;exact .inr ⟨x.1,x.2,I,X⟩
 RG:=by rw[e0];exact o.RG
 RH:=by rw[e0];exact o.RH
 RJ:=o.RJ
 RL:=Y
 RM:=s4
 RD:=N
 S9:=fun _=>hd
 Jj:=Cb o.Jj O U Z
theorem CR{vot0 M n L D S op}(o:cH vot0 M L D S op)(hv:(bG vot0).isSome=true)(O:Cn M L){A}(hA:(L.kt,L.kv)∈A)(p:dT S op L.sn (P L.sn))(aq:P L.sn L.l)(s)(ab:s.term<=ac)(hM:M+2<=2000000)(aA:L.sn.idx+eq L.l<eB)
  (hq:∀sn l,j9 L.rl (L.rl.save s).1 sn l->P sn l) (h:cC (n+((eq s.data+63)/64+11)) D):
  Rz vot0 (M+2) n (L.save s D).1 (L.save s D).2.1 (L.rl.save s).1 A P ((L.save s D).2.2=(L.rl.save s).2) ((L.rl.save s).2=0):=by
 have am:M+2<=c9:=by unfold c9;omega
 have V:L.fits s=L.rl.fits s:=by
  unfold Lg.fits Rl.fits;rw[aaa (by rw[o.code];simp)]
  rfl
 unfold Rl.save at hq⊢;unfold Lg.save;rw[V]
 by_cases Z:L.rl.fits s=0
 ·rw[aaa (show ¬L.rl.fits s≠0 by rw[Z];simp)]at hq⊢;rw[aaa (show ¬L.rl.fits s≠0 by rw[Z];simp)];obtain⟨ag,hd,aa,ad⟩:=tK Z;have N:L.sn.idx<s.idx:=aa
  by_cases hh:fj L.sn L.l s=false
  ·rw[aab hh,aab (show fj L.rl.sn L.rl.l s=false from hh)];exact .inl ⟨I,h.mono qo,I,O.up qo,S,op,o.up qo,p,fun U=>absurd U (show ¬((180:Int)=0) by decide)⟩
  rw[aaa (show ¬fj L.rl.sn L.rl.l s=false from hh)]at hq⊢;rw[aaa hh];have an:fj L.sn L.l s=true:=by simpa using hh
  obtain⟨X,aD⟩:=LF an N
  have ae:(Ka L.sn L.l s.idx).1=s.term:=by
   simp_all[fj]
  have hne:L.rl.sn≠s:=fun e=>by rw[<-e]at aa;omega
  have Y:P s (L.l.drop (s.idx-L.sn.idx)):=hq _ _ (.inr ⟨hne,rfl,rfl⟩);unfold Lg.Si;rcases wO o h with⟨s1,s2,s3,av,J,s5,s6⟩|⟨s1,s2⟩
  ·rw[o.Tt s1,aaa Q8];dsimp only;generalize (L.w.sync D).2=E at s2 s3 J;have aF:=J.next;have aE:=J.Sn;have p1:dT S av L.sn (P L.sn):=s6.mono fun l hl=>by subst hl;exact aq
   have ay:=J.vk.snap N X;have gs:=Cb J.Jj N X ae;have w0:=J.RE (M':=M+1) qo qo qo p1 J.Rf
   have w1:eM E L.fr (M+1) s (P s):=by
    refine A6 J.Rf qo qo qo (fun x hx=>?_) (fun q hq=>?_) ((nN s5 J.ok gs ay.lv).mono fun l hl=>by rw[hl];exact Y)
    ·have h1:=J.Sm x (aao.2 (.inl hx));have h2:=J.lt x (aao.2 (.inl hx));omega
    subst hq;have h1:=J.Sm ⟨q.num,q.idx,q.Ja⟩ (by simp[bD]);have h2:=J.lt ⟨q.num,q.idx,q.Ja⟩ (by simp[bD]);dsimp only at h1 h2;omega
   obtain⟨r1,r2,r3⟩:=El (n:=n+10) J hv O hA s ⟨ad,ab,hd,ag⟩ L.fr qo qo w0 w1 (s2.mono qo);unfold Lg.Sj;rcases r3 with⟨x1,x2,x3,x4,x5,x6,x7⟩|⟨x1,x2,x3⟩
   ·rw[aaa (by rw[x1];simp)];have ap:kX ⟨L.head.num+1,Lg.Nl s (L.place+1) L.fr⟩ vot0 s (L.place+1) L.fr:=.inr ⟨Q8,rfl,qo,ab,by have:=O.2.2;unfold bX;omega,hd,by unfold bX;omega,ag⟩
    have ak:(L.lay s L.fr E).1={L with head:=⟨L.head.num+1,Lg.Nl s (L.place+1) L.fr⟩,l:=L.l.drop (s.idx-L.sn.idx),place:=L.place+1,sn:=s,code:=0}:=by
     simp_all[Lg.laid]
    have o2:=(J.Uh N X ae r1 r2 x4 x5 x6 ap x7).up (show M<=M+1 by omega);rw[ak];generalize (L.lay s L.fr E).2.1=E2 at x2 o2;have c2:Cn (M+1) {L with head:=⟨L.head.num+1,Lg.Nl s (L.place+1) L.fr⟩,l:=L.l.drop (s.idx-L.sn.idx),place:=L.place+1,sn:=s,code:=0}:=⟨by have:=O.1;dsimp only;omega,by have:=O.2.1;dsimp only;omega,by have:=O.2.2;dsimp only;omega⟩;have az:=J.vk.fin;have U:=HW (n:=n) o2 qo (by dsimp only;rw[aar];omega) aC s5 x2;dsimp only at U⊢;obtain⟨h0,U⟩:=U;rcases U with⟨k1,k2,S3,G7,k3,k4⟩|⟨k1,k2⟩
    ·rw[k1];have pl:=nN k4 k3.ok k3.Jj k3.vk.lv;exact .inl ⟨I,k2,I,c2.up qo,S3,G7,k3,pl.mono (fun l hl=>by rw[hl];exact Y),fun _=>pl⟩
    exact .inr ⟨k1,o2.Sr hv (c2.up qo) h0 (eM.imp k2 fun l hl=>by rw[hl];exact Y) hA⟩
   rw[aab x1];exact .inr ⟨x2,x3.up qo⟩
  rw[aab (by rw[Lg.RC o.code];dsimp only;omega),Lg.RC o.code];exact .inr ⟨s2.1,o.Sr hv (O.up qo) (fun a _=>s2.2.1 a) (o.RE qo am qo p (s2.Rf o.Rf)) hA⟩
 rw[aab Z,aab Z];exact .inl ⟨I,h.mono qo,I,O.up qo,S,op,o.up qo,p,fun U=>absurd U Z⟩
end
section
theorem vP:∀(l:Ae) (D:Dk) (n:Nat),cC n D ->
  (∀a,a%4≠1->(Kb l D).1.sec a=D.sec a)/\(∀a∈(Kb l D).1.Iz.map (·.1),a∈D.Iz.map (·.1)) /\
  (((Kb l D).2=0/\cC n (Kb l D).1/\∀a∈l,a%4=1->a∉(Kb l D).1.Iz.map (·.1))\/((Kb l D).2=30/\(Kb l D).1.dead=true))
 |[],D,n,h=>⟨fun _ _=>rfl,fun _ h=>h,.inl ⟨rfl,h,Q8⟩⟩
 |a::r,D,n,h=>by
  unfold Kb
  by_cases U:a%4=1
  ·rw[aab U]
   have V:∀k∈(D.free a).1.Iz.map (·.1),k∈D.Iz.map (·.1):=fun k V=>by
    rcases(Rw.free a (Rw.refl [] D)).keys k V with g|g
    ·exact g
    simp at g
   rcases h.free a with⟨N,O,Y,g4⟩|⟨N,O,Y⟩
   ·rw[aab N];obtain⟨Z,r2,r3⟩:=vP r _ n O
    have J:a∉(D.free a).1.Iz.map (·.1):=by
     unfold Dk.free;rw[aaa (by rw[h.dead];decide)]
     split
     ·grind[Dk.free]
     show a∉(dN a D.Iz).map (·.1);have X:=pF a a D.Iz h.keys;rw[aab rfl]at X;exact gI.1 X
    grind
   grind
  rw[aaa U];obtain⟨Z,r2,r3⟩:=vP r D n h
  grind
def HR{vot0 M n L D S op}(o:cH vot0 M L D S op)(hv:(bG vot0).isSome=true)(U:Cn M L){A}(hA:(L.kt,L.kv)∈A)(p:dT S op L.sn (P L.sn))(aA:P L.sn L.l)(s)(ae:s.term<=ac)(hM:M+2<=2000000)(ay:L.sn.idx+eq L.l<eB)
  (J:∀sn l,j9 L.rl (L.rl.install s).1 sn l->P sn l) (h:cC (n+((eq s.data+63)/64+11)) D):
  Rz vot0 (M+2) n (L.install s D).1 (L.install s D).2.1 (L.rl.install s).1 A P ((L.install s D).2.2=(L.rl.install s).2) ((L.rl.install s).2=0):=by
 have V:L.fits s=L.rl.fits s:=by
  unfold Lg.fits Rl.fits;rw[aaa (by rw[o.code];simp)]
  rfl
 unfold Rl.install at J⊢;unfold Lg.install;rw[V]
 by_cases Y:L.rl.fits s=0
 ·rw[aaa (show ¬L.rl.fits s≠0 by rw[Y];simp)]at J⊢;rw[aaa (show ¬L.rl.fits s≠0 by rw[Y];simp)];obtain⟨ag,hd,aa,O⟩:=tK Y;have az:L.sn.idx<s.idx:=aa
  by_cases hh:fj L.sn L.l s=true
  ·rw[aab (show fj L.rl.sn L.rl.l s=true from hh)]at J⊢;rw[aab hh]
   grind[CR]
  rw[aaa (show ¬fj L.rl.sn L.rl.l s=true from hh)]at J⊢;rw[aaa hh];have hne:L.rl.sn≠s:=fun e=>by rw[<-e]at aa;omega
  have ad:P s []:=J _ _ (.inr ⟨hne,rfl,rfl⟩);have an:M+2<=c9:=by unfold c9;omega
  have hT:=Ea;have av:=o.next;have ak:=U.2.2
  have ap:∀n,aM n∈D.Iz.map (·.1)->n<L.w.next:=fun n hn=>by
   rcases o.Rf.keys _ hn (by simp[aM])with⟨x,hx,e⟩|⟨q,J,e⟩
   ·have:=o.lt x (aao.2 (.inl hx));have:=l9 e;omega
   subst J;have h2:=o.lt ⟨q.num,q.idx,q.Ja⟩ (by simp[bD])
   grind[l9]
  have w0:=o.RE (M':=M+1) qo qo qo p o.Rf;have wv:∀(E:Dk) (M':Nat),M<=M'->M'<=c9->(∀a∈E.Iz.map (·.1),a%4=1->a∈D.Iz.map (·.1))->eM E L.w.next M' s (P s):=fun E M' h1 h2 h3=>AO qo h2 qo (fun n hn=>ap n (h3 _ hn (by simp[aM]))) ad;obtain⟨r1,r2,r3⟩:=El (n:=n+10) o hv U hA s ⟨O,ae,hd,ag⟩ L.w.next qo av w0 (wv D (M+1) qo qo fun a X _=>X) (h.mono qo);unfold Lg.Se;rcases r3 with⟨x1,x2,x3,x4,x5,x6,x7⟩|⟨x1,x2,x3⟩
  ·rw[aaa (by rw[x1];simp)];have ab:kX ⟨L.head.num+1,Lg.Nl s (L.place+1) L.w.next⟩ vot0 s (L.place+1) L.w.next:=.inr ⟨Q8,rfl,qo,ae,by unfold bX;omega,hd,by unfold bX;omega,ag⟩
   have am:(L.lay s L.w.next D).1={L with head:=⟨L.head.num+1,Lg.Nl s (L.place+1) L.w.next⟩,l:=[],place:=L.place+1,fr:=L.w.next,sn:=s,code:=0}:=by
    simp_all[Lg.laid]
   rw[am];generalize (L.lay s L.w.next D).2.1=N at r1 r2 x2 x4 x5 x6 x7;dsimp only;obtain⟨Z,v2,v3⟩:=vP (aU N) N (n+10) x2;have ek:=fun a X h1=>r2 a (v2 a X) h1;unfold Wl.reset;rw[aaa (by rw[o.Rh];simp),aaa (by unfold bX at O;unfold bt;omega)];rcases v3 with⟨y1,y2,y3⟩|⟨y1,y2⟩
   ·rw[aaa (by rw[y1];simp)];have e0:(Kb (aU N) N).1.sec 0=D.sec 0:=by rw[Z 0 Q9,x4]
    have e4:(Kb (aU N) N).1.sec 4=N.sec 4:=Z 4 Q9
    have aq:cH vot0 (M+2) {L with w:={L.w with op:=none,Jd:=[],Ja:=[],first:=s.idx+1},head:=⟨L.head.num+1,Lg.Nl s (L.place+1) L.w.next⟩,l:=[],place:=L.place+1,fr:=L.w.next,sn:=s,code:=0} (Kb (aU N) N).1 [] none:={
     code:=rfl
     Rh:=o.Rh
     Jd:=rfl
     Rf:=⟨fun a X h1=>absurd X (y3 a ((dW _).mem_iff.2 (v2 a X)) h1),List.Pairwise.nil,Q8,Q8,fun q J=>by cases J⟩
     Sz:=fun _=>rfl
     ops:=fun q J=>by cases J
     lt:=by simp[bD]
     Sm:=by simp[bD]
     Sn:=aac _
     next:=by dsimp only;omega
     ok:=trivial
     val:=.inl ⟨rfl,rfl,rfl,rfl⟩
     RG:=by rw[e0];exact o.RG
     RH:=by rw[e0];exact o.RH
     RJ:=o.RJ
     RL:=by rw[e4];exact x5
     RM:=by rw[e4];exact x6
     RD:=ab
     S9:=fun _=>by rw[Z _ (by simp[bz])];exact x7
     Jj:=⟨rfl,Q8⟩}
    have pl:dT [] none s (fun l=>l=[]):=fun t ht=>by
     have:t=none:=ht;subst this;exact⟨trivial,[],I,⟨I,Q8⟩,I⟩
    exact .inl ⟨I,y2.mono qo,I,⟨by have:=U.1;dsimp only;omega,by have:=U.2.1;dsimp only;omega,aC⟩,[],none,aq,pl.mono (fun l hl=>by rw[hl];exact ad),fun _=>pl⟩
   rw[aab qo];refine .inr ⟨y2,nk hv (o.Ss (U.up qo) (by dsimp only;rw[Z 0 Q9,x4]) hA) (F6 (by dsimp only;rw[Z 4 Q9];exact x5) (by dsimp only;rw[Z 4 Q9];exact x6) ab (by grind[bz]) qo (by have:=U.2.1;dsimp only;omega) (wv _ _ qo an ek))⟩
  rw[aab x1];exact .inr ⟨x2,x3.up qo⟩
 rw[aab Y,aab Y];exact .inl ⟨I,h.mono qo,I,U.up qo,S,op,o.up qo,p,fun hc=>absurd hc Y⟩
end
section
def dy(e:ah):Option (Ae):=if e.kind=2 then fB e.data else none
abbrev fL(F:List ah):Nat:=jN ah.term F
def kR(F:List ah):Prop:=∀k e,F[k]?=some e->e.idx=k+1/\e.ok
theorem kR.take{F}(h:kR F)(n):kR (F.take n):=fun k e J=>by
 rw[abL]at J
 split at J
 ·exact h k e J
 cases J
def kR.snoc{F}(h:kR F){e}(N:e.idx=eq F+1)(O:e.ok):kR (F++[e]):=fun k x J=>by
 rcases aaz k (eq F)with hl|hl
 ·rw[abE hl]at J;exact h k x J
 grind
structure Fl (c0:Ae) (F:List ah) (sn:bE) (l:List ah):Prop where
 le:sn.idx<=eq F
 l:l=F.drop sn.idx
 tm:sn.term=fL (F.take sn.idx)
 vt:sn.Jq=bU dy c0 (F.take sn.idx)
 ok:kR F
section
variable {c0:Ae}{F:List ah}{sn:bE}{l:List ah}
def Fl.len(f:Fl c0 F sn l):sn.idx+eq l=eq F:=by rw[f.l,aar];have:=f.le;omega
theorem Fl.get(f:Fl c0 F sn l)(k):l[k]?=F[sn.idx+k]?:=by rw[f.l,aa0]
theorem mX{F:List ah}{i}(h0:i≠0)(h:i<=eq F):fL (F.take i)=(F[i-1]?.getD ah.zero).term:=by
 obtain⟨e,J,N⟩:=wP (tm:=ah.term) (F:=F.take i) (fun hn=>by simp_all)
 grind
theorem Fl.Ka(f:Fl c0 F sn l){i}(N:sn.idx<=i)(J:i<=eq F):Ka sn l i=(fL (F.take i),true):=by
 have hl:=f.len;unfold En.Ka
 split
 ·rename_i h;rw[h,<-f.tm]
 rename_i h;rw[aaa qo,f.get,mX qo J,show sn.idx+(i-sn.idx-1)=i-1 by omega]
def Fl.TZ(f:Fl c0 F sn l){i}(h:i<sn.idx\/eq F<i):En.Ka sn l i=(0,false):=by
 have hl:=f.len
 grind[En.Ka]
def Fl.TI(f:Fl c0 F sn l){i t}(h:En.Ka sn l i=(t,true)):sn.idx<=i/\i<=eq F/\fL (F.take i)=t:=by
 rcases aaz i sn.idx with J|J
 ·rw[f.TZ (.inl J)]at h;cases h
 rcases aaz (eq F) i with N|N
 ·rw[f.TZ (.inr N)]at h;cases h
 rw[f.Ka J N]at h;exact⟨J,N,congrArg Prod.fst h⟩
def Fl.cfg(f:Fl c0 F sn l){i}(Z:sn.idx<=i)(h2:i<=eq F):(ei sn l i).1=bU dy c0 (F.take i)/\Nc dy F (ei sn l i).2 i/\(ei sn l i).2<=i:=by
 unfold ei
 split
 ·rename_i e U;obtain⟨hp,us,O,hs,ha⟩:=List.find?_eq_some_iff_append.1 U
  have hl:l=O.reverse++e::us.reverse:=by
   simp_all
  have hp:=of_decide_eq_true hp
  have hj:F[sn.idx+eq O]?=some e:=by
   rw[<-f.get,hl,abc Q8]
   simp
  obtain⟨k1,k2⟩:=f.ok _ e hj
  obtain⟨C,hC⟩:∃C,fB e.data=some C:=by
   have h3:=k2.2.2
   simp_all[acj,mq]
  have aa:dy e=some C:=by unfold dy;rw[aab hp.1];exact hC
  have nc:Nc dy F (sn.idx+eq O+1) i:=fun j x V X N=>by
   have J:l[j-sn.idx]?=some x:=by rw[f.get,show sn.idx+(j-sn.idx)=j by omega];exact N
   have Y:=(f.ok j x N).1
   have hm:x∈us:=by
    rw[hl,abc Au]at J
    grind
   grind[dy]
  grind[FH]
 rename_i U;have hn:=List.find?_eq_none.1 U
 have nc:Nc dy F sn.idx i:=fun j x V X N=>by
  have J:l[j-sn.idx]?=some x:=by rw[f.get,show sn.idx+(j-sn.idx)=j by omega];exact N
  have:=hn x (acM.2 (aam J));have Y:=(f.ok j x N).1
  grind[dy]
 exact⟨by rw[rv Z nc];exact f.vt,nc,Z⟩
theorem Fl.snoc(f:Fl c0 F sn l){e}(J:e.idx=eq F+1)(N:e.ok):Fl c0 (F++[e]) sn (l++[e]):=by
 have:=f.le;refine⟨by simp;omega,?_,?_,?_,f.ok.snoc J N⟩
 ·rw[abP this,<-f.l]
 ·rw[aa3 this];exact f.tm
 rw[aa3 this];exact f.vt
def Fl.snap(f:Fl c0 F sn l){s}(N:sn.idx<=s.idx)(J:s.idx<=eq F)(ht:s.term=fL (F.take s.idx))(hv:s.Jq=bU dy c0 (F.take s.idx)):Fl c0 F s (l.drop (s.idx-sn.idx)):=
 ⟨J,by rw[f.l,aaP];congr 1;omega,ht,hv,f.ok⟩
def Fl.other{A}(J:kR A){s}(N:s.idx<=eq A)(ht:s.term=fL (A.take s.idx))(hv:s.Jq=bU dy c0 (A.take s.idx)):Fl c0 (A.take s.idx) s []:=
 ⟨by rw[aal];omega,Q8,by rw[aaK,abB];exact ht,by rw[aaK,abB];exact hv,J.take _⟩
end
def Lm(F A:List ah):Prop:=∀i,i<=eq F->i<=eq A->fL (F.take i)=fL (A.take i)->Pf i F A
def D7{g:Gs ah}{F A}(Z:g.Good ah.term F)(Y:g.Good ah.term A):Lm F A:=fun i N O h=>by
 rcases aa7 i with rfl|hi
 ·exact⟨N,O,I⟩
 obtain⟨x,U⟩:∃x,F[i-1]?=some x:=⟨_,aai qo⟩;obtain⟨y,V⟩:∃y,A[i-1]?=some y:=⟨_,aai qo⟩;rw[mX qo N,mX qo O,U,V]at h;have h:x.term=y.term:=h;have J:=(Z _ x U).2;have X:=(Y _ y V).2;rw[show i-1+1=i by omega]at J X;rw[h]at J;exact J.trans X.symm
structure gX (c0:Ae) (F A G:List ah) (sn:bE) (l:List ah):Prop where
 fl:Fl c0 G sn l
 mg:Mg F G A
 is:G=F\/∃n,n<=eq A/\G=A.take n
theorem uz:∀(m:Nat) (l s:List ah),m<=eq l->m<=eq s->l.take m=s.take m->m<=kN l s
 |0,_,_,_,_,_=>aad _
 |m+1,[],_,h,_,_=>by simp at h
 |m+1,_::_,[],_,h,_=>by simp at h
 |m+1,a::l,b::s,J,N,O=>by
  simp_all[uz,kN]
section
variable {c0:Ae}{F A:List ah}
theorem gX.refl{sn l}(f:Fl c0 F sn l):gX c0 F A F sn l:=⟨f,Mg.refl F A,.inl rfl⟩
def gX.Ji{r s G}(f:Fl c0 F r.sn r.l)(h:gX c0 F A G s.sn s.l){sn l}(st:j9 r s sn l):∃B,gX c0 F A B sn l:=by
 rcases st with⟨N,U,k,k1,k2,k3⟩|⟨N,U,Y⟩
 ·subst U k3;have J:=h.fl;have aa:=J.le;have X:=J.len;rcases h.is with rfl|⟨n,n1,rfl⟩
  ·have O:s.l=r.l:=by rw[J.l,f.l,N]
   have e2:k=eq s.l:=by
    have:=uz (eq r.l) r.l s.l (aac _) (by rw[O];omega) (by rw[O]);rw[O]at k2⊢;omega
   grind
  refine⟨(A.take n).take (s.sn.idx+k),⟨⟨by rw[aal];omega,?_,?_,?_,J.ok.take _⟩,fun m hm=>?_,.inr ⟨min (s.sn.idx+k) n,qo,by rw[aaK]⟩⟩⟩
  ·rw[J.l,aa2 (i:=s.sn.idx) (j:=s.sn.idx+k)]
   simp
  ·rw[aaK,abk qo];exact J.tm
  ·rw[aaK,abk qo];exact J.vt
  have p:=h.mg m hm
  have V:m<=s.sn.idx+k:=by
   rcases aaz m s.sn.idx with Z|Z
   ·omega
   have:m-s.sn.idx<=kN r.l s.l:=by
    refine uz _ _ _ ?_ ?_ ?_
    ·have h6:=f.len;have:=p.1;rw[N]at h6;omega
    ·have:=p.2.1;omega
    rw[f.l,J.l,N,<-aa2,<-aa2,p.2.2]
   omega
  refine⟨p.1,by rw[aal];omega,?_⟩;rw[aaK,abk V];exact p.2.2
 subst U Y;exact⟨G,h⟩
theorem Fl.Jo{r:Rl}(f:Fl c0 F r.sn r.l)(lm:Lm F A)(O:kR A){j n}(hj:r.sn.idx<=j)(p:Pf j F A)(hn:j<=n)(Y:n<=eq A):
  ∃G,gX c0 F A G (r.Jo ((A.drop j).take (n-j)) n).1.sn (r.Jo ((A.drop j).take (n-j)) n).1.l/\(r.Jo ((A.drop j).take (n-j)) n).2=(n,true,0)/\Pf n A G:=by
 have key:∀(k i:Nat),j<=i->i+k=n->Pf i F A->∀b:Bool,(b=true\/i=eq F) ->
   ((RZ r.sn r.l ((A.drop i).take k) b).1=[]/\Pf n F A)\/(∃U,j<=U/\U<n/\Pf U F A/\¬Pf (U+1) F A/\(RZ r.sn r.l ((A.drop i).take k) b).1=(A.drop U).take (n-U)):=by
  intro k
  induction k with
  |zero=>
   intro i hi hk pi b _;obtain rfl:i=n:=qo
   exact .inl ⟨by simp[RZ],pi⟩
  |succ k ih=>
   intro i hi hk pi b hb;obtain⟨e,he⟩:∃e,A[i]?=some e:=⟨_,aai qo⟩
   have X:(A.drop i).take (k+1)=e::(A.drop (i+1)).take k:=by
    rw[aaI (by omega:i<eq A),abN]
    grind
   rw[X,tG];have N:=(O i e he).1
   by_cases J:(En.Ka r.sn r.l e.idx).2=false\/(En.Ka r.sn r.l e.idx).1≠e.term
   ·rw[aab J];refine .inr ⟨i,hi,qo,pi,fun q=>?_,?_⟩
    ·rw[N,f.Ka qo q.1]at J;rcases J with J|J
     ·cases J
     refine J ?_;rw[mX qo q.1];have:=q.get (show i<i+1 by omega)
     simp_all
    rw[<-X,show n-i=k+1 by omega]
   rw[aaa J];have J:=not_or.1 J;have V:(En.Ka r.sn r.l e.idx).2=true:=by simpa using J.1
   have Z:=aag.1 J.2;obtain⟨t1,t2,t3⟩:=f.TI (i:=e.idx) (t:=e.term) (Prod.ext Z V);rw[N]at t2 t3
   have pn:Pf (i+1) F A:=by
    refine lm _ t2 qo ?_
    grind[mX]
   grind
 have aa:=f.le;rcases key (n-j) j (aac _) qo p true (.inl rfl)with⟨V,Z⟩|⟨i,i1,i2,i3,i4,V⟩
 ·obtain⟨B,hB⟩:∃B,RZ r.sn r.l ((A.drop j).take (n-j)) true=([],B):=⟨_,Prod.ext V rfl⟩;rw[AS hB];exact⟨F,gX.refl f,I,Z.symm⟩
 obtain⟨e,he⟩:∃e,A[i]?=some e:=⟨_,aai qo⟩;have N:=(O i e he).1
 have X:(A.drop i).take (n-i)=e::(A.drop (i+1)).take (n-i-1):=by
  rw[aaI (by omega:i<eq A),show n-i=(n-i-1)+1 by omega,abN]
  grind
 obtain⟨B,hB⟩:∃B,RZ r.sn r.l ((A.drop j).take (n-j)) true=(e::(A.drop (i+1)).take (n-i-1),B):=⟨_,Prod.ext (by rw[V,X]) rfl⟩;rw[vI hB]
 have hG:r.l.take (e.idx-r.sn.idx-1)++(e::(A.drop (i+1)).take (n-i-1))=(A.take n).drop r.sn.idx:=by
  have e2:(F.drop r.sn.idx).take (i+1-r.sn.idx-1)=(A.take i).drop r.sn.idx:=by
   rw[<-i3.2.2,aa2]
   congr 1
   omega
  have e3:A.take n=A.take i++(A.drop i).take (n-i):=by
   rw[<-List.take_add]
   congr 1
   omega
  rw[<-X,f.l,N,e2,e3,abP (by rw[aal];omega)]
 refine⟨A.take n,⟨?_,fun m hm=>?_,.inr ⟨n,Y,I⟩⟩,I,⟨Y,by rw[aal];omega,by rw[aaK,abB]⟩⟩
 ·dsimp only;rw[hG];refine⟨by rw[aal];omega,rfl,?_,?_,O.take n⟩
  all_goals rw[aaK,abk qo]
  ·rw[f.tm,(i3.mono (show r.sn.idx<=i by omega)).2.2]
  rw[f.vt,(i3.mono (show r.sn.idx<=i by omega)).2.2]
 have ab:m<=i:=by
  rcases aaz i m with h|h
  ·exact absurd (hm.mono h) i4
  exact h
 refine⟨hm.1,by rw[aal];omega,?_⟩;rw[aaK,abk qo];exact hm.2.2
theorem Fl.merge{r:Rl}(f:Fl c0 F r.sn r.l)(V:Lm F A)(O:kR A)(X:Pf r.sn.idx F A){i k}(hi:i<=eq A):
  ∃G,gX c0 F A G (r.merge i (fL (A.take i)) ((A.drop i).take k)).1.sn (r.merge i (fL (A.take i)) ((A.drop i).take k)).1.l/\((r.merge i (fL (A.take i)) ((A.drop i).take k)).2.2.1=true->Pf (r.merge i (fL (A.take i)) ((A.drop i).take k)).2.1 A G):=by
 obtain⟨x,hx⟩:=a9 ((A.drop i).take k);have J:i+eq x<=eq A:=by grind
 have N:x=(A.drop i).take (i+eq x-i):=by
  simp_all
 rw[<-hx];have Y:∃G,gX c0 F A G r.sn r.l:=⟨F,gX.refl f⟩;have aa:=f.le;obtain⟨n,hn⟩:=a9 (i+eq x);rw[<-hn]at J N;unfold Rl.merge;rw[<-hn]
 split
 ·grind
 split
 ·rename_i h1
  split
  ·exact⟨F,gX.refl f,fun _=>(X.mono (show n<=r.sn.idx by omega)).symm⟩
  split
  ·grind
  unfold Rl.Kc;rw[f.Ka (aac _) f.le,aaa (by rw[<-f.tm];simp)]
  have e:x.drop (r.sn.idx-i)=(A.drop r.sn.idx).take (n-r.sn.idx):=by
   grind[List.drop_take,List.drop_drop]
  rw[e];obtain⟨G,Z,g2,g3⟩:=f.Jo V O (aac _) X (n:=n) qo J
  grind
 rename_i h1;unfold Rl.Kc
 split
 ·grind
 rename_i U;have U:=not_or.1 U;have h2:(En.Ka r.sn r.l i).2=true:=by simpa using U.1
 obtain⟨t1,t2,t3⟩:=f.TI (Prod.ext (aag.1 U.2) h2:En.Ka r.sn r.l i=(fL (A.take i),true));have p:=V i t2 hi t3;rw[N];obtain⟨G,Z,g2,g3⟩:=f.Jo V O t1 p (n:=n) qo J
 grind
theorem Fl.save{r:Rl}(f:Fl c0 F r.sn r.l){s}(hs:r.sn.idx<s.idx->s.idx<=eq F->s.term=fL (F.take s.idx)/\s.Jq=bU dy c0 (F.take s.idx)):Fl c0 F (r.save s).1.sn (r.save s).1.l:=by
 unfold Rl.save
 split
 ·exact f
 split
 ·exact f
 rename_i X J;obtain⟨_,_,N,_⟩:=tK (aag.1 X);have J:fj r.sn r.l s=true:=by simpa using J
 have O:=IQ J N;rw[f.len]at O;obtain⟨U,V⟩:=hs N O;exact f.snap (abg N) O U V
theorem Fl.install{r:Rl}(f:Fl c0 F r.sn r.l)(lm:Lm F A)(X:kR A){s}(O:s.idx<=eq A)(U:s.term=fL (A.take s.idx))(Y:s.Jq=bU dy c0 (A.take s.idx)):
  ∃G,gX c0 F A G (r.install s).1.sn (r.install s).1.l/\((r.install s).2=0->Pf s.idx A G):=by
 have has:fj r.sn r.l s=true->r.sn.idx<s.idx->Pf s.idx F A:=fun h J=>by
  unfold fj at h;rw[aaJ]at h;obtain⟨t1,t2,t3⟩:=f.TI (Prod.ext (of_decide_eq_true h.2) h.1:En.Ka r.sn r.l s.idx=(s.term,true));exact lm _ t2 O (by rw[t3,U])
 unfold Rl.install
 split
 ·exact⟨F,gX.refl f,fun h=>absurd h (by assumption)⟩
 rename_i Z;obtain⟨_,_,J,_⟩:=tK (aag.1 Z)
 split
 ·rename_i V;have p:=has V J;refine⟨F,gX.refl (f.save fun _ _=>⟨by rw[U,p.2.2],by rw[Y,p.2.2]⟩),fun _=>p.symm⟩
 rename_i V;refine⟨A.take s.idx,⟨Fl.other X O U Y,fun n hn=>?_,.inr ⟨s.idx,O,I⟩⟩,fun _=>⟨O,by rw[aal];omega,by rw[aaK,abB]⟩⟩
 have N:n<=s.idx:=by
  refine abq fun N=>V ?_;have p:=hn.mono (show s.idx<=n by omega);unfold fj;rw[f.Ka (abg J) p.1,p.2.2,<-U]
  simp
 refine⟨hn.1,by rw[aal];omega,?_⟩;rw[aaK,abk N];exact hn.2.2
def Fl.parts{sn l}(f:Fl c0 F sn l){i}(h:sn.idx<i):iK sn l i 8=(F.drop (i-1)).take 8:=by
 have hl:=f.len;unfold iK fA
 by_cases J:i<=sn.idx\/sn.idx+eq l<i
 ·rw[aab J,acN qo]
  rfl
 rw[aaa J];show(l.drop (i-sn.idx-1)).take 8=_;rw[f.l,aaP,show sn.idx+(i-sn.idx-1)=i-1 by omega]
theorem Fl.append{r:Rl}(f:Fl c0 F r.sn r.l){e}(h:e.idx=eq F+1):((r.append [e]).2≠0/\(r.append [e]).1=r)\/((r.append [e]).2=0/\(r.append [e]).1={r with l:=r.l++[e]}/\e.ok):=by
 unfold Rl.append
 split
 ·rename_i J;exact .inl ⟨J,I⟩
 rename_i J;exact .inr ⟨I,I,nW (aag.1 J) e Q8⟩
end
end
section
def cI(D E:Dk)(c:Int):Prop:=D.dead=false->E.dead=true->c=30
theorem cI.refl(D c):cI D D c:=fun h J=>by rw[h]at J;cases J
def cI.trans{D E F c d}(h:cI D E c)(J:c=0)(g:cI E F d):cI D F d:=fun a b=>by
 cases hE:E.dead with
 |false=>exact g hE b
 |true=>have:=h a hE;omega
theorem ti(D a n b):cI D (D.write a n b).1 (D.write a n b).2:=by
 unfold cI Dk.write
 grind
theorem tN(D a):cI D (D.sync a).1 (D.sync a).2:=by
 unfold cI Dk.sync
 grind
def rp(D a):cI D (D.free a).1 (D.free a).2:=by
 unfold cI Dk.free
 grind
theorem xB(S:cW)(a D v):cI D (S.save a D v).2.1 (S.save a D v).2.2:=by
 grind[ti,tN,cI,cW.save]
def HM(L:Lg)(D t v):cI D (L.Jc D t v).2.1 (L.Jc D t v).2.2:=by
 grind[xB,cI,Lg.Jc]
theorem yg:∀(f:Nat) (o:ji) (D:Dk),cI D (RY f o D).2.1 (RY f o D).2.2
 |0,o,D=>cI.refl D 0
 |f+1,o,D=>by
  have N:=ti D (aM o.num) o.full (UInt8.ofNat (min (eq o.rest) 63)::o.rest.take (min (eq o.rest) 63));unfold RY
  split
  ·exact N
  rename_i J;have J:=aag.1 (not_or.1 J).1
  split
  ·exact N.trans J<|cI.refl _ _
  exact N.trans J<|yg f _ _
theorem tg(W:Wl)(D):cI D (W.sync D).2 (W.sync D).1.code:=by
 grind[cI.refl,tN,Wl.sync]
theorem tn(W:Wl)(i D):cI D (W.begin i D).2 (W.begin i D).1.code:=by
 unfold Wl.begin
 split
 ·exact tg W D
 rename_i J;exact(tg W D).trans (aag.1 J) (yg _ _ _)
def CY(W b D):cI D (dJ W b D).2.1 (dJ W b D).2.2:=by
 unfold dJ
 split
 ·exact cI.refl _ _
 exact yg _ _ _
def AV(W:Wl)(b D):cI D (W.append b D).2.1 (W.append b D).2.2:=by
 unfold Wl.append
 repeat' split
 all_goals first
  |exact cI.refl _ _
  |exact CY _ _ _
  |exact tn W _ D
  |(rename_i J;exact(tn W _ D).trans (aag.1 J) (CY _ _ _))
def AH(W:Wl)(i D):cI D (W.truncate i D).2.1 (W.truncate i D).2.2:=by
 grind[cI.refl,tn,Wl.truncate]
theorem C0:∀(x:List ah) (L:Lg) (D:Dk),cI D (L.Rc x D).2.1 (L.Rc x D).2.2
 |[],L,D=>cI.refl _ _
 |e::r,L,D=>by
  unfold Lg.Rc
  split
  ·simp[AV]
  rename_i J;exact(AV L.w e.bytes D).trans (aag.1 J) (C0 r _ _)
def sX(L:Lg)(x D):cI D (L.append x D).2.1 (L.append x D).2.2:=by
 grind[cI.refl,C0,Lg.append]
def tj(L:Lg)(D):cI D (L.sync D).2.1 (L.sync D).2.2:=by
 grind[cI.refl,tg,Lg.sync]
def wl(L:Lg)(x n D):cI D (L.Ms x n D).2.1 (L.Ms x n D).2.2.2.2:=by
 unfold Lg.Ms
 split
 ·simp[sX]
 rename_i J;exact(sX L x D).trans (aag.1 J) (cI.refl _ _)
theorem IJ(L:Lg)(x n D):cI D (L.Jo x n D).2.1 (L.Jo x n D).2.2.2.2:=by
 unfold Lg.Jo
 split
 ·simp[wl]
 split
 ·split
  ·simp[AH]
  rename_i J;exact(AH L.w _ D).trans (aag.1 J) (wl _ _ _ _)
 simp[wl]
def J7(L:Lg)(i t x D):cI D (L.merge i t x D).2.1 (L.merge i t x D).2.2.2.2:=by
 grind[cI.refl,IJ,Lg.merge,Lg.Kc]
theorem yh(p):∀(f n:Nat) (b:Aa) (D:Dk),cI D (R7 p f n b D).1 (R7 p f n b D).2
 |0,_,_,D=>cI.refl _ _
 |f+1,n,b,D=>by
  unfold R7
  split
  ·exact cI.refl _ _
  split
  ·simp[ti]
  rename_i J;exact(ti D _ _ _).trans (aag.1 J) (yh p f _ _ _)
def t8(L:Lg)(s fr D):cI D (L.lay s fr D).2.1 (L.lay s fr D).2.2:=by
 unfold Lg.lay Lg.Sf Lg.Rq Lg.Sy
 split
 ·simp[yh]
 rename_i J;refine(yh _ _ _ _ D).trans (aag.1 J) ?_
 split
 ·exact tN _ _
 rename_i N;refine(tN _ _).trans (aag.1 N) ?_
 split
 ·simp[xB]
 rename_i O;exact(xB _ _ _ _).trans (aag.1 O) (rp _ _)
theorem wL(i):∀(f:Nat) (Jd:List (Nat×Nat)) (D:Dk),cI D (Kd i f Jd D).2.1 (Kd i f Jd D).2.2
 |0,_,D=>cI.refl _ _
 |f+1,Jd,D=>by
  unfold Go.En.Kd
  split
  ·split
   ·exact rp _ _
   rename_i J;exact(rp _ _).trans (aag.1 J) (wL i f _ _)
  simp[cI.refl]
def HO(W:Wl)(i D):cI D (W.Jh i D).2.1 (W.Jh i D).2.2:=by
 have O:cI D (W.Jf i D).2 (W.Jf i D).1.code:=by
  grind[tn,cI.refl,Wl.Jf]
 have N:cI D (W.Jb i D).2 (W.Jb i D).1.code:=by
  unfold Wl.Jb
  by_cases J:(W.Jf i D).1.code=0
  ·exact O.trans J<|tg _ _
  simp_all[Wl.sync]
 unfold Wl.Jh
 split
 ·exact cI.refl _ _
 split
 ·exact cI.refl _ _
 split
 ·exact cI.refl _ _
 split
 ·exact N
 rename_i J
 split
 ·exact N.trans (aag.1 J)<|wL _ _ _ _
 rename_i U;exact(N.trans (aag.1 J) (wL _ _ _ _)).trans (aag.1 U) (cI.refl _ _)
def CZ(L:Lg)(s D):cI D (L.save s D).2.1 (L.save s D).2.2:=by
 unfold Lg.save Lg.Si Lg.Sj
 split
 ·exact cI.refl _ _
 split
 ·exact cI.refl _ _
 split
 ·exact tj _ _
 rename_i J;refine(tj _ _).trans (aag.1 J) ?_
 split
 ·simp[t8]
 rename_i N;exact(t8 _ _ _ _).trans (aag.1 N) (HO _ _ _)
theorem sW:∀(l:Ae) (D:Dk),cI D (Kb l D).1 (Kb l D).2
 |[],D=>cI.refl _ _
 |a::r,D=>by
  unfold Kb
  split
  ·split
   ·rename_i J;exact(rp _ _).trans J (sW r _)
   exact rp _ _
  exact sW r D
def J6(W:Wl)(i D):cI D (W.reset i D).2.1 (W.reset i D).2.2:=by
 unfold Wl.reset
 split
 ·exact cI.refl _ _
 split
 ·exact cI.refl _ _
 split
 ·exact sW _ _
 rename_i J;exact(sW _ _).trans (aag.1 J) (cI.refl _ _)
def HN(L:Lg)(s D):cI D (L.install s D).2.1 (L.install s D).2.2:=by
 unfold Lg.install Lg.Se
 split
 ·exact cI.refl _ _
 split
 ·simp[CZ]
 split
 ·simp[t8]
 rename_i J;exact(t8 _ _ _ _).trans (aag.1 J) (J6 _ _ _)
end
section
def lV:gx:=⟨[],false⟩
def i8(s:gx)(p:Int):Option (Aa):=
 if s.R6=true then s.vs[(max p 0).toNat%eq s.vs]?
 else if(max p 0).toNat%(eq s.vs+1)=0 then none else s.vs[(max p 0).toNat%(eq s.vs+1)-1]?
def p9(s:gx)(ps:Ae):Prop:=0<eq ps/\(s.R6=false\/1<eq s.vs)
instance (s:gx) (ps:Ae):Decidable (p9 s ps):=by unfold p9;exact inferInstance
def jM(s:gx)(ps:Ae):Int:=if p9 s ps then ps.headD 0 else 0
def ik(s:gx)(ps:Ae):Ae:=if p9 s ps then ps.drop 1 else ps
def eJ(l:Ar):Ae->Ae->Ar->Int->Ar×Ae×Int
 |[],ps,m,room=>(m,ps,room)
 |n::r,ps,m,room=>
  match i8 ((aZ n l).getD lV) (jM ((aZ n l).getD lV) ps)with
  |some v=>eJ l r (ik ((aZ n l).getD lV) ps) (cj n ⟨[v],true⟩ m) room
  |none=>eJ l r (ik ((aZ n l).getD lV) ps) m (room+1)
def fh(D:Dk):Ae->Ae->List (Int×Ar)->Int->List (Int×Ar)×Int
 |[],_,m,room=>(m,room)
 |a::r,ps,m,room=>
  fh D r (eJ (D.ar a) (fb ((D.ar a).map (·.1))) ps [] room).2.1 (if eq (eJ (D.ar a) (fb ((D.ar a).map (·.1))) ps [] room).1=0 then m else cj a (eJ (D.ar a) (fb ((D.ar a).map (·.1))) ps [] room).1 m) (eJ (D.ar a) (fb ((D.ar a).map (·.1))) ps [] room).2.2
def Dk.Ke(D:Dk)(ps:Ae):Dk:=⟨(fh D (aU D) ps [] (max D.room 0)).2,0,(fh D (aU D) ps [] (max D.room 0)).1,-1,false⟩
def Ns{s}(h:s.vs≠[])(p):kF (some s) ((i8 s p).map fun v=>⟨[v],true⟩):=by
 have hl:0<eq s.vs:=abz.2 h;unfold kF i8;dsimp only
 by_cases hs:s.R6=true
 ·rw[aab hs];have J:(max p 0).toNat%eq s.vs<eq s.vs:=abR _ hl
  simp_all
 grind
theorem ue(l:Ar):∀(ns:Ae) (ps:Ae) (m:Ar) (room:Int),ns.Nodup->(∀n∈ns,aZ n m=none)->(∀n∈ns,∃s,aZ n l=some s/\s.vs≠[])->(m.map (·.1)).Nodup ->
  (∀n∈ns,kF (aZ n l) (aZ n (eJ l ns ps m room).1))/\(∀n,n∉ns->aZ n (eJ l ns ps m room).1=aZ n m)/\((eJ l ns ps m room).1.map (·.1)).Nodup/\room<=(eJ l ns ps m room).2.2/\(eJ l ns ps m room).2.2<=room+(eq ns:Int)/\(eJ l ns ps m room).2.2+(eq (eJ l ns ps m room).1:Int)=room+(eq m:Int)+(eq ns:Int)
 |[],ps,m,room,_,_,_,hm=>⟨Q8,fun _ _=>rfl,hm,aaD _,by simp[eJ],by simp[eJ]⟩
 |n::r,ps,m,room,hn,N,hl,hm=>by
  have hn:=aa9.1 hn;obtain⟨s,hs,hv⟩:=hl n Q8;have J:=Ns hv (jM ((aZ n l).getD lV) ps);have e:(aZ n l).getD lV=s:=by rw[hs];rfl
  unfold eJ;rw[e]at J⊢;cases hf:i8 s (jM s ps)with
  |some v=>
   rw[hf]at J;dsimp only;have O:eq (cj n (⟨[v],true⟩:gx) m)=eq m+1:=by rw[qM,N n Q8];rfl
   obtain⟨U,V,X,Y,Z,r6⟩:=ue l r (ik s ps) (cj n ⟨[v],true⟩ m) room hn.2 (fun j hj=>by rw[l8,aaa (fun e=>hn.1 (by rw[<-e];exact hj))];exact N j (by simp[hj])) (fun j hj=>hl j (by simp[hj])) (nG hm);refine⟨fun j hj=>?_,fun j hj=>?_,X,Y,by simp only[aas];omega,by grind⟩
   ·rcases aaB.1 hj with rfl|hj
    ·rw[V _ hn.1,l8,aab rfl,hs];exact J
    exact U j hj
   simp_all[l8]
  |none=>
   rw[hf]at J;dsimp only;obtain⟨U,V,X,Y,Z,r6⟩:=ue l r (ik s ps) m (room+1) hn.2 (fun j hj=>N j (by simp[hj])) (fun j hj=>hl j (by simp[hj])) hm
   grind
theorem yv{c}{D:Dk}(o:D.Ok c):∀(ks:Ae) (ps:Ae) (m:List (Int×Ar)) (room:Int),ks.Nodup->(∀a∈ks,aZ a m=none)->(m.map (·.1)).Nodup->(∀x∈m,x.2≠[]) ->
  (∀a∈ks,∀n,kF (D.sec a n) (aZ n ((aZ a (fh D ks ps m room).1).getD [])))/\(∀a,a∉ks->aZ a (fh D ks ps m room).1=aZ a m)/\((fh D ks ps m room).1.map (·.1)).Nodup/\(∀x∈(fh D ks ps m room).1,x.2≠[])/\room<=(fh D ks ps m room).2/\∀a∈(fh D ks ps m room).1.map (·.1),a∈ks\/a∈m.map (·.1)
 |[],ps,m,room,_,_,hm,hx=>⟨Q8,fun _ _=>rfl,hm,hx,aaD _,fun a ha=>.inr ha⟩
 |a::r,ps,m,room,hn,ag,hm,hx=>by
  have hn:=aa9.1 hn
  have aa:((D.ar a).map (·.1)).Nodup:=by
   unfold Dk.ar;cases hg:aZ a D.Iz with
   |none=>simp
   |some l=>exact(o.ns _ (gS hg)).1
  have ab:∀n∈fb ((D.ar a).map (·.1)),∃s,aZ n (D.ar a)=some s/\s.vs≠[]:=by
   intro n hn;have hn:=(dW _).mem_iff.1 hn;cases hg:aZ n (D.ar a)with
   |none=>exact absurd hn (gI.1 hg)
   |some s=>
    refine⟨s,I,?_⟩;have O:=gS hg;unfold Dk.ar at O;cases hg2:aZ a D.Iz with
    |none=>rw[hg2]at O;simp at O
    |some l=>rw[hg2]at O;exact(o.vs _ (gS hg2) _ O).1
  obtain⟨q1,q2,q3,q4,q5,q6⟩:=ue (D.ar a) (fb ((D.ar a).map (·.1))) ps [] room ((dW _).symm.nodup aa) (fun _ _=>rfl) ab Q8;unfold fh;generalize eJ (D.ar a) (fb ((D.ar a).map (·.1))) ps [] room=R at q1 q2 q3 q4 q5 q6;obtain⟨l,ad,V⟩:=R;dsimp only at q1 q2 q3 q4 q5 q6⊢;obtain⟨m',N⟩:=a9 (if eq l=0 then m else cj a l m);rw[<-N]
  have X:∀b,aZ b m'=if b=a/\l≠[]then some l else aZ b m:=by
   intro b;rw[N]
   by_cases h0:eq l=0
   all_goals simp_all[l8]
  have Y:(m'.map (·.1)).Nodup:=by
   grind[nG]
  have Z:∀x∈m',x.2≠[]:=by
   intro x J;rw[N]at J
   split at J
   ·exact hx x J
   rename_i h0;rcases iX J with rfl|O
   all_goals grind
  have ae:∀b∈m'.map (·.1),b=a\/b∈m.map (·.1):=by
   intro b hb;rw[N]at hb
   split at hb
   ·exact .inr hb
   obtain⟨x,J,rfl⟩:=aau.1 hb;rcases iX J with rfl|O
   all_goals grind
  obtain⟨r1,r2,r3,r4,r5,r6⟩:=yv o r ad m' V hn.2 (fun b hb=>by grind) Y Z;refine⟨fun b hb n=>?_,fun b hb=>?_,r3,r4,qo,fun b hb=>?_⟩
  ·rcases aaB.1 hb with rfl|hb
   ·rw[r2 _ hn.1,X]
    have hl:aZ n ((if b=b/\l≠[]then some l else aZ b m).getD [])=aZ n l:=by
     grind
    rw[hl]
    by_cases U:n∈fb ((D.ar b).map (·.1))
    ·exact q1 n U
    rw[q2 n U];have:aZ n (D.ar b)=none:=gI.2 (fun h=>U ((dW _).mem_iff.2 h));unfold Dk.sec;rw[this]
    rfl
   exact r1 b hb n
  all_goals grind
def Dh{c D}(o:aW c D)(ps):Cr D (D.Ke ps)/\0<=(D.Ke ps).room:=by
 obtain⟨V,X,Y,Z,r5,r6⟩:=yv o.ok (aU D) ps [] (max D.room 0) ((dW _).symm.nodup o.ok.keys) (fun _ _=>rfl) Q8 Q8
 have N:∀k∈(D.Ke ps).Iz.map (·.1),k∈D.Iz.map (·.1):=fun k N=>by
  rcases r6 k N with h|h
  ·exact(dW _).mem_iff.1 h
  simp at h
 refine⟨⟨I,I,fun a n=>?_,N,Y,fun a=>?_,fun k h=>(o.ar k (N k h)).1⟩,by show 0<=(fh D (aU D) ps [] (max D.room 0)).2;omega⟩
 ·by_cases J:a∈aU D
  ·exact V a J n
  have O:aZ a D.Iz=none:=gI.2 (fun h=>J ((dW _).mem_iff.2 h));have U:aZ a (D.Ke ps).Iz=none:=by rw[show(D.Ke ps).Iz=(fh D (aU D) ps [] (max D.room 0)).1 from rfl,X a J];rfl
  unfold Dk.sec Dk.ar;rw[O,U]
  rfl
 constructor
 ·intro J;cases hg:aZ a (D.Ke ps).Iz with
  |none=>exact absurd J (gI.1 hg)
  |some l=>
   have hne:=Z _ (gS hg);cases l with
   |nil=>exact absurd rfl hne
   |cons x l=>
    refine⟨x.1,x.2,?_⟩
    simp_all[Dk.sec,Dk.ar,aZ]
 rintro⟨n,x,h⟩;unfold Dk.sec Dk.ar at h;cases hg:aZ a (D.Ke ps).Iz with
 |none=>rw[hg]at h;simp[aZ]at h
 |some l=>exact aau.2 ⟨_,gS hg,rfl⟩
end
section
instance:DecidableEq bE:=fun a b=>decidable_of_iff (a.idx=b.idx/\a.term=b.term/\a.Jq=b.Jq/\a.data=b.data) (by cases a;cases b;simp)
def cH.same{vot0 M L D E S op}(o:cH vot0 M L D S op)(h:E.Iz=D.Iz):cH vot0 M L E S op:=by
 have hs:∀a,E.sec a=D.sec a:=fun a=>by
  unfold Dk.sec Dk.ar;rw[h]
 exact {
  code:=o.code
  Rh:=o.Rh
  Jd:=o.Jd
  Rf:=o.Rf.frame (fun n=>hs _) fun a J _=>by rw[<-h];exact J
  Sz:=o.Sz
  ops:=o.ops
  lt:=o.lt
  Sm:=o.Sm
  Sn:=o.Sn
  next:=o.next
  ok:=o.ok
  val:=o.val
  RG:=by rw[hs];exact o.RG
  RH:=by rw[hs];exact o.RH
  RJ:=o.RJ
  RL:=by rw[hs];exact o.RL
  RM:=by rw[hs];exact o.RM
  RD:=o.RD
  S9:=by rw[hs];exact o.S9
  Jj:=o.Jj}
def Dk.arm(D:Dk)(i:Int):Dk:=if D.dead=true then D else {D with left:=max i (-1)}
def Nr{vot0}(hv:(bG vot0).isSome=true){D}(h:D.Iz=[]):kf vot0 0 D [(0,-1)] (fun sn l=>sn=⟨0,0,vot0,[]⟩/\l=[]):=by
 have hs:∀a,D.sec a=fun _=>none:=fun a=>by
  funext n
  unfold Dk.sec Dk.ar;rw[h]
  rfl
 have hp:∀a f',Pk (D.sec a) f'->f'=fun _=>none:=fun a f' p=>by
  rw[hs a]at p
  funext n
  exact p n
 have e0:di (fun _=>none)=⟨0,[]⟩:=rfl;refine nk hv (fun f' p=>?_) fun f' p=>?_
 ·rw[hp 0 f' p,e0];exact⟨aac _,_,Q8,I⟩
 rw[hp 4 f' p,e0];exact⟨aac _,⟨0,0,vot0,[]⟩,0,0,aac _,.inl ⟨I,I,I,I⟩,fun h=>absurd I h,AO (aad _) (aad _) (aac _) (fun n hn=>by rw[h]at hn;simp at hn) ⟨rfl,rfl⟩⟩
end
section
def v3:Ae:=[0,1,2]
section
variable {M n:Nat}{L:Lg}{D:Dk}
def HI{r:Rl}{i t x}(h:¬((r.merge i t x).2.2.1=true/\(r.merge i t x).2.2.2=0)):(fQ i t x≠0)\/(i<r.sn.idx/\¬i+eq x<r.sn.idx/\((x.drop (r.sn.idx-i)).head?.map fun e=>decide (e.term<r.sn.term))=some true) \/
  (i<r.sn.idx/\¬i+eq x<r.sn.idx/\¬((x.drop (r.sn.idx-i)).head?.map fun e=>decide (e.term<r.sn.term))=some true/\((Ka r.sn r.l r.sn.idx).2=false\/(Ka r.sn r.l r.sn.idx).1≠r.sn.term))\/(¬i<r.sn.idx/\((Ka r.sn r.l i).2=false\/(Ka r.sn r.l i).1≠t)):=by
 have J:∀(y:List ah) (m:Nat),(r.Jo y m).2.2=(true,0):=fun y m=>by
  unfold Rl.Jo
  split<;>rfl
 unfold Rl.merge Rl.Kc at h
 grind
def HP(X:L.code=0){i t x}(h:¬((L.rl.merge i t x).2.2.1=true/\(L.rl.merge i t x).2.2.2=0)):(L.merge i t x D).1=L/\(L.merge i t x D).2.1=D:=by
 unfold Lg.merge Lg.Kc;rw[aaa (by rw[X];simp)];rcases HI h with h|⟨J,N,O⟩|⟨J,N,O,V⟩|⟨J,N⟩
 ·rw[aab h];simp
 all_goals by_cases U:fQ i t x≠0
 all_goals first
  |(rw[aab U];simp)
  |rw[aaa U]
 ·rw[aab (show i<L.sn.idx from J),aaa (show ¬i+eq x<L.sn.idx from N),aab (show((x.drop (L.sn.idx-i)).head?.map fun e=>decide (e.term<L.sn.term))=some true from O)]
  simp
 ·rw[aab (show i<L.sn.idx from J),aaa (show ¬i+eq x<L.sn.idx from N),aaa (show ¬((x.drop (L.sn.idx-i)).head?.map fun e=>decide (e.term<L.sn.term))=some true from O),aab (show(En.Ka L.sn L.l L.sn.idx).2=false\/(En.Ka L.sn L.l L.sn.idx).1≠L.sn.term from V)]
  simp
 rw[aaa (show ¬i<L.sn.idx from J),aab (show(En.Ka L.sn L.l i).2=false\/(En.Ka L.sn L.l i).1≠t from N)]
 simp
def Df(J:L.code=0)(s):L.fits s=L.rl.fits s:=by
 unfold Lg.fits Rl.fits;rw[aaa (by rw[J];simp)]
 rfl
end
section
variable {M c q z k u n:Nat}{R:Nd}{L:Lg}{D:Dk}
def NI.t2(o:NI c q z k R L D)(J:c<=900000000):L.sn.idx+eq L.l+8<eB:=M4 o J (aac 8)
end
end
section
def Sq(v0:Ae)(M n:Nat)(L:Lg)(D:Dk):Prop:=cC n D/\Cn M L/\∃S op,cH v0 M L D S op/\dT S op L.sn (fun l=>l=L.l)
def jl(r s:Rl)(sn:bE)(l:List ah):Prop:=(sn=r.sn/\l=r.l)\/j9 r s sn l
def Dq(v0:Ae)(M:Nat)(E:Dk)(A:List (Nat×Int))(P:bE->List ah->Prop):Prop:=E.dead=true/\kf v0 M E A P
theorem Sq.up{v0 M M' n m L D}(y:Sq v0 M n L D)(h:M<=M')(hm:m<=n):Sq v0 M' m L D:=let⟨a,c,S,op,o,p⟩:=y;⟨a.mono hm,c.up h,S,op,o.up h,p⟩
def j9.self(r s):j9 r s s.sn s.l:=by
 by_cases h:r.sn=s.sn
 ·exact .inl ⟨h,I,eq s.l,(yW _ _).2,aac _,Q8⟩
 exact .inr ⟨h,I,I⟩
section
variable {v0:Ae} (hv:(bG v0).isSome=true) {M n m:Nat}{L:Lg}{D:Dk}
theorem Sq.code(y:Sq v0 M n L D):L.code=0:=let⟨_,_,_,_,o,_⟩:=y;o.code
def Sq.TW(y:Sq v0 M n L D):L.sn.idx<=bX:=by
 obtain⟨_,_,_,_,o,_⟩:=y;rcases o.RD with⟨_,h,_⟩|⟨_,_,h,_⟩
 ·rw[h];simp
 exact h
include hv
theorem Sq.Jc(y:Sq v0 M (n+1) L D)(X:L.sn.idx+eq L.l<eB)(V:M+1<=2000000)(t v)(ht:t<=ac):
  (Sq v0 (M+1) n (L.Jc D t v).1 (L.Jc D t v).2.1/\(L.Jc D t v).1.rl=(L.rl.Jc t v).1/\(L.Jc D t v).2.2=(L.rl.Jc t v).2) \/
   ((L.Jc D t v).2.2=30/\Dq v0 (M+1) (L.Jc D t v).2.1 [(L.kt,L.kv),((L.rl.Jc t v).1.kt,(L.rl.Jc t v).1.kv)] (fun sn l=>sn=L.sn/\l=L.l)):=by
 obtain⟨J,N,S,op,o,p⟩:=y;obtain⟨Y,U,Z⟩:=Az L D t v;have O:=HM L D t v J.dead;rcases HG (n:=n) o hv N (by unfold c9;omega) qo (P:=fun sn l=>sn=L.sn/\l=L.l) (p.mono fun l hl=>⟨rfl,hl⟩) t v ht J with⟨h1,h2,h3,h4,S',op',h5,h6⟩|⟨h1,h2⟩
 ·exact .inl ⟨⟨h2,h4,S',op',h5,h6.mono fun l hl=>by rw[hl.2,U]⟩,h3,h1⟩
 exact .inr ⟨O h1,h1,h2⟩
theorem Sq.lay(y:Sq v0 M (n+20) L D)(hr:L.sn.idx+eq L.l+1<eB)(hM:M+1<=2000000)(e)(he:e.idx<=ac/\e.term<=ac):
  ((L.append [e] D).2.2≠0/\((L.append [e] D).1=L/\(L.append [e] D).2.1=D\/Dq v0 (M+1) (L.append [e] D).2.1 [(L.kt,L.kv)] (jl L.rl (L.rl.append [e]).1))) \/
  ((L.append [e] D).2.2=0/\(L.rl.append [e]).2=0 /\
   (((L.append [e] D).1.sync (L.append [e] D).2.1).2.2=0/\Sq v0 (M+1) n ((L.append [e] D).1.sync (L.append [e] D).2.1).1 ((L.append [e] D).1.sync (L.append [e] D).2.1).2.1/\((L.append [e] D).1.sync (L.append [e] D).2.1).1.rl=(L.rl.append [e]).1 \/
    ((L.append [e] D).1.sync (L.append [e] D).2.1).2.2=30/\Dq v0 (M+1) ((L.append [e] D).1.sync (L.append [e] D).2.1).2.1 [(L.kt,L.kv)] (jl L.rl (L.rl.append [e]).1))):=by
 have hc:=y.code;obtain⟨ha,cn,S,op,o,p⟩:=y;have hk:=sX L [e] D ha.dead;have hs:=wr L [e] D;rcases Jt (n:=n) o hv cn (A:=[(L.kt,L.kv)]) Q8 (P:=jl L.rl (L.rl.append [e]).1) (p.mono fun l hl=>.inl ⟨rfl,hl⟩) [e] (by simp only[abd];unfold c9;omega) (by simpa using hr) (by simpa using he) (fun sn l h=>.inr h) qo with⟨h1,h2,h3,h4,S',op',h5,h6⟩|⟨h1,h2⟩
 ·by_cases hf:fQ L.last (En.Ka L.sn L.l L.last).1 [e]=0
  ·have Z:(L.rl.append [e]).2=0:=by
    unfold Rl.append;rw[aaa (show ¬fQ (L.rl.sn.idx+eq L.rl.l) (En.Ka L.rl.sn L.rl.l (L.rl.sn.idx+eq L.rl.l)).1 [e]≠0 from fun h=>h hf)]
   refine .inr ⟨by rw[h1,Z],Z,?_⟩;have O:(L.append [e] D).1.l=(L.rl.append [e]).1.l:=congrArg Rl.l h3;have U:(L.append [e] D).1.sn=(L.rl.append [e]).1.sn:=congrArg Rl.sn h3;have V:=tj (L.append [e] D).1 (L.append [e] D).2.1 h2.dead;have hA:(L.kt,L.kv)=((L.append [e] D).1.kt,(L.append [e] D).1.kv):=by rw[hs.1,hs.2.1]
   have X:=CG (n:=n) h5 hv h4 (A:=[(L.kt,L.kv)]) (by rw[hA];simp) (P:=jl L.rl (L.rl.append [e]).1) h6 (.inr (by rw[U,O];exact j9.self _ _)) (by grind[c9]) (by rw[hs.2.2];omega) h2;rcases X with⟨J,N,g3,g4,S2,Y,g5,g6,g7⟩|⟨J,N⟩
   ·exact .inl ⟨J,⟨N,g4,S2,Y,g5,g7 trivial⟩,by rw[g3,h3]⟩
   exact .inr ⟨V J,J,N⟩
  grind[Lg.append]
 exact .inl ⟨by rw[hk h1];decide,.inr ⟨h1,h2⟩⟩
theorem Sq.merge(y:Sq v0 M (n+170) L D)(hr:L.sn.idx+eq L.l+8<eB)(hM:M+9<=2000000)(i t x)(hx:∀e∈x,e.idx<=ac/\e.term<=ac)(hl:eq x<=8):
  ((L.merge i t x D).2.2=(L.rl.merge i t x).2/\((L.rl.merge i t x).2.2.1=true/\(L.rl.merge i t x).2.2.2=0 /\
    (((L.merge i t x D).1.sync (L.merge i t x D).2.1).2.2=0/\Sq v0 (M+9) n ((L.merge i t x D).1.sync (L.merge i t x D).2.1).1 ((L.merge i t x D).1.sync (L.merge i t x D).2.1).2.1/\((L.merge i t x D).1.sync (L.merge i t x D).2.1).1.rl=(L.rl.merge i t x).1 \/
     ((L.merge i t x D).1.sync (L.merge i t x D).2.1).2.2=30/\Dq v0 (M+9) ((L.merge i t x D).1.sync (L.merge i t x D).2.1).2.1 [(L.kt,L.kv)] (jl L.rl (L.rl.merge i t x).1)) \/
   ¬((L.rl.merge i t x).2.2.1=true/\(L.rl.merge i t x).2.2.2=0)/\(L.merge i t x D).1=L/\(L.merge i t x D).2.1=D)) \/
  ((L.merge i t x D).2.2.2.2=30/\Dq v0 (M+9) (L.merge i t x D).2.1 [(L.kt,L.kv)] (jl L.rl (L.rl.merge i t x).1)):=by
 have hc:=y.code;obtain⟨Z,cn,S,op,o,p⟩:=y;have hk:=J7 L i t x D Z.dead;have hs:=B8 L i t x D;rcases(J8 (n:=n) o hv cn (A:=[(L.kt,L.kv)]) Q8 (P:=jl L.rl (L.rl.merge i t x).1) (p.mono fun l hl=>.inl ⟨rfl,hl⟩) (.inl ⟨rfl,rfl⟩) i t x (by unfold c9;omega) qo hx (fun sn l h=>.inr h) (Z.mono qo)).up (show M+1+eq x<=M+9 by omega) (aac n)with⟨h1,h2,h3,h4,S',op',h5,h6⟩|⟨h1,h2⟩
 ·refine .inl ⟨h1,?_⟩
  by_cases hg:(L.rl.merge i t x).2.2.1=true/\(L.rl.merge i t x).2.2.2=0
  ·refine .inl ⟨hg.1,hg.2,?_⟩;have O:(L.merge i t x D).1.l=(L.rl.merge i t x).1.l:=congrArg Rl.l h3;have U:(L.merge i t x D).1.sn=(L.rl.merge i t x).1.sn:=congrArg Rl.sn h3;have V:=tj (L.merge i t x D).1 (L.merge i t x D).2.1 h2.dead;have hA:(L.kt,L.kv)=((L.merge i t x D).1.kt,(L.merge i t x D).1.kv):=by rw[hs.1,hs.2.1]
   have X:=CG (n:=n) h5 hv h4 (A:=[(L.kt,L.kv)]) (by rw[hA];simp) (P:=jl L.rl (L.rl.merge i t x).1) h6 (.inr (by rw[U,O];exact j9.self _ _)) (by unfold c9;omega) (by rw[hs.2.2];omega) h2;rcases X with⟨J,N,g3,g4,S2,Y,g5,g6,g7⟩|⟨J,N⟩
   ·exact .inl ⟨J,⟨N,g4,S2,Y,g5,g7 trivial⟩,by rw[g3,h3]⟩
   exact .inr ⟨V J,J,N⟩
  exact .inr ⟨hg,HP hc hg⟩
 exact .inr ⟨hk h1,h1,h2⟩
theorem Sq.save(y:Sq v0 M (n+(m+11)) L D)(s)(hm:(eq s.data+63)/64<=m)(O:s.term<=ac)(hr:L.sn.idx+eq L.l<eB)(hM:M+2<=2000000):
  (Sq v0 (M+2) n (L.save s D).1 (L.save s D).2.1/\(L.save s D).1.rl=(L.rl.save s).1/\(L.save s D).2.2=(L.rl.save s).2)\/((L.save s D).2.2=30/\Dq v0 (M+2) (L.save s D).2.1 [(L.kt,L.kv)] (jl L.rl (L.rl.save s).1)):=by
 have hc:=y.code;have y1:Sq v0 (M+2) n L D:=y.up qo qo;obtain⟨X,Z,S,op,o,p⟩:=y;have hk:=CZ L s D X.dead;rcases CR (n:=n) o hv Z (A:=[(L.kt,L.kv)]) Q8 (P:=jl L.rl (L.rl.save s).1) (p.mono fun l hl=>.inl ⟨rfl,hl⟩) (.inl ⟨rfl,rfl⟩) s O hM hr (fun sn l h=>.inr h) (X.mono qo)with⟨J,N,h3,h4,Y,U,h5,h6,h7⟩|⟨J,N⟩
 ·refine .inl ⟨?_,h3,J⟩
  by_cases h0:(L.rl.save s).2=0
  ·exact⟨N,h4,Y,U,h5,h7 h0⟩
  have V:(L.save s D).1=L/\(L.save s D).2.1=D:=by
   unfold Rl.save at h0;unfold Lg.save;rw[Df hc]
   split at h0
   ·simp_all
   rename_i h;rw[aaa h]
   split at h0
   ·rename_i h';rw[aab (show fj L.sn L.l s=false from h')];simp
   omega
  rw[V.1,V.2];exact y1
 exact .inr ⟨hk J,J,N⟩
theorem Sq.install(y:Sq v0 M (n+(m+11)) L D)(s)(hm:(eq s.data+63)/64<=m)(N:s.term<=ac)(hr:L.sn.idx+eq L.l<eB)(Y:M+2<=2000000):
  (Sq v0 (M+2) n (L.install s D).1 (L.install s D).2.1/\(L.install s D).1.rl=(L.rl.install s).1/\(L.install s D).2.2=(L.rl.install s).2)\/((L.install s D).2.2=30/\Dq v0 (M+2) (L.install s D).2.1 [(L.kt,L.kv)] (jl L.rl (L.rl.install s).1)):=by
 have hc:=y.code;have y1:Sq v0 (M+2) n L D:=y.up qo qo;have ys:=y.save hv s hm N hr Y;obtain⟨Z,cn,S,op,o,p⟩:=y;have hk:=HN L s D Z.dead;rcases HR (n:=n) o hv cn (A:=[(L.kt,L.kv)]) Q8 (P:=jl L.rl (L.rl.install s).1) (p.mono fun l hl=>.inl ⟨rfl,hl⟩) (.inl ⟨rfl,rfl⟩) s N Y hr (fun sn l h=>.inr h) (Z.mono qo)with⟨O,U,h3,V,S',X,h5,h6,h7⟩|⟨O,U⟩
 ·refine .inl ⟨?_,h3,O⟩
  by_cases h0:(L.rl.install s).2=0
  ·exact⟨U,V,S',X,h5,h7 h0⟩
  unfold Rl.install at h0;have J:=U.dead;unfold Lg.install at J⊢;rw[Df hc]at J⊢
  split at h0
  ·rename_i h;rw[aab h];exact y1
  rename_i h;rw[aaa h]at J⊢
  split at h0
  ·rename_i h';rw[aab (show fj L.sn L.l s=true from h')]at J⊢;rcases ys with ys|⟨_,ys⟩
   ·exact ys.1
   have V:=ys.1;rw[J]at V;cases V
  omega
 exact .inr ⟨hk O,O,U⟩
theorem Sq.Sr(y:Sq v0 M n L D)(N:M<=2000000):kf v0 M D [(L.kt,L.kv)] (fun sn l=>sn=L.sn/\l=L.l):=by
 have U:=y.TW;have hT:=Ea;obtain⟨O,J,S,op,i,p⟩:=y;exact i.Sr hv J (fun _ _=>I) (P:=fun sn l=>sn=L.sn/\l=L.l) (i.RE (aac M) (by unfold c9;omega) qo (p.mono fun l hl=>⟨rfl,hl⟩) i.Rf) (A:=[(L.kt,L.kv)]) Q8
end
end
section
abbrev Gv:Type:=Gs ah
structure GG (v0:Ae) (g:Gv):Prop where
 d:Gd ah.term dy v0 g
 ok:∀T,g.E T->kR (g.LL T)
structure MG (v0:Ae) (g:Gv) (m:bg):Prop where
 asks:m.kind=1->g.Cd m.term m.Jl/\m.idx=eq (g.CL m.term m.Jl)/\m.lt=fL (g.CL m.term m.Jl)
 Sb:m.kind=2->m.Jj=true->g.Vt m.term m.Jl m.to
 app:m.kind=3->g.E m.term/\m.idx+eq m.Jg<=eq (g.LL m.term)/\m.lt=fL ((g.LL m.term).take m.idx)/\m.Jg=((g.LL m.term).drop m.idx).take (eq m.Jg)/\dC g m.term (g.LL m.term) m.Je/\m.Jn<=g.RN m.term
 Tv:m.kind=4->m.Jn<=g.RN m.term/\(m.Jj=true->g.Ak m.term m.idx m.Jl)/\∀k,0<k->k<=m.Jn->∀t c,g.RB m.term k t m.Jl c->t<=m.term
 chunk:m.kind=5->g.E m.term/\m.idx<=eq (g.LL m.term)/\m.lt=fL ((g.LL m.term).take m.idx)/\m.Jq=bU dy v0 ((g.LL m.term).take m.idx)/\dC g m.term (g.LL m.term) m.idx/\m.off=0/\m.whole=eq m.data/\eq m.data<=3
 no:m.kind≠6
structure pu (g:Gv) (kt n u:Nat) (p:Pr):Prop where
 mt:p.mt<=n
 nx:1<=p.nx/\p.nx<=n+1
 of:p.of=0
 ak:p.mt=0\/g.Ak kt p.mt u
 rn:p.rd<=g.RN kt
 rd:∀k,0<k->k<=p.rd->∀t c,g.RB kt k t u c->t<=kt
structure Vv (v0:Ae) (g:Gv) (R:Nd) (kt:Nat) (F:List ah):Prop where
 Je:dC g kt F R.Je
 Kf:R.role=1->g.Cd kt R.nd/\g.CL kt R.nd=F/\(∀u∈R.yes,g.Vt kt u R.nd)/\¬(g.E kt/\g.Ld kt=R.nd)
 lead:R.role=2->g.E kt/\g.Ld kt=R.nd/\g.LL kt=F/\g.RN kt=R.Jn/\∀m C,g.Ct kt m C->m<=R.Je
 pr:R.role=2->∀u:Nat,pu g kt (eq F) u (R.pr u)
 nz:R.role≠0->kt≠0
 ps:R.ps.data=[]
 out:∀m∈R.out,MG v0 g m
structure NW (v0:Ae) (g:Gv) (v:Int) (R:Nd) (L:Lg) (F:List ah):Prop where
 nd:R.nd=v
 dv:Dv ah.term g v L.kt L.kv F
 fl:Fl v0 F L.sn L.l
 vv:Vv v0 g R L.kt F
 sc:L.sn.idx<=R.Je
 sd:eq L.sn.data<=3
def dC.le{g:Gv}{t n F}(h:dC g t F n):n<=eq F:=by
 rcases h with rfl|⟨T,m,C,N,O,U,J⟩
 ·omega
 exact J.2.1
section
variable {v0:Ae}{g h:Gv}{v:Int}
def xc{n}{A X:List ah}(hn:n<=eq A):(A++X).take n=A.take n:=aa3 hn
theorem MG.gr{m}(x:MG v0 g m)(a:Gr v g h)(d:Gd ah.term dy v0 g):MG v0 h m where
 asks k:=by
  obtain⟨J,N,U⟩:=x.asks k;obtain⟨g1,g2⟩:=a.cl _ _ J;rw[g2];exact⟨g1,N,U⟩
 Sb k k':=a.vt _ _ _ (x.Sb k k')
 app k:=by
  obtain⟨J,N,U,h4,V,Y⟩:=x.app k;obtain⟨X,O,l2⟩:=a.ll _ J;refine⟨(a.e _ J).1,by rw[O,aaj];omega,by rw[O,xc qo];exact U,?_,?_,aat Y (a.rn _).1⟩
  ·grind
  rw[O];exact((V.gr a d).pf ((Cs (dC.le V)).app X))
 Tv k:=by
  obtain⟨J,N,U⟩:=x.Tv k;refine⟨aat J (a.rn _).1,fun hg=>a.ak _ _ _ (N hg),fun i hi Z t c hr=>U i hi Z t c ?_⟩;rw[a.rb _ _ qo]at hr;exact hr
 chunk k:=by
  obtain⟨J,N,U,h4,V,Y⟩:=x.chunk k;obtain⟨X,O,l2⟩:=a.ll _ J;refine⟨(a.e _ J).1,by rw[O,aaj];omega,by rw[O,xc N];exact U,by rw[O,xc N];exact h4,?_,Y⟩;rw[O];exact((V.gr a d).pf ((Cs N).app X))
 no:=x.no
def pu.gr{kt n u p}(x:pu g kt n u p)(a:Gr v g h){n'}(hn:n<=n'):pu h kt n' u p:=
 ⟨aat x.mt hn,⟨x.nx.1,by have:=x.nx.2;omega⟩,x.of,x.ak.imp id (a.ak _ _ _),aat x.rn (a.rn _).1,fun k O J t c N=>x.rd k O J t c (by rw[a.rb _ _ (aat J x.rn)]at N;exact N)⟩
def Vv.other{R kt F}(x:Vv v0 g R kt F)(a:Gr v g h)(d:Gd ah.term dy v0 g)(hv:R.nd≠v):Vv v0 h R kt F where
 Je:=x.Je.gr a d
 Kf hr:=by
  obtain⟨J,N,U,V⟩:=x.Kf hr;obtain⟨Z,g2⟩:=a.cl _ _ J;refine⟨Z,by rw[g2];exact N,fun u hu=>a.vt _ _ _ (U u hu),fun⟨O,e2⟩=>?_⟩;rcases a.e2 _ O with e|e
  ·exact V ⟨e,by rw[<-(a.e _ e).2];exact e2⟩
  omega
 lead hr:=by
  obtain⟨J,N,U,V,h5⟩:=x.lead hr;obtain⟨O,e2⟩:=a.e _ J;obtain⟨X,l1,l2⟩:=a.ll _ J;refine⟨O,qo,by rw[l1,l2 (by rw[N];exact hv),aaw];exact U,by rw[(a.rn _).2 (by rw[N];exact hv) J];exact V,fun m C Y=>?_⟩;rcases a.TA _ _ _ Y with Y|⟨_,Y⟩
  all_goals grind
 pr hr u:=(x.pr hr u).gr a (aac _)
 nz:=x.nz
 ps:=x.ps
 out m hm:=(x.out m hm).gr a d
theorem NW.other{u R L F}(x:NW v0 g u R L F)(a:Gr v g h)(d:Gd ah.term dy v0 g)(hv:u≠v):NW v0 h u R L F:=
 ⟨x.nd,x.dv.other a d hv,x.fl,x.vv.other a d (by rw[x.nd];exact hv),x.sc,x.sd⟩
def Vv.own{R kt F}(x:Vv v0 g R kt F)(a:Gr v g h)(d:Gd ah.term dy v0 g)(Z:R.role=1->h.E=g.E/\h.Ld=g.Ld)(hl:R.role=2->h.LL kt=F/\h.RN kt=R.Jn/\∀m C,h.Ct kt m C->m<=R.Je):Vv v0 h R kt F where
 Je:=x.Je.gr a d
 Kf hr:=by
  obtain⟨J,O,U,V⟩:=x.Kf hr;obtain⟨X,Y⟩:=a.cl _ _ J;obtain⟨N,e2⟩:=Z hr;exact⟨X,by rw[Y];exact O,fun u hu=>a.vt _ _ _ (U u hu),by rw[N,e2];exact V⟩
 lead hr:=by
  obtain⟨J,O,U,V,h5⟩:=x.lead hr;obtain⟨N,e2⟩:=a.e _ J
  grind
 pr hr u:=(x.pr hr u).gr a (aac _)
 nz:=x.nz
 ps:=x.ps
 out m hm:=(x.out m hm).gr a d
def Vv.r{R R':Nd}{kt}{F:List ah}(x:Vv v0 g R kt F)(Y:R'.out=R.out:=by rfl)(V:R'.nd=R.nd:=by rfl)(X:R'.Je=R.Je:=by rfl)(Z:R'.ps=R.ps:=by rfl)(J:R'.role=0\/(R'.role=R.role/\R'.yes=R.yes/\R'.Jn=R.Jn/\∀u,R'.pr u={R.pr u with ws:=(R'.pr u).ws}):=by exact .inr ⟨rfl,rfl,rfl,fun _=>rfl⟩):Vv v0 g R' kt F where
 Je:=by rw[X];exact x.Je
 Kf hr:=by
  rcases J with J|⟨J,N,O,U⟩
  ·omega
  rw[V,N];exact x.Kf qo
 lead hr:=by
  rcases J with J|⟨J,N,O,U⟩
  ·omega
  rw[V,X,O];exact x.lead qo
 pr hr u:=by
  rcases J with J|⟨J,N,O,U⟩
  ·omega
  have y:=x.pr qo u;rw[U u];exact⟨y.mt,y.nx,y.of,y.ak,y.rn,y.rd⟩
 nz hr:=by
  rcases J with J|⟨J,N,O,U⟩
  ·omega
  exact x.nz qo
 ps:=by rw[Z];exact x.ps
 out:=by rw[Y];exact x.out
def NW.r{R R' L F}(x:NW v0 g v R L F)(y:Vv v0 g R' L.kt F)(J:R'.nd=R.nd:=by rfl)(N:R.Je<=R'.Je:=by exact aac _):NW v0 g v R' L F:=
 ⟨by rw[J];exact x.nd,x.dv,x.fl,y,aat x.sc N,x.sd⟩
theorem Vv.Nl{R L F}(x:Vv v0 g R L.kt F){m}(hm:MG v0 g {m with Jl:=R.nd,term:=L.kt}):Vv v0 g (R.Nl L m) L.kt F where
 Je:=x.Je
 Kf:=x.Kf
 lead:=x.lead
 pr:=x.pr
 nz:=x.nz
 ps:=x.ps
 out y J:=by
  rcases aao.1 J with J|J
  ·exact x.out y J
  rw[aaC.1 J];exact hm
theorem NW.Nl{R L F}(x:NW v0 g v R L F){m}(hm:MG v0 g {m with Jl:=v,term:=L.kt}):NW v0 g v (R.Nl L m) L F:=x.r (x.vv.Nl (by rw[x.nd];exact hm))
def NW.TH{R L}{F:List ah}(x:NW v0 g v R L F)(u b):NW v0 g v (R.Jp u {R.p u with ws:=b}) L F:=by
 refine x.r (x.vv.r I I I I (.inr ⟨I,I,I,fun i=>?_⟩));show(if i=u.toNat then {R.p u with ws:=b}else R.pr i)={R.pr i with ws:=(if i=u.toNat then {R.p u with ws:=b}else R.pr i).ws}
 split
 ·rename_i hi;rw[hi];rfl
 rfl
def BS(R:Nd)(L u):(R.send L u).role=R.role/\(R.send L u).nd=R.nd/\(R.send L u).Je=R.Je/\(R.send L u).Jn=R.Jn:=by
 unfold Nd.send
 repeat' split
 all_goals exact⟨rfl,rfl,rfl,rfl⟩
theorem NW.send{R L F}(x:NW v0 g v R L F)(X:R.role=2)(u):NW v0 g v (R.send L u) L F:=by
 obtain⟨e,l1,J,l3,l4⟩:=x.vv.lead X;have p:=x.vv.pr X u.toNat;have O:=x.fl.le;have N:dC g L.kt (g.LL L.kt) R.Je:=by rw[J];exact x.vv.Je
 have Y:=x.vv.Je.le;unfold Nd.send
 split
 ·exact x
 split
 ·refine NW.Nl (R:=R.Jp u {R.p u with ws:=true}) (x.TH u true) ?_;have ab:(R.p u).of=0:=p.of;refine⟨fun h=>absurd h (by show ¬(5:Int)=1;decide),fun h=>absurd h (by show ¬(5:Int)=2;decide),fun h=>absurd h (by show ¬(5:Int)=3;decide),fun h=>absurd h Q8,fun _=>(⟨e,by rw[J];exact O,by rw[J];exact x.fl.tm,by rw[J];exact x.fl.vt,N.mono (aac _) x.sc,?_,?_,?_⟩),by show(5:Int)≠6;decide⟩
  ·grind
  ·show((eq L.sn.data:Nat):Int)=((eq ((L.sn.data.drop (R.p u).of.toNat).take 256):Nat):Int);have:=x.sd
   grind
  show eq ((L.sn.data.drop (R.p u).of.toNat).take 256)<=3;have:=x.sd
  grind
 rename_i aa;refine NW.Nl (R:=R.Jp u {R.p u with ws:=true}) (x.TH u true) ?_;have U:=p.nx;have V:L.sn.idx<(R.p u).nx:=qo
 have Z:(R.p u).nx<=eq F+1:=U.2;refine⟨fun h=>absurd h (by show ¬(3:Int)=1;decide),fun h=>absurd h (by show ¬(3:Int)=2;decide),fun _=>?_,fun h=>absurd h (by show ¬(3:Int)=4;decide),fun h=>absurd h Q8,by show(3:Int)≠6;decide⟩;show g.E L.kt/\(R.p u).nx-1+eq (iK L.sn L.l (R.p u).nx 8)<=eq (g.LL L.kt)/\(L.Ka ((R.p u).nx-1)).1=fL ((g.LL L.kt).take ((R.p u).nx-1))/\iK L.sn L.l (R.p u).nx 8=((g.LL L.kt).drop ((R.p u).nx-1)).take (eq (iK L.sn L.l (R.p u).nx 8))/\dC g L.kt (g.LL L.kt) R.Je/\R.Jn<=g.RN L.kt;rw[x.fl.parts V,J];refine⟨e,by grind,?_,?_,x.vv.Je,by rw[l3];exact aac _⟩
 ·show(En.Ka L.sn L.l ((R.p u).nx-1)).1=_;rw[x.fl.Ka qo qo]
 simp
theorem NW.Qd(b){L F}:∀(l:Ae) {R:Nd},NW v0 g v R L F->R.role=2->NW v0 g v (Nd.Qd b L l R) L F/\(Nd.Qd b L l R).role=2/\(Nd.Qd b L l R).Je=R.Je
 |[],R,x,N=>⟨x,N,rfl⟩
 |u::r,R,x,N=>by
  unfold Nd.Qd;obtain⟨R0,J⟩:=a9 (if b=true then R.Jp u {R.p u with ws:=false}else R);rw[<-J]
  have hs:NW v0 g v R0 L F/\R0.role=2/\R0.Je=R.Je:=by
   rw[J]
   split
   ·exact⟨x.TH u false,N,I⟩
   exact⟨x,N,I⟩
  obtain⟨O,Z,U,s4⟩:=BS R0 L u;obtain⟨V,X,Y⟩:=NW.Qd b r (hs.1.send hs.2.1 u) (by rw[O];exact hs.2.1);exact⟨V,X,by rw[Y,U,hs.2.2]⟩
theorem NW.tell{R L F}(x:NW v0 g v R L F)(G:GG v0 g)(O:R.role=2)(b):
  ∃h,Gr v g h/\GG v0 h/\NW v0 h v (R.tell L b) L F/\(R.tell L b).role=2/\(R.tell L b).Je=R.Je/\(b=true->h.RB L.kt (R.Jn+1)=g.Vt)/\h={g with RN:=h.RN,RB:=h.RB}:=by
 unfold Nd.tell;cases b with
 |false=>
  rw[aaa Q9];obtain⟨X,Y,Z⟩:=NW.Qd false (R.Rr L) x O;exact⟨g,Cw v g,G,X,Y,Z,(fun h=>by cases h),I⟩
 |true=>
  rw[aab rfl];obtain⟨e,l1,l2,l3,l4⟩:=x.vv.lead O;obtain⟨h,a,d,n1,n2,n3,N⟩:=G.d.round (v:=v) (T:=L.kt) (k:=R.Jn+1) e (by rw[l1];exact x.nd) qo;have hE:h.E=g.E:=by rw[N]
  have hL:h.LL=g.LL:=by rw[N]
  have V:h.Ld=g.Ld:=by rw[N]
  have U:h.Ct=g.Ct:=by rw[N]
  have dv:Dv ah.term h v L.kt L.kv F:=x.dv.gr a G.d (fun T n J=>.inl (by rw[N]at J;exact J)) (fun T c J=>.inl (by rw[N]at J;exact J)) (fun T J=>.inl (by rw[N]at J;exact J))
  have vv:Vv v0 h {R with Jn:=R.Jn+1} L.kt F:={
   Je:=x.vv.Je.gr a G.d
   Kf:=fun h1=>absurd (O.symm.trans h1) Q9
   lead:=fun _=>⟨by rw[hE];exact e,by rw[V];exact l1,by rw[hL];exact l2,n1,fun m C hc=>l4 m C (by rw[U]at hc;exact hc)⟩
   pr:=fun _ u=>(x.vv.pr O u).gr a (aac _)
   nz:=x.vv.nz
   ps:=x.vv.ps
   out:=fun m hm=>(x.vv.out m hm).gr a G.d}
  obtain⟨X,Y,Z⟩:=NW.Qd true (L:=L) (F:=F) (R.Rr L) (R:={R with Jn:=R.Jn+1}) ⟨x.nd,dv,x.fl,vv,x.sc,x.sd⟩ O;exact⟨h,a,⟨d,fun T eT=>by rw[hL];exact G.ok T (by rw[hE]at eT;exact eT)⟩,X,Y,Z,fun _=>n2,N⟩
end
end
section
theorem AL:∀(l:Ae) (last:Int),confOK last l->l.Nodup
 |[],_,_=>List.nodup_nil
 |v::r,last,h=>aa9.2 ⟨fun hm=>by have:=wT r v h.2.2 v hm;omega,AL r v h.2.2⟩
def gf.nodup{c}(h:gf c):c.Nodup:=AL c _ h.2
def Jw{c f}(hn:c.Nodup)(h0:c≠[]):Qr c (fun v=>iG c f<=f v):=by
 obtain⟨s,hs⟩:=a9 (fb (c.map fun v=>((f v:Nat):Int)));have hp:s.Perm (c.map fun v=>((f v:Nat):Int)):=by rw[hs];exact dW _
 have Z:s.Pairwise (· <= ·):=by rw[hs];exact nM _
 have hl:eq s=eq c:=by rw[hp.length_eq,aaM]
 have hc:=abz.2 h0;obtain⟨k,hk⟩:=a9 ((eq c-1)/2);have Y:k<eq s:=qo
 have hx:iG c f=s[k].toNat:=by
  grind[iG]
 refine⟨c.filter fun v=>decide (iG c f<=f v),hn.filter _,fun v hv=>?_,?_⟩
 ·simp_all
 have O:eq (c.filter fun v=>decide (iG c f<=f v))=s.countP fun y=>decide (s[k]<=y):=by
  rw[hp.countP_eq,List.countP_map,acp]
  congr 1
  refine List.filter_congr fun v _=>?_
  simp_all
 have U:(s.drop k).countP (fun y=>decide (s[k]<=y))=eq (s.drop k):=by
  rw[List.countP_eq_length];intro y hy;obtain⟨i,hi⟩:=abe.1 hy;rw[aa0]at hi;obtain⟨X,J⟩:=aav.1 hi;rw[decide_eq_true_iff,<-J];rcases aa7 i with rfl|N
  ·simp
  grind[List.pairwise_iff_getElem]
 have V:s.countP (fun y=>decide (s[k]<=y))=(s.take k).countP (fun y=>decide (s[k]<=y))+(s.drop k).countP (fun y=>decide (s[k]<=y)):=by
  rw[<-List.countP_append,aaE]
 rw[O,V,U,aar];omega
def DY{c yes}(hn:c.Nodup)(h:mD c yes=true):Qr c (fun v=>v∈yes):=by
 unfold mD at h;exact⟨c.filter fun v=>decide (v∈yes),hn.filter _,fun v hv=>⟨(abA.1 hv).1,of_decide_eq_true (abA.1 hv).2⟩,of_decide_eq_true h⟩
def NU{c n}:gC c (fb (c++[n])):=by
 have hp:=dW (c++[n]);refine⟨c++[n],fun v hv=>aao.2 (.inl hv),fun v hv=>hp.mem_iff.1 hv,?_⟩;rw[hp.length_eq,aaj,abd];omega
def NR{c n}(hn:c.Nodup)(h:n∈c):gC c (c.filter fun v=>decide (v≠n)):=by
 refine⟨c,fun v hv=>hv,fun v hv=>(abA.1 hv).1,?_⟩
 have J:eq c=eq (c.filter fun v=>decide (v≠n))+c.count n:=by
  rw[List.count_eq_countP,<-acp,List.length_eq_countP_add_countP (p:=fun v=>decide (v≠n))]
  grind
 grind
structure NX (v0:Ae) (M:Nat) (g:Gv) (v:Int) (R:Nd) (L:Lg) (D:Dk):Prop where
 nd:R.nd=v
 dead:D.dead=true
 hl:R.hl=true
 role:R.role=0
 out:R.out=[]
 ps:R.ps.data=[]
 Je:∃t F,dC g t F R.Je
 Sr:∃A P,kf v0 M D A P/\∀kt kv sn l,(kt,kv)∈A->P sn l->∃F,Dv ah.term g v kt kv F/\Fl v0 F sn l/\dC g kt F sn.idx/\eq sn.data<=3
theorem NX.gr{v0 M}{g h:Gv}{u v R L D}(x:NX v0 M g u R L D)(a:Gr v g h)(d:Gd ah.term dy v0 g)(hv:u≠v):NX v0 M h u R L D where
 nd:=x.nd
 dead:=x.dead
 hl:=x.hl
 role:=x.role
 out:=x.out
 ps:=x.ps
 Je:=let⟨t,F,c⟩:=x.Je;⟨t,F,c.gr a d⟩
 Sr:=by
  obtain⟨A,P,J,N⟩:=x.Sr;refine⟨A,P,J,fun kt kv sn l O U=>?_⟩;obtain⟨F,V,X,Y,Z⟩:=N kt kv sn l O U;exact⟨F,V.other a d hv,X,Y.gr a d,Z⟩
def Oc(v0:Ae)(M:Nat)(g:Gv)(v:Int)(R:Nd)(L:Lg)(D:Dk):Prop:=
 ∃h,Gr v g h/\GG v0 h/\((∃F,NW v0 h v R L F/\Sq v0 M 0 L D)\/NX v0 M h v R L D)
theorem NX.up{v0 M M' g v R L D}(x:NX v0 M g v R L D)(O:M<=M'):NX v0 M' g v R L D:=
 {x with Sr:=let⟨A,P,J,N⟩:=x.Sr;⟨A,P,J.up O,N⟩}
theorem Oc.up{v0 M M' g v R L D}(x:Oc v0 M g v R L D)(J:M<=M'):Oc v0 M' g v R L D:=by
 obtain⟨h,a,G,⟨F,y,s⟩|y⟩:=x
 ·exact⟨h,a,G,.inl ⟨F,y,s.up J (aac _)⟩⟩
 exact⟨h,a,G,.inr (y.up J)⟩
def Oc.pre{v0 M}{g h:Gv}{v R L D}(x:Oc v0 M h v R L D)(a:Gr v g h):Oc v0 M g v R L D:=let⟨k,b,G,y⟩:=x;⟨k,a.trans b,G,y⟩
section
variable {v0:Ae}{g:Gv}{v:Int}{R:Nd}{L:Lg}{D:Dk}{F:List ah}{M n c q z k:Nat}
def Oc.now(x:NW v0 g v R L F)(G:GG v0 g)(s:Sq v0 M n L D):Oc v0 M g v R L D:=⟨g,Cw v g,G,.inl ⟨F,x,s.up (aac _) (aad _)⟩⟩
abbrev Em:=@Oc.now
def GG.same{h:Gv}(G:GG v0 g)(d:Gd ah.term dy v0 h)(N:h.E=g.E)(O:h.LL=g.LL):GG v0 h:=⟨d,fun T J=>by rw[O];exact G.ok T (by rw[N]at J;exact J)⟩
def GL{R:Nd}{e}(h:e≠0):R.did e={R with hl:=true,out:=[],role:=0,lead:=-1}:=by unfold Nd.did;rw[aaa h]
theorem NW.did(x:NW v0 g v R L F)(e):NW v0 g v (R.did e) L F:=by
 unfold Nd.did
 split
 ·exact x
 exact x.r {Je:=x.vv.Je,Kf:=fun h=>(by cases h),lead:=fun h=>(by cases h),pr:=fun h=>(by cases h),nz:=fun h=>absurd I h,ps:=x.vv.ps,out:=fun m hm=>(by cases hm)}
def NW.Tg(x:NW v0 g v R L F)(G:GG v0 g){L' A}(N:Dq v0 M D A P)(R':Nd)(J:R'.nd=R.nd/\R'.Je=R.Je/\R'.ps.data=[])(O:∀kt kv sn l,(kt,kv)∈A->P sn l->∃F,Dv ah.term g v kt kv F/\Fl v0 F sn l/\dC g kt F sn.idx/\eq sn.data<=3):Oc v0 M g v (R'.did 30) L' D:=by
 refine⟨g,Cw v g,G,.inr ?_⟩;rw[GL Q9];exact⟨by show R'.nd=v;rw[J.1];exact x.nd,N.1,I,I,I,J.2.2,⟨L.kt,F,by show dC g L.kt F R'.Je;rw[J.2.1];exact x.vv.Je⟩,A,P,N.2,O⟩
theorem NW.Qb(x:NW v0 g v R L F)(u):NW v0 g v (R.Qb u) L F:=x.r (x.vv.r rfl rfl rfl rfl (.inl rfl))
theorem NW.RA(x:NW v0 g v R L F)(G:GG v0 g)(o:NI c q z k R L D)(Y:R.role=2):∃h,Gr v g h/\GG v0 h/\NW v0 h v (R.RA L) L F/\(R.RA L).role=2/\R.Je<=(R.RA L).Je:=by
 unfold Nd.RA;dsimp only;obtain⟨e,l1,Z,l3,l4⟩:=x.vv.lead Y;have X:gf L.cfg.1:=jB o.rn.lb o.cf L.last;have ab:=x.fl.len;have ag:L.last=eq F:=ab
 have aa:L.cfg.1=bU dy v0 F:=by
  have:=(x.fl.cfg (i:=eq F) x.fl.le (aac _)).1
  simp_all[Lg.cfg]
 obtain⟨f,hf⟩:∃f:Int->Nat,f=fun u=>if u=R.nd then L.last else(R.p u).mt:=⟨_,rfl⟩;rw[<-hf];have hq:=Jw (f:=f) X.nodup X.1
 have O:iG L.cfg.1 f<=eq F:=wu fun u hu=>by
  rw[hf];dsimp only
  split
  ·omega
  exact(x.vv.pr Y u.toNat).mt
 generalize iG L.cfg.1 f=N at hq O⊢
 split
 ·rename_i hc;obtain⟨c1,c2⟩:=hc
  have ad:eq (g.H L.kt)<N:=by
   have U:En.Ka L.sn L.l N=(fL (F.take N),true):=x.fl.Ka (by have:=x.sc;omega) O;have c2:(En.Ka L.sn L.l N).1=L.kt:=c2;rw[U,mX qo O]at c2;obtain⟨y,hy⟩:∃y,F[N-1]?=some y:=⟨_,aai qo⟩;rw[hy]at c2;have c2:y.term=L.kt:=c2;have J:=(G.d.SU (k:=N-1) (e:=y) e (by rw[Z];exact hy)).1;omega
  obtain⟨U,a1,d1,x1,k1,e1,e2,e3,e4,e5,e6,e7⟩:=G.d.SQ x.dv e (n:=eq F) (by rw[Z];exact Cs (aac _));have hH:U.H L.kt=g.H L.kt:=a1.hh G.d e
  have ak:Qr (bU dy v0 (U.LL L.kt)) (U.Ak L.kt N):=by
   rw[e3,Z,<-aa];obtain⟨Q,q1,q2,q3⟩:=hq;refine⟨Q,q1,fun u hu=>⟨(q2 u hu).1,?_⟩,q3⟩;have J:=(q2 u hu).2;have h3:=X.mem (q2 u hu).1;rw[hf]at J;dsimp only at J
   split at J
   ·rename_i an;rw[an,x.nd];exact k1 N O
   rcases(x.vv.pr Y u.toNat).ak with h4|h4
   ·have:(R.p u).mt=0:=h4;omega
   rw[show((u.toNat:Nat):Int)=u by omega]at h4;exact a1.ak _ _ _ (G.d.Tu _ _ _ _ h4 J)
  obtain⟨J,a2,d2,k2,k4,k3⟩:=d1.Tf (v:=v) (T:=L.kt) (n:=N) (by rw[e1];exact e) (by rw[e2,l1];exact x.nd) (by rw[hH];exact ad) (by rw[e3,Z];exact O) ak;have f1:J.E=U.E:=by rw[k3]
  have f2:J.LL=U.LL:=by rw[k3]
  have f3:J.Ld=U.Ld:=by rw[k3]
  have f4:J.RN=U.RN:=by rw[k3]
  have f5:J.Ak=U.Ak/\J.Vt=U.Vt/\J.Cd=U.Cd:=by rw[k3];simp
  have a:=a1.trans a2;have x2:Dv ah.term J v L.kt L.kv F:=x1.gr a2 d1 (fun T n V=>.inl (by rw[f5.1]at V;exact V)) (fun T b V=>.inl (by rw[f5.2.1]at V;exact V)) (fun T V=>.inl (by rw[f5.2.2]at V;exact V));have am:J.RN L.kt=R.Jn:=by rw[f4,e7];exact l3
  have ae:∀m C,J.Ct L.kt m C->m<=N:=fun m C hm=>by
   rcases k4 _ m C hm with h6|h6
   ·rw[e6]at h6;have:=l4 m C h6;omega
   omega
  refine⟨J,a,(G.same (h:=J) d2 (by rw[f1,e1]) (by rw[f2,e3])),(⟨x.nd,x2,x.fl,?_,by have:=x.sc;show L.sn.idx<=N;omega,x.sd⟩),Y,abg c1⟩
  exact {
   Je:=.inr ⟨L.kt,N,_,k2,aac _,aac _,by rw[f2,e3,Z];exact Cs O⟩
   Kf:=fun h=>absurd (Y.symm.trans h) Q9
   lead:=fun _=>⟨by rw[f1,e1];exact e,by rw[f3,e2];exact l1,by rw[f2,e3];exact Z,am,ae⟩
   pr:=fun _ u=>(x.vv.pr Y u).gr a (aac _)
   nz:=x.vv.nz
   ps:=x.vv.ps
   out:=fun m hm=>(x.vv.out m hm).gr a G.d}
 exact⟨g,Cw v g,G,x,Y,aac _⟩
end
end
section
section
variable {v0:Ae}{g:Gv}{v:Int}{R:Nd}{L:Lg}{D:Dk}{F:List ah}{M n c q z k:Nat}
def Ow(v0:Ae)(g:Gv)(v:Int)(R:Nd)(L:Lg)(F:List ah):Prop:=∃h,Gr v g h/\GG v0 h/\NW v0 h v R L F
theorem NW.RR(x:NW v0 g v R L F)(G:GG v0 g)(J:R.role=2):Ow v0 g v (R.RR L) L F/\((R.RR L).role=2\/(R.RR L).role=0):=by
 unfold Nd.RR
 split
 ·obtain⟨h,a,N,O,_⟩:=x.tell G J true;exact⟨⟨h,a,N,O.Qb _⟩,.inr I⟩
 exact⟨⟨g,Cw v g,G,x⟩,.inl J⟩
theorem NW.Qc(x:NW v0 g v R L F)(G:GG v0 g)(o:NI c q z k R L D)(U:R.role=2):Ow v0 g v (R.Qc L) L F/\((R.Qc L).role=2\/(R.Qc L).role=0):=by
 obtain⟨h,a,J,Y,V,_⟩:=x.RA G o U;obtain⟨⟨O,a2,N,Z⟩,X⟩:=Y.RR J V;exact⟨⟨O,a.trans a2,N,Z⟩,X⟩
theorem NW.Rq(x:NW v0 g v R L F)(G:GG v0 g)(o:NI c q z k R L D)(Y:R.role=2):Ow v0 g v (R.Rq L) L F:=by
 obtain⟨⟨h,a,J,N⟩,_⟩:=x.Qc G o Y;unfold Nd.Rq
 split
 ·rename_i V;obtain⟨X,U,O,Z,_⟩:=N.tell J V false;exact⟨X,a.trans U,O,Z⟩
 exact⟨h,a,J,N⟩
def NW.TU{h kt kv r s B}(G:GG v0 h)(x:Dv ah.term h v kt kv F)(f:Fl v0 F r.sn r.l)(m:gX v0 F (h.LL kt) B s.sn s.l)(e:h.E kt\/B=F)(V:dC h kt F r.sn.idx)(c2:dC h kt B s.sn.idx)(Z:eq r.sn.data<=3)(X:eq s.sn.data<=3){sn l}(p:jl r s sn l):
  ∃F,Dv ah.term h v kt kv F/\Fl v0 F sn l/\dC h kt F sn.idx/\eq sn.data<=3:=by
 have dv:∀{C:List ah} {sn:bE} {l:List ah},gX v0 F (h.LL kt) C sn l->(h.E kt\/C=F)->Dv ah.term h v kt kv C:=fun {C sn l} m e=>by
  rcases m.is with rfl|⟨i,i1,rfl⟩
  ·exact x
  rcases e with e|e
  ·refine x.merge G.d e m.mg ((G.d.hg kt e).pre ⟨by rw[aal];omega,i1,by rw[aaK,abB]⟩ (by rw[aal];omega)) fun y hy=>?_;obtain⟨j,hj⟩:=abe.1 (aaS hy);obtain⟨Y,U⟩:=G.d.SU e hj;omega
  rw[e];exact x
 rcases p with⟨rfl,rfl⟩|st
 ·exact⟨F,x,f,V,Z⟩
 rcases st with⟨N,J,k,Y,U,k3⟩|⟨N,J,h3⟩
 ·obtain⟨C,m2⟩:=gX.Ji f m (.inl ⟨N,J,k,Y,U,k3⟩);rcases e with e|e
  ·refine⟨C,dv m2 (.inl e),m2.fl,?_,by rw[J];exact X⟩;rw[J,<-N];exact V.merge G.d e m2.mg
  
  subst e;have O:s.l=r.l:=by rw[m.fl.l,f.l,N]
  have e2:k=eq s.l:=by
   have:=uz (eq r.l) r.l s.l (aac _) (by rw[O];omega) (by rw[O]);rw[O]at U⊢;omega
  grind
 rw[J,h3];exact⟨B,dv m e,m.fl,c2,X⟩
def rP{J:Lg}{r}(h:J.rl=r):J.kt=r.kt/\J.kv=r.kv/\J.sn=r.sn/\J.l=r.l:=by subst h;exact⟨I,I,I,I⟩
theorem NW.lay(hv:(bG v0).isSome=true)(x:NW v0 g v R L F)(G:GG v0 g)(s:Sq v0 M (n+20) L D)(o:NI c q z k R L D)(hc:c<=800000000)(hM:M+1<=2000000)(hr:R.role=2)(kind data)
  (rc:∀C,dy ⟨L.last+1,L.kt,kind,data⟩=some C->∃n,g.Ct L.kt n (bU dy v0 F)/\n<=eq F/\Nc dy F n (eq F)/\gC (bU dy v0 F) C):Oc v0 (M+1) g v (R.lay L D kind data).1 (R.lay L D kind data).2.1 (R.lay L D kind data).2.2.1:=by
 have O:L.last=eq F:=x.fl.len;obtain⟨e,he⟩:∃e:ah,e=⟨L.last+1,L.kt,kind,data⟩:=⟨_,rfl⟩;obtain⟨eE,l1,l2,l3,l4⟩:=x.vv.lead hr;have h1:=o.last qo
 have Z:e.idx<=ac/\e.term<=ac:=by
  rw[he];exact⟨by grind[de,ac],o.rn.lb.kt⟩
 have oa:=o.append e Z qo;have ob:=oa.sync;have J:e.idx=eq F+1:=by rw[he,<-O]
 have U:e.term=L.kt:=by rw[he]
 have sl:=s.lay hv (by have:=o.t2 qo;omega) hM e Z;have fa:=x.fl.append (r:=L.rl) J;have c1:dC g L.kt F L.sn.idx:=x.vv.Je.mono (aac _) x.sc;unfold Nd.lay;dsimp only;rw[<-he]at rc⊢
 have aa:∃h,Gr v g h/\GG v0 h/\Dv ah.term h v L.kt L.kv F/\(∀sn l,jl L.rl (L.rl.append [e]).1 sn l->∃F,Dv ah.term h v L.kt L.kv F/\Fl v0 F sn l/\dC h L.kt F sn.idx/\eq sn.data<=3) /\
   ((L.rl.append [e]).2=0->(L.rl.append [e]).1={L.rl with l:=L.rl.l++[e]}/\Fl v0 (F++[e]) L.sn (L.l++[e])/\Dv ah.term h v L.kt L.kv (F++[e])/\h.LL L.kt=F++[e]/\h.E=g.E/\h.Ld=g.Ld/\h.RN=g.RN/\h.Ct=g.Ct):=by
  rcases fa with⟨f1,f2⟩|⟨f1,f2,f3⟩
  ·refine⟨g,Cw v g,G,x.dv,fun sn l p=>?_,fun h=>absurd h f1⟩;rw[f2]at p;exact NW.TU G x.dv x.fl (gX.refl x.fl) (.inr I) c1 c1 x.sd x.sd p
  obtain⟨h,a,d,x2,x1,n1,n2,n3,n4,n5,n6,n7,n8,n9⟩:=G.d.Ug x.dv eE (by rw[l1];exact x.nd) l2 U rc;have N:Fl v0 (F++[e]) L.sn (L.l++[e]):=x.fl.snoc J f3
  have X:GG v0 h:=⟨d,fun T eT=>by
   by_cases hT:T=L.kt
   ·rw[hT,n1];exact N.ok
   rw[n9 T hT];exact G.ok T (by rw[n2]at eT;exact eT)⟩
  have cm:dC h L.kt F L.sn.idx:=c1.gr a G.d
  have mg:gX v0 F (h.LL L.kt) (F++[e]) L.sn (L.l++[e]):=by
   rw[n1];exact⟨N,fun m hm=>⟨hm.1,hm.2.1,(hm.2.2)⟩,.inr ⟨eq (F++[e]),aac _,by rw[aaG]⟩⟩
  refine⟨h,a,X,x1,fun sn l p=>?_,fun _=>⟨f2,N,x2,n1,n2,n3,n8,n6⟩⟩;rw[f2]at p;exact NW.TU (s:={L.rl with l:=L.rl.l++[e]}) X x1 x.fl mg (.inl (by rw[n2];exact eE)) cm (cm.pf ((Cs cm.le).app [e])) x.sd x.sd p
 obtain⟨h,a,X,x1,ps,ok⟩:=aa
 have xg:∀{D':Dk} {L':Lg},Dq v0 (M+1) D' [(L.kt,L.kv)] (jl L.rl (L.rl.append [e]).1)->Oc v0 (M+1) g v (R.did 30) L' D':=fun {D' L'} V=>by
  refine⟨h,a,X,.inr ?_⟩;rw[GL Q9]
  exact⟨x.nd,V.1,I,I,I,x.vv.ps,⟨L.kt,F,x.vv.Je.gr a G.d⟩,_,_,V.2,fun kt kv sn l hA hP=>by
   simp_all⟩
 rcases sl with⟨s1,s2⟩|⟨s1,s2,s3⟩
 ·rw[aab s1];rcases s2 with⟨e1,e2⟩|V
  ·rw[e1,e2];exact Em (x.did _) G (s.up (aaq M) (aac _))
  have hk:=sX L [e] D s.1.dead V.1;rw[hk];exact xg V
 rw[aaa (by rw[s1];simp)];obtain⟨k1,k2,k3,k4,k5,k6,k7,k8⟩:=ok s2;rcases s3 with⟨s4,s5,s6⟩|⟨s4,V⟩
 ·rw[aaa (by rw[s4];simp)];generalize (L.append [e] D).1.sync (L.append [e] D).2.1=B at s4 s5 s6 ob⊢;obtain⟨Y,D2,c2⟩:=B;dsimp only at s4 s5 s6 ob⊢;rw[k1]at s6;obtain⟨r1,r2,r3,r4⟩:=rP s6;have r1:Y.kt=L.kt:=r1;have r2:Y.kv=L.kv:=r2;have r3:Y.sn=L.sn:=r3;have r4:Y.l=L.l++[e]:=r4
  have hh:NW v0 h v R Y (F++[e]):=by
   refine⟨x.nd,by rw[r1,r2];exact k3,by rw[r3,r4];exact k2,?_,by rw[r3];exact x.sc,by rw[r3];exact x.sd⟩;rw[r1]
   exact {
    Je:=(x.vv.Je.gr a G.d).pf ((Cs x.vv.Je.le).app [e])
    Kf:=fun h=>absurd (hr.symm.trans h) Q9
    lead:=fun _=>⟨by rw[k5];exact eE,by rw[k6];exact l1,k4,by rw[k7];exact l3,fun m C hm=>l4 m C (by rw[k8]at hm;exact hm)⟩
    pr:=fun _ u=>(x.vv.pr hr u).gr a Q8
    nz:=x.vv.nz
    ps:=x.vv.ps
    out:=fun m hm=>(x.vv.out m hm).gr a G.d}
  obtain⟨h3,a3,G3,x3⟩:=hh.Rq X (ob.r (ob.rb)) hr;exact⟨h3,a.trans a3,G3,.inl ⟨_,x3,s5.up (aac _) (aad _)⟩⟩
 simp_all
end
end
section
def AR{r:Rl}{t v}(h:r.kt<=t)(hv : -1<=v/\v<=6):r.Jc t v=({r with kt:=t,kv:=v},0):=by
 simp_all[aaa,Rl.Jc]
section
variable {v0:Ae}{g:Gv}{v:Int}{R:Nd}{L:Lg}{D:Dk}{F:List ah}{M n c q z k:Nat}
def Fl.Tz(f:Fl v0 F L.sn L.l):L.cfg.1=bU dy v0 F/\Nc dy F L.cfg.2 (eq F):=by
 have h:=f.cfg (i:=eq F) f.le (aac _);rw[aaG]at h;have hl:L.last=eq F:=f.len
 simp_all[Lg.cfg]
theorem Fl.RO(f:Fl v0 F L.sn L.l):(L.Ka L.last).1=fL F:=by
 have hl:L.last=eq F:=f.len;show(En.Ka L.sn L.l L.last).1=_;rw[hl,f.Ka f.le (aac _),aaG]
def NW.Qh(hv:(bG v0).isSome=true)(x:NW v0 g v R L F)(G:GG v0 g)(s:Sq v0 M (n+1) L D)(o:NI c q z k R L D)(hc:c<=800000000)(Z:M+1<=2000000){t u}(ht:t<=ac)(U:L.kt<=t)(hu : -1<=u/\u<=6)(hd:L.kt<t\/(L.kt=t/\(L.kv = -1\/L.kv=u))):
  ((L.Jc D t u).2.2=0/\Sq v0 (M+1) n (L.Jc D t u).1 (L.Jc D t u).2.1/\(L.Jc D t u).1.kt=t/\(L.Jc D t u).1.kv=u/\(L.Jc D t u).1.sn=L.sn/\(L.Jc D t u).1.l=L.l) \/
   ((L.Jc D t u).2.2=30/\∀(R':Nd) (J:Lg),R'.nd=R.nd/\R'.Je=R.Je/\R'.ps.data=[]->Oc v0 (M+1) g v (R'.did 30) J (L.Jc D t u).2.1):=by
 have hr:=o.t2 qo;rcases s.Jc hv qo Z t u ht with⟨V,X,s3⟩|⟨V,X⟩
 ·simp_all[AR,rP]
 refine .inr ⟨V,fun R' J hR=>x.Tg G X R' hR fun kt kv sn l O hP=>?_⟩;rw[AR (r:=L.rl) U hu]at O;obtain⟨rfl,rfl⟩:=hP;have N:dC g L.kt F L.sn.idx:=x.vv.Je.mono (aac _) x.sc;rcases aaB.1 O with h|h
 ·cases h;exact⟨F,x.dv,x.fl,N,x.sd⟩
 have h:=aaC.1 h;have Y:kt=t:=congrArg Prod.fst h;have e2:kv=u:=congrArg Prod.snd h;subst Y e2;exact⟨F,x.dv.up hd,x.fl,N.mono U (aac _),x.sd⟩
theorem NW.Qa(hv:(bG v0).isSome=true)(x:NW v0 g v R L F)(G:GG v0 g)(s:Sq v0 M (n+20) L D)(o:NI c q z k R L D)(hc:c<=800000000)(hM:M+1<=2000000)(hr:R.role=1):Oc v0 (M+1) g v (R.Qa L D L.cfg.1).1 (R.Qa L D L.cfg.1).2.1 (R.Qa L D L.cfg.1).2.2.1:=by
 unfold Nd.Qa
 split
 ·exact Em x G<|s.up (aaq M) (aac _)
 rename_i Z;have Z:mD L.cfg.1 R.yes=true:=by simpa using Z
 obtain⟨c1,c2,c3,c4⟩:=x.vv.Kf hr;have V:gf L.cfg.1:=jB o.rn.lb o.cf L.last;have Y:L.last=eq F:=x.fl.len;rw[x.nd]at c1 c2 c3 c4;have w:g.T5 dy v0 L.kt v:=⟨c1,by rw[c2,<-x.fl.Tz.1];exact(DY V.nodup Z).imp fun u hu=>c3 u hu⟩;obtain⟨h,a,d,dv,e1,e2,e3,e4,e5,e6,e7,ne,rn,ll⟩:=G.d.leads x.dv w c2 c4;have G1:GG v0 h:=⟨d,fun T eT=>(ll T eT).elim (fun hT=>by rw[hT];exact x.fl.ok) fun⟨eg,hT⟩=>by rw[hT];exact G.ok T eg⟩;obtain⟨J,a2,d2,n1,n2⟩:=d.Uj (v:=v) (T:=L.kt) (k:=R.Jn) e1 e2 qo;have f1:J.E=h.E/\J.LL=h.LL/\J.Ld=h.Ld/\J.Ct=h.Ct/\J.Ak=h.Ak/\J.Vt=h.Vt/\J.Cd=h.Cd:=by grind
 obtain⟨f1,f2,f3,f4,f5,f6,f7⟩:=f1;have U:Dv ah.term J v L.kt L.kv F:=dv.gr a2 d (fun T n N=>.inl (by rw[f5]at N;exact N)) (fun T b N=>.inl (by rw[f6]at N;exact N)) (fun T N=>.inl (by rw[f7]at N;exact N));have G2:GG v0 J:=G1.same d2 f1 f2;have O:=a.trans a2
 have x2:NW v0 J v (R.up L) L F:=by
  refine⟨x.nd,U,x.fl,?_,x.sc,x.sd⟩
  exact {
   Je:=x.vv.Je.gr O G.d
   Kf:=fun h=>absurd h (by show ¬(2:Int)=1;decide)
   lead:=fun _=>⟨by rw[f1];exact e1,by rw[f3,e2];exact x.nd.symm,by rw[f2];exact e3,n1,fun m C hm=>by
    rw[f4,e7]at hm;exact absurd (G.d.ct _ _ _ hm).1 ne⟩
   pr:=fun _ u=>⟨aad _,⟨Nat.le_add_left 1 _,by show L.last+1<=_;omega⟩,rfl,.inl rfl,aad _,fun k N X=>absurd X (by show ¬k<=0;omega)⟩
   nz:=fun _=>x.vv.nz qo
   ps:=x.vv.ps
   out:=fun m hm=>(x.vv.out m hm).gr O G.d}
 exact(x2.lay hv G2 s (o.T0 qo) hc hM I 0 [] (fun C hC=>by cases hC)).pre O
theorem NW.asks:∀(l:Ae) {R:Nd},NW v0 g v R L F->R.role=1->NW v0 g v (Nd.asks L l R) L F/\(Nd.asks L l R).role=1
 |[],R,x,J=>⟨x,J⟩
 |u::r,R,x,J=>by
  unfold Nd.asks;obtain⟨N,c2,_⟩:=x.vv.Kf J;rw[x.nd]at N c2;have hl:L.last=eq F:=x.fl.len;refine NW.asks r (x.Nl ⟨fun _=>?_,fun h=>absurd h (by show ¬(1:Int)=2;decide),fun h=>absurd h (by show ¬(1:Int)=3;decide),fun h=>absurd h (by show ¬(1:Int)=4;decide),fun h=>absurd h Q8,by show(1:Int)≠6;decide⟩) J;show g.Cd L.kt v/\L.last=eq (g.CL L.kt v)/\(L.Ka L.last).1=fL (g.CL L.kt v);rw[c2];exact⟨N,hl,x.fl.RO⟩
theorem NW.Qi(hv:(bG v0).isSome=true)(x:NW v0 g v R L F)(G:GG v0 g)(s:Sq v0 M (n+21) L D)(o:NI c q z k R L D)(hc:c<=700000000)(hM:M+2<=2000000)(aa:L.kt<de):Oc v0 (M+2) g v (R.Qi L D L.cfg.1).1 (R.Qi L D L.cfg.1).2.1 (R.Qi L D L.cfg.1).2.2.1:=by
 have X:L.kt+1<=ac:=by unfold de at aa;unfold ac;omega
 have ad:=o.rb.nd;have hs:=x.Qh hv G (n:=n+20) s o qo qo (t:=L.kt+1) (u:=R.nd) X qo qo (.inl qo);have N:=o.Jc (L.kt+1) R.nd X;unfold Nd.Qi;dsimp only;rcases hs with⟨O,U,Z,h4,J,h6⟩|⟨O,U⟩
 ·rw[aaa (by rw[O];simp)]
  have V:L.cfg.1=(L.Jc D (L.kt+1) R.nd).1.cfg.1:=by
   unfold Lg.cfg Lg.last;rw[J,h6]
  rw[V];generalize L.Jc D (L.kt+1) R.nd=A at O U Z h4 J h6 N⊢;obtain⟨Y,D1,c1⟩:=A;dsimp only at O U Z h4 J h6 N⊢;have ab:v ≠ -1:=by rw[<-x.nd];omega
  obtain⟨h,a,d,dv,k1,k2,k3,k4,k5,k6,k7⟩:=G.d.TY x.dv (show L.kt<L.kt+1 by omega) ab;have G1:GG v0 h:=G.same d k4 k6
  have x1:NW v0 h v R.Kf Y F:=by
   refine⟨x.nd,by rw[Z,h4,x.nd];exact dv,by rw[J,h6];exact x.fl,?_,by rw[J];exact x.sc,by rw[J];exact x.sd⟩;rw[Z]
   exact {
    Je:=(x.vv.Je.gr a G.d).mono qo (aac _)
    Kf:=fun _=>⟨by show h.Cd _ R.nd;rw[x.nd];exact k1,by show h.CL _ R.nd=F;rw[x.nd];exact k2,fun u hu=>by
     have:u=v:=by rw[<-x.nd];exact aaC.1 hu
     show h.Vt _ u R.nd;rw[this,x.nd];exact k3,fun⟨e1,e2⟩=>by
     have e2:h.Ld (L.kt+1)=R.nd:=e2;rw[k4]at e1;rw[k5,x.nd]at e2;have:=(G.d.S0 _ e1).1;rw[e2]at this;have:=x.dv.cd _ this;omega⟩
    lead:=fun h=>absurd h (by show ¬(1:Int)=2;decide)
    pr:=fun h=>absurd h (by show ¬(1:Int)=2;decide)
    nz:=fun _=>by omega
    ps:=x.vv.ps
    out:=fun m hm=>(x.vv.out m hm).gr a G.d}
  obtain⟨y1,y2⟩:=NW.asks (R.Kf.Rr Y) x1 rfl;have ae:=nb R.Kf N.rn.lb N.cf;exact(y1.Qa hv G1 U (N.r ((Rb.asks Y (R.Kf.Rr Y) N.rb.Kf).up (j:=k+8) qo)) qo qo y2).pre a
 rw[aab qo,O];exact(U R _ ⟨I,I,x.vv.ps⟩).up (show M+1<=M+2 by omega)
theorem NW.tick(hv:(bG v0).isSome=true)(x:NW v0 g v R L F)(G:GG v0 g)(s:Sq v0 M (n+21) L D)(o:NI c q z k R L D)(V:c<=700000000)(U:M+2<=2000000)(dr):Oc v0 (M+2) g v (R.tick L D dr).1 (R.tick L D dr).2.1 (R.tick L D dr).2.2.1:=by
 have J:=s.up (show M<=M+2 by omega) (aac _);unfold Nd.tick
 split
 ·exact Em x G J
 split
 ·rename_i X;unfold Nd.Sw
  split
  ·have N:NW v0 g v {R with el:=0} L F:=x.r x.vv.r;obtain⟨h,a,O,Y,_⟩:=N.tell G X true;exact(Em Y O J).pre a
  exact Em (x.r x.vv.r:NW v0 g v {R with el:=R.el+1} L F) G J
 have N:NW v0 g v (R.Ro dr) L F:=x.r x.vv.r;unfold Nd.idle
 split
 ·exact Em N G J
 exact N.Qi hv G s (o.r<|o.rb.Ro dr) V U qo
theorem NW.raise(hv:(bG v0).isSome=true)(x:NW v0 g v R L F)(G:GG v0 g)(s:Sq v0 M (n+1) L D)(o:NI c q z k R L D)(hc:c<=700000000)(Z:M+1<=2000000){t}(ht:t<=ac)(V:L.kt<t):
  ((R.raise L D t).2.2.2=0/\NW v0 g v (R.raise L D t).1 (R.raise L D t).2.1 F/\Sq v0 (M+1) n (R.raise L D t).2.1 (R.raise L D t).2.2.1/\(R.raise L D t).2.1.kt=t)\/((R.raise L D t).2.2.2≠0/\Oc v0 (M+1) g v (R.raise L D t).1 (R.raise L D t).2.1 (R.raise L D t).2.2.1):=by
 unfold Nd.raise;dsimp only;rcases x.Qh hv G s o qo Z (t:=t) (u:=-1) ht qo qo (.inl V)with⟨J,N,O,X,U,Y⟩|⟨J,N⟩
 ·refine .inl ⟨J,?_,N,O⟩;rw[aab J];have y:Vv v0 g {R with role:=0,lead:=-1} L.kt F:=x.vv.r rfl rfl rfl rfl (.inl rfl);refine⟨x.nd,by rw[O,X];exact x.dv.up (.inl V),by rw[U,Y];exact x.fl,?_,by rw[U];exact x.sc,by rw[U];exact x.sd⟩;rw[O];exact {Je:=y.Je.mono qo (aac _),Kf:=fun h=>(by cases h),lead:=fun h=>(by cases h),pr:=fun h=>(by cases h),nz:=fun h=>absurd I h,ps:=y.ps,out:=y.out}
 refine .inr ⟨qo,?_⟩;rw[aaa qo,J];exact N R _ ⟨I,I,x.vv.ps⟩
theorem NW.Rx(x:NW v0 g v R L F)(m):NW v0 g v (R.Rx L m) L F:=by
 unfold Nd.Rx
 split
 ·exact x.Nl ⟨fun h=>absurd h (by show ¬(2:Int)=1;decide),fun _ h=>(by cases h),fun h=>absurd h (by show ¬(2:Int)=3;decide),fun h=>absurd h (by show ¬(2:Int)=4;decide),fun h=>absurd h (by show ¬(2:Int)=5;decide),Q8⟩
 split
 ·exact x.Nl ⟨fun h=>absurd h (by show ¬(4:Int)=1;decide),fun h=>absurd h (by show ¬(4:Int)=2;decide),fun h=>absurd h (by show ¬(4:Int)=3;decide),fun _=>⟨aad _,fun h=>(by cases h),fun i hi J=>absurd J (by show ¬i<=0;omega)⟩,fun h=>absurd h Q8,by show(4:Int)≠6;decide⟩
 exact x
theorem NW.asked(hv:(bG v0).isSome=true)(x:NW v0 g v R L F)(G:GG v0 g)(s:Sq v0 M (n+1) L D)(o:NI c q z k R L D)(hc:c<=700000000)(hM:M+1<=2000000){m}(hm:MG v0 g m)(hk:m.kind=1)(ht:m.term=L.kt)(hf:0<=m.Jl/\m.Jl<7):Oc v0 (M+1) g v (R.asked L D m).1 (R.asked L D m).2.1 (R.asked L D m).2.2.1:=by
 obtain⟨Z,c2,c3⟩:=hm.asks hk;rw[ht]at Z c2 c3;have hl:L.last=eq F:=x.fl.len;unfold Nd.asked;dsimp only;rw[x.fl.RO,hl,ht]
 by_cases hg:(i6 L.kt L.kv L.kt m.Jl (jp m.lt m.idx (fL F) (eq F))).2=true
 ·rw[aab hg]
  have Y:i6 L.kt L.kv L.kt m.Jl (jp m.lt m.idx (fL F) (eq F))=((L.kt,m.Jl),true)/\jp m.lt m.idx (fL F) (eq F)=true/\(L.kv = -1\/L.kv=m.Jl):=by
   unfold i6 at hg⊢
   grind
  obtain⟨g1,g2,g3⟩:=Y;rw[g1];dsimp only;have aa:=of_decide_eq_true g2;rcases x.Qh hv G s o qo hM (t:=L.kt) (u:=m.Jl) o.rn.lb.kt (aac _) qo (.inr ⟨rfl,g3⟩)with⟨J,N,U,V,O,X⟩|⟨J,N⟩
  ·rw[aaa (by rw[J];simp)];generalize L.Jc D L.kt m.Jl=A at J N U V O X⊢;obtain⟨L1,D1,e1⟩:=A;dsimp only at J N U V O X⊢
   obtain⟨h,a,d,dv,k1,k2,k3,k4,k5,k6,k7,k8,k9⟩:=G.d.Qe (x.dv.up (.inr ⟨rfl,g3⟩):Dv ah.term g v L.kt m.Jl F) Z qo (by
    grind)
   have G1:GG v0 h:=G.same d k2 k4
   have x1:NW v0 h v {R with el:=0,wt:=0} L1 F:=by
    refine⟨x.nd,by rw[U,V];exact dv,by rw[O,X];exact x.fl,?_,by rw[O];exact x.sc,by rw[O];exact x.sd⟩;rw[U]
    have y:Vv v0 h R L.kt F:=x.vv.own a G.d (fun _=>⟨k2,k3⟩) (fun hr=>by
     obtain⟨_,_,l2,l3,l4⟩:=x.vv.lead hr;exact⟨by rw[k4];exact l2,by rw[k9];exact l3,fun m C hm=>l4 m C (by rw[k7]at hm;exact hm)⟩)
    exact y.r
   refine(Em (x1.Nl ⟨fun h=>absurd h (by show ¬(2:Int)=1;decide),fun _ _=>?_,fun h=>absurd h (by show ¬(2:Int)=3;decide),fun h=>absurd h Q8,fun h=>absurd h (by show ¬(2:Int)=5;decide),by show(2:Int)≠6;decide⟩) G1 N).pre a
   simp_all
  rw[aab qo,J];exact N R _ ⟨I,I,x.vv.ps⟩
 rw[aaa hg];refine Em (x.Nl ⟨fun h=>absurd h (by show ¬(2:Int)=1;decide),fun _ h=>(by cases h),fun h=>absurd h (by show ¬(2:Int)=3;decide),fun h=>absurd h (by show ¬(2:Int)=4;decide),fun h=>absurd h (by show ¬(2:Int)=5;decide),Q8⟩) G (s.up (aaq M) (aac _))
theorem NW.Qe(hv:(bG v0).isSome=true)(x:NW v0 g v R L F)(G:GG v0 g)(s:Sq v0 M (n+20) L D)(o:NI c q z k R L D)(hc:c<=700000000)(X:M+1<=2000000){m}(hm:MG v0 g m)(Y:m.kind=2)(ht:m.term=L.kt)(N:m.to=R.nd):Oc v0 (M+1) g v (R.Qe L D m).1 (R.Qe L D m).2.1 (R.Qe L D m).2.2.1:=by
 unfold Nd.Qe
 split
 ·exact Em x G<|s.up (aaq M) (aac _)
 rename_i J;have J:=not_or.1 J;have O:R.role=1:=aag.1 J.1;have hg:m.Jj=true:=by simpa using J.2
 have vt:=hm.Sb Y hg;rw[ht,N]at vt;have ho:Rb z (k+1) {R with yes:=R.yes++[m.Jl]}:={o.rb.up (aaq k)with yes:=by have:=o.rb.yes;simp;omega};obtain⟨U,c2,c3,V⟩:=x.vv.Kf O
 have Z:NW v0 g v {R with yes:=R.yes++[m.Jl]} L F:=x.r {x.vv with
  Kf:=fun _=>⟨U,c2,fun u hu=>by
   grind,V⟩}
 exact Z.Qa hv G s (o.r ho) qo X O
end
end
section
section
variable {v0:Ae}{g:Gv}{v:Int}{R:Nd}{L:Lg}{D:Dk}{F:List ah}{M n c q z k:Nat}
def vo{m:bg}(G:GG v0 g)(dv:Dv ah.term g v L.kt L.kv F){i r gd to}(O:r<=g.RN L.kt)(J:gd=true->g.Ak L.kt i v):MG v0 g {bg.zero with kind:=4,Jl:=v,to:=to,term:=L.kt,Jj:=gd,idx:=i,Jn:=r}:=by
 refine⟨fun h=>absurd h (by show ¬(4:Int)=1;decide),fun h=>absurd h (by show ¬(4:Int)=2;decide),fun h=>absurd h (by show ¬(4:Int)=3;decide),fun _=>⟨O,J,fun j hj N t u hb=>?_⟩,fun h=>absurd h (by show ¬(4:Int)=5;decide),Q8⟩;rcases dv.vt t u (G.d.rb _ _ _ _ _ hb)with h|⟨h,_⟩
 all_goals grind
def NW.log{h:Gv}(x:NW v0 g v R L F)(a:Gr v g h)(d:Gd ah.term dy v0 g){R' L' B}(dv:Dv ah.term h v L'.kt L'.kv B)(fl:Fl v0 B L'.sn L'.l)(J:R'.role=0)(hn:R'.nd=R.nd)(ho:R'.out=R.out)(hp:R'.ps.data=[])(N:dC h L'.kt B R'.Je)(hs:L'.sn.idx<=R'.Je)(O:eq L'.sn.data<=3):NW v0 h v R' L' B:=
 ⟨by rw[hn];exact x.nd,dv,fl,{Je:=N,Kf:=fun h=>qo,lead:=fun h=>(by rw[J]at h;cases h),pr:=fun h=>(by rw[J]at h;cases h),nz:=fun h=>absurd J h,ps:=hp,out:=by rw[ho];exact fun m hm=>(x.vv.out m hm).gr a d},hs,O⟩
theorem NW.app(hv:(bG v0).isSome=true)(x:NW v0 g v R L F)(G:GG v0 g)(s:Sq v0 M (n+170) L D)(o:NI c q z k R L D)(hc:c<=700000000)(hM:M+9<=2000000){m}(hb:m.bd)(ho:m.ok)(hm:MG v0 g m)(hk:m.kind=3)(ht:m.term=L.kt):Oc v0 (M+9) g v (R.app L D m).1 (R.app L D m).2.1 (R.app L D m).2.2.1:=by
 have s9:=s.up (show M<=M+9 by omega) (aac _);obtain⟨e,h1,h2,h3,h4,h5⟩:=hm.app hk;rw[ht]at e h1 h2 h3 h4 h5;have ab:=rA ho hk;unfold Nd.app;dsimp only
 split
 ·exact Em x G s9
 have V:=x.Qb m.Jl;have ad:=fun y X=>(⟨(hb.Jg y X).1,(hb.Jg y X).2.1⟩:y.idx<=ac/\y.term<=ac);have c1:dC g L.kt F L.sn.idx:=x.vv.Je.mono (aac _) x.sc;have fm:=x.fl.merge (r:=L.rl) (A:=g.LL L.kt) (D7 x.dv.Jj (G.d.hg _ e)) (G.ok _ e) (c1.ll G.d e (aac _)) (i:=m.idx) (k:=eq m.Jg) qo;rw[<-h2,<-h3]at fm;obtain⟨B,mb,O⟩:=fm
 have aa:Dv ah.term g v L.kt L.kv B:=by
  rcases mb.is with rfl|⟨i,i1,rfl⟩
  ·exact x.dv
  refine x.dv.merge G.d e mb.mg ((G.d.hg _ e).pre ⟨by rw[aal];omega,i1,by rw[aaK,abB]⟩ (by rw[aal];omega)) fun y X=>?_;obtain⟨j,hj⟩:=abe.1 (aaS X);obtain⟨k1,k2⟩:=G.d.SU e hj;omega
 have J:(L.rl.merge m.idx m.lt m.Jg).1.sn=L.sn/\(L.rl.merge m.idx m.lt m.Jg).1.kt=L.kt/\(L.rl.merge m.idx m.lt m.Jg).1.kv=L.kv:=by
  unfold Rl.merge Rl.Kc Rl.Jo
  repeat' split
  all_goals exact⟨rfl,rfl,rfl⟩
 have xg:∀{D':Dk} {L':Lg},Dq v0 (M+9) D' [(L.kt,L.kv)] (jl L.rl (L.rl.merge m.idx m.lt m.Jg).1)->Oc v0 (M+9) g v ((R.Qb m.Jl).did 30) L' D':=fun {D' L'} dq=>
  V.Tg G dq (R.Qb m.Jl) ⟨rfl,rfl,x.vv.ps⟩ fun kt kv sn l hA hP=>by
   have:=aaC.1 hA;cases this;exact NW.TU G x.dv x.fl mb (.inl e) c1 (by rw[J.1];exact c1.merge G.d e mb.mg) x.sd (by rw[J.1];exact x.sd) hP
 have sm:=s.merge hv (o.t2 qo) hM m.idx m.lt m.Jg ad ab.2;rcases sm with⟨Y,⟨s2,Z,U⟩|⟨s2,Z,U⟩⟩|⟨Y,dq⟩
 ·have e1:(L.merge m.idx m.lt m.Jg D).2.2.1=(L.rl.merge m.idx m.lt m.Jg).2.1:=congrArg Prod.fst Y;have e2:(L.merge m.idx m.lt m.Jg D).2.2.2.1=true:=by grind
  have e3:(L.merge m.idx m.lt m.Jg D).2.2.2.2=0:=by grind
  rw[aaa qo,aaa (by rw[e3];simp),aaa (by rw[e2];simp),e1];have O:=O s2;generalize (L.rl.merge m.idx m.lt m.Jg).2.1=i at O⊢;rcases U with⟨s5,s6,s7⟩|⟨s5,dq⟩
  ·rw[aaa (by rw[s5];simp)];generalize (L.merge m.idx m.lt m.Jg D).1.sync (L.merge m.idx m.lt m.Jg D).2.1=A at s5 s6 s7⊢;obtain⟨L2,D2,c2⟩:=A;dsimp only at s5 s6 s7⊢;obtain⟨N,r2,r3,r4⟩:=rP s7;rw[J.2.1]at N;rw[J.2.2]at r2;obtain⟨h,a,d,dv,k1,k2,k3,k4,k5,k6,k7,k8⟩:=G.d.SQ aa e O;have G1:GG v0 h:=G.same d k2 k4;have cB:=x.vv.Je.merge G.d e mb.mg
   have cN:dC h L.kt B (max R.Je (min m.Je i)):=by
    rcases ab4 R.Je (min m.Je i)with hh|hh
    ·rw[ab5 hh];exact((h4.mono (aac _) (Nat.min_le_left _ _)).pf (O.mono (Nat.min_le_right _ _))).gr a G.d
    rw[acu hh];exact cB.gr a G.d
   have x1:NW v0 h v {R.Qb m.Jl with Je:=max R.Je (min m.Je i)} L2 B:=by
    refine x.log a G.d (by rw[N,r2];exact dv) (by rw[r3,r4];exact mb.fl) I I I x.vv.ps (by rw[N];exact cN) ?_ ?_
    ·rw[r3,J.1];have:=x.sc;show _<=max R.Je _;omega
    rw[r3,J.1];exact x.sd
   unfold Nd.RK;rw[aab rfl];refine(Em (x1.Nl (m:={bg.zero with kind:=4,to:=m.Jl,Jj:=true,idx:=i,Jn:=m.Jn}) ?_) G1 s6).pre a;exact vo (m:=m) G1 (by rw[N,r2];exact dv) (by rw[N,k8];exact h5) (fun _=>by rw[N];exact k1 i (aac _))
  grind
 ·generalize L.merge m.idx m.lt m.Jg D=A at Y Z U⊢;obtain⟨L2,D2,i,gd,c2⟩:=A;dsimp only at Y Z U⊢;subst Z U
  split
  ·exact Em V G s9
  split
  ·exact Em (V.did _) G s9
  split
  ·rename_i hg;unfold Nd.RK;refine Em (NW.Nl (R:={R.Qb m.Jl with Je:=if false=true then max R.Je (min m.Je i)else R.Je}) (V.r V.vv.r) (m:={bg.zero with kind:=4,to:=m.Jl,Jj:=false,idx:=i,Jn:=m.Jn}) (vo (m:=m) G x.dv h5 (fun h=>by cases h))) G s9
  grind
 grind
theorem NW.Np(x:NW v0 g v R L F)(G:GG v0 g)(o:NI c q z k R L D)(hc:c<=700000000){m}(hb:m.bd)(hm:MG v0 g m)(hk:m.kind=4)(ht:m.term=L.kt)(hf:0<=m.Jl/\m.Jl<7):Ow v0 g v (R.Np L m) L F:=by
 unfold Nd.Np
 split
 ·exact⟨g,Cw v g,G,x⟩
 rename_i J;have J:=aag.1 J;obtain⟨a1,a2,a3⟩:=hm.Tv hk;rw[ht]at a1 a2 a3;obtain⟨e,l1,l2,l3,l4⟩:=x.vv.lead J;have Y:L.last=eq F:=x.fl.len;have p:=x.vv.pr J m.Jl.toNat
 have hp:∀pr:Pr,pu g L.kt (eq F) m.Jl.toNat pr->NW v0 g v (R.Jp m.Jl pr) L F:=fun pr h=>x.r {x.vv with
  lead:=fun h=>x.vv.lead h
  pr:=fun _ u=>by
   show pu g L.kt (eq F) u (if u=m.Jl.toNat then pr else R.pr u)
   split
   ·rename_i hu;rw[hu];exact h
   exact x.vv.pr J u}
 have o1:=o.Rj qo m hb
 have h1:∃h,Gr v g h/\GG v0 h/\NW v0 h v (R.Rj L m) L F:=by
  unfold Nd.Rj;dsimp only;unfold Nd.p
  have rd:∀j,0<j->j<=max (R.pr m.Jl.toNat).rd (min m.Jn R.Jn)->∀t u,g.RB L.kt j t ((m.Jl.toNat:Nat):Int) u->t<=L.kt:=fun j hj aa t u hb=>by
   rcases aaz (R.pr m.Jl.toNat).rd j with h|h
   ·grind
   exact p.rd j hj h t u hb
  split
  ·rename_i hg;have U:=a2 hg;have O:=hp {R.pr m.Jl.toNat with ws:=false,rd:=max (R.pr m.Jl.toNat).rd (min m.Jn R.Jn),mt:=max (R.pr m.Jl.toNat).mt (min m.idx L.last),nx:=max (R.pr m.Jl.toNat).nx (max (R.pr m.Jl.toNat).mt (min m.idx L.last)+1)} ⟨by have:=p.mt;dsimp only;omega,by have:=p.nx;have:=p.mt;dsimp only;omega,p.of,?_,by have:=p.rn;dsimp only;omega,rd⟩
   ·obtain⟨⟨h,a,N,x2⟩,_⟩:=O.Qc (c:=c) (q:=q) (z:=z) (k:=k) (D:=D) G (by
     have Z:=o.rb.pr m.Jl.toNat;have hl:=o.last qo;have ab:=hb.Jn;unfold Pr.ok at Z;refine o.r (o.rb.Jp m.Jl (p:={R.pr m.Jl.toNat with ws:=false,rd:=max (R.pr m.Jl.toNat).rd (min m.Jn R.Jn),mt:=max (R.pr m.Jl.toNat).mt (min m.idx L.last),nx:=max (R.pr m.Jl.toNat).nx (max (R.pr m.Jl.toNat).mt (min m.idx L.last)+1)}) ?_)
     grind[Pr.ok]) J
    exact⟨h,a,N,x2⟩
   dsimp only;rcases ab4 (R.pr m.Jl.toNat).mt (min m.idx L.last)with X|X
   ·rw[ab5 X]
    right
    rw[show((m.Jl.toNat:Nat):Int)=m.Jl by omega];exact G.d.Tu _ _ _ _ U (Nat.min_le_left _ _)
   rw[acu X];exact p.ak
  refine⟨g,Cw v g,G,hp {R.pr m.Jl.toNat with ws:=false,rd:=max (R.pr m.Jl.toNat).rd (min m.Jn R.Jn),nx:=lf (R.pr m.Jl.toNat).nx (R.pr m.Jl.toNat).mt m.idx,of:=0} ⟨p.mt,?_,I,p.ak,by have:=p.rn;dsimp only;omega,rd⟩⟩;have:=p.nx;have:=p.mt
  grind[lf]
 obtain⟨h,a,N,O⟩:=h1;unfold Nd.SE
 split
 ·rename_i V;exact⟨h,a,N,O.send V.1 _⟩
 exact⟨h,a,N,O⟩
def A0{r:Rl}{s}(h:(r.install s).2≠0):(r.install s).1=r:=by
 unfold Rl.install Rl.save at h⊢
 grind
def IS(r:Rl)(s):(r.install s).1.kt=r.kt/\(r.install s).1.kv=r.kv/\((r.install s).1.sn=r.sn\/(r.install s).1.sn=s):=by
 unfold Rl.install Rl.save
 grind
theorem NW.chunk(hv:(bG v0).isSome=true)(x:NW v0 g v R L F)(G:GG v0 g)(s:Sq v0 M (n+12) L D)(o:NI c q z k R L D)(hc:c<=700000000)(hM:M+2<=2000000){m}(hb:m.bd)(hm:MG v0 g m)(hk:m.kind=5)(ht:m.term=L.kt):Oc v0 (M+2) g v (R.chunk L D m).1 (R.chunk L D m).2.1 (R.chunk L D m).2.2.1:=by
 have s2:=s.up (show M<=M+2 by omega) (aac _);obtain⟨e,h1,h2,h3,h4,h5,h6,h7⟩:=hm.chunk hk;rw[ht]at e h1 h2 h3 h4;have c1:dC g L.kt F L.sn.idx:=x.vv.Je.mono (aac _) x.sc;unfold Nd.chunk;dsimp only
 split
 ·exact Em x G s2
 have xf:=x.Qb m.Jl
 split
 ·rename_i hi;have pf:Pf m.idx (g.LL L.kt) F:=((x.vv.Je.mono (aac _) hi).ll G.d e (aac _)).symm;obtain⟨h,a,d,dv,k1,k2,k3,k4,k5,k6,k7,k8⟩:=G.d.SQ x.dv e pf;have G1:GG v0 h:=G.same d k2 k4;have x1:NW v0 h v (R.Qb m.Jl) L F:=x.log a G.d dv x.fl rfl rfl rfl x.vv.ps (x.vv.Je.gr a G.d) x.sc x.sd;exact(Em (x1.Nl (m:={bg.zero with kind:=4,to:=m.Jl,Jj:=true,idx:=m.idx}) (vo (m:=m) G1 dv (aad _) (fun _=>k1 _ (aac _)))) G1 s2).pre a
 rename_i hi
 have ag:((R.Qb m.Jl).piece m)={R.Qb m.Jl with pf:=m.Jl,ps:=⟨m.idx,m.lt,m.Jq,m.data⟩}:=by
  simp_all[xw,Nd.Qg]
 rw[ag,aaa (by simp_all)];unfold Nd.inst;dsimp only;obtain⟨O,N⟩:∃O:bE,O=⟨m.idx,m.lt,m.Jq,m.data⟩:=⟨_,rfl⟩;rw[<-N];have ae:eq O.data<=3:=by rw[N];exact h7
 have J:O.idx=m.idx:=by rw[N]
 obtain⟨B,mb,pb⟩:=x.fl.install (r:=L.rl) (A:=g.LL L.kt) (D7 x.dv.Jj (G.d.hg _ e)) (G.ok _ e) (s:=O) qo (by rw[N];exact h2) (by rw[N];exact h3)
 have ad:Dv ah.term g v L.kt L.kv B:=by
  rcases mb.is with rfl|⟨i,i1,rfl⟩
  ·exact x.dv
  refine x.dv.merge G.d e mb.mg ((G.d.hg _ e).pre ⟨by rw[aal];omega,i1,by rw[aaK,abB]⟩ (by rw[aal];omega)) fun y hy=>?_;obtain⟨j,hj⟩:=abe.1 (aaS hy);obtain⟨k1,k2⟩:=G.d.SU e hj;omega
 have cB:=c1.merge G.d e mb.mg;have V:=IS L.rl O
 have c2:dC g L.kt B (L.rl.install O).1.sn.idx/\eq (L.rl.install O).1.sn.data<=3:=by
  by_cases h0:(L.rl.install O).2=0
  ·rcases V.2.2 with h|h
   ·rw[h];exact⟨cB,x.sd⟩
   rw[h];exact⟨by rw[J];exact h4.pf (by rw[<-J];exact pb h0),ae⟩
  rw[A0 h0];exact⟨cB,x.sd⟩
 rcases s.install (m:=1) hv O qo (by rw[N];exact hb.lt) (by have:=o.t2 qo;omega) hM with⟨Z,s4,s5⟩|⟨Z,dq⟩
 ·obtain⟨X,r2,Y,r4⟩:=rP s4;rw[V.1]at X;rw[V.2.1]at r2;generalize L.install O D=A at Z s4 s5 X r2 Y r4⊢;obtain⟨L2,D2,e2⟩:=A;dsimp only at Z s4 s5 X r2 Y r4⊢
  have aa:e2≠0->NW v0 g v {R.Qb m.Jl with pf:=0,ps:=bE.zero} L2 B:=fun U=>by
   rw[s5]at U;have hr:=A0 U;refine x.log (Cw v g) G.d (by rw[X,r2];exact ad) (by rw[Y,r4];exact mb.fl) I I I I (by rw[X];exact x.vv.Je.merge G.d e mb.mg) ?_ (by rw[Y];exact c2.2);rw[Y,hr];exact x.sc
  split
  ·rename_i U;exact Em (aa qo) G Z
  split
  ·rename_i U;exact Em ((aa U).did _) G Z
  rename_i U;have U:=aag.1 U;rw[s5]at U;have ab:=pb U;rw[J]at ab;obtain⟨h,a,d,dv,k1,k2,k3,k4,k5,k6,k7,k8⟩:=G.d.SQ ad e ab;have G1:GG v0 h:=G.same d k2 k4
  have cN:dC h L.kt B (max R.Je m.idx):=by
   rw[ab5 qo];exact(h4.pf ab).gr a G.d
  have x1:NW v0 h v {R.Qb m.Jl with pf:=0,ps:=bE.zero,Je:=max R.Je m.idx} L2 B:=by
   refine x.log a G.d (by rw[X,r2];exact dv) (by rw[Y,r4];exact mb.fl) I I I I (by rw[X];exact cN) ?_ (by rw[Y];exact c2.2);rw[Y];show _<=max R.Je m.idx;rcases V.2.2 with h|h
   ·rw[h];have:=x.sc;show L.sn.idx<=_;omega
   rw[h,J];omega
  refine(Em (x1.Nl (m:={bg.zero with kind:=4,to:=m.Jl,Jj:=true,idx:=m.idx}) ?_) G1 Z).pre a;exact vo (m:=m) G1 (by rw[X,r2];exact dv) (aad _) (fun _=>by rw[X];exact k1 _ (aac _))
 rw[aaa (by rw[Z];decide),aab qo,Z]
 exact xf.Tg G dq {R.Qb m.Jl with pf:=0,ps:=bE.zero} ⟨I,I,I⟩ fun kt kv sn l hA hP=>by
  have:=aaC.1 hA;cases this;exact NW.TU G x.dv x.fl mb (.inl e) c1 c2.1 x.sd c2.2 hP
theorem NW.Qj(hv:(bG v0).isSome=true)(x:NW v0 g v R L F)(G:GG v0 g)(s:Sq v0 M (n+170) L D)(o:NI c q z k R L D)(Z:c<=499900000)(V:M+9<=2000000){m}(hb:m.bd)(ho:m.ok)(hm:MG v0 g m)(ht:m.term=L.kt)(J:m.to=R.nd):Oc v0 (M+9) g v (R.Qj L D m).1 (R.Qj L D m).2.1 (R.Qj L D m).2.2.1:=by
 have N:=lG ho;have O:=s.up (show M<=M+9 by omega) (aac _);unfold Nd.Qj
 split
 ·rename_i h;exact(x.asked hv G (s.up (n:=n+170) (m:=0+1) (aac M) qo) o qo qo hm h ht N).up qo
 split
 ·rename_i h;exact(x.Qe hv G (s.up (m:=0+20) (aac M) qo) o qo qo hm h ht J).up qo
 split
 ·rename_i h;exact x.app hv G s o qo V hb ho hm h ht
 split
 ·rename_i h;obtain⟨Y,a,U,X⟩:=x.Np G o qo hb hm h ht N;exact(Em X U O).pre a
 split
 ·rename_i h;exact(x.chunk hv G (s.up (m:=0+12) (aac M) qo) o qo qo hb hm h ht).up qo
 split
 ·rename_i h;exact absurd h hm.no
 exact Em x G O
theorem NW.take(hv:(bG v0).isSome=true)(x:NW v0 g v R L F)(G:GG v0 g)(s:Sq v0 M (n+171) L D)(o:NI c q z k R L D)(hc:c<=499800000)(hM:M+10<=2000000){m}(hb:m.bd)(hm:MG v0 g m):Oc v0 (M+10) g v (R.take L D m).1 (R.take L D m).2.1 (R.take L D m).2.2.1:=by
 have J:=s.up (show M<=M+10 by omega) (aac _);unfold Nd.take
 split
 ·exact Em x G J
 split
 ·exact Em x G J
 rename_i Z
 split
 ·exact Em x G J
 have ho:m.ok:=by
  simp_all[enc]
 have V:m.to=R.nd:=aag.1 fun hx=>Z (.inr (.inl hx));unfold Nd.Sk;dsimp only
 split
 ·rename_i U;rcases x.raise hv G (n:=n+170) s o qo qo hb.term U with⟨N,O,X,Y⟩|⟨N,O⟩
  ·have oa:=o.raise m.term hb.term;rw[aaa (by rw[N];simp)];unfold Nd.Ru;rw[aaa qo]
   exact O.Qj hv G X oa qo qo hb ho hm Y.symm (by
    grind[nd])
  rw[aab N];exact O.up (show M+1<=M+10 by omega)
 unfold Nd.Ru
 split
 ·exact Em (x.Rx m) G J
 exact(x.Qj hv G (s.up (m:=0+170) (aac M) qo) o qo qo hb ho hm qo V).up qo
end
end
section
section
variable {v0:Ae}{g:Gv}{v:Int}{R:Nd}{L:Lg}{D:Dk}{F:List ah}{M n c q z k:Nat}
theorem NW.Jk(hv:(bG v0).isSome=true)(x:NW v0 g v R L F)(G:GG v0 g)(s:Sq v0 M (n+20) L D)(o:NI c q z k R L D)(U:c<=800000000)(O:M+1<=2000000)(b):Oc v0 (M+1) g v (R.Jk L D b).1 (R.Jk L D b).2.1 (R.Jk L D b).2.2.1:=by
 have J:=s.up (show M<=M+1 by omega) (aac _);unfold Nd.Jk
 split
 ·exact Em x G J
 rename_i hl
 split
 ·exact Em x G J
 exact x.lay hv G s o U O (sY<|aag.1 hl) 1 b (fun C N=>by simp[dy]at N)
theorem NW.settled(x:NW v0 g v R L F)(G:GG v0 g)(hr:R.role=2)(hs:R.settled L=true)(ha:L.cfg.2<=R.Je):∃n,g.Ct L.kt n (bU dy v0 F)/\n<=eq F/\Nc dy F n (eq F):=by
 obtain⟨e,l1,l2,l3,l4⟩:=x.vv.lead hr;have V:=x.vv.nz qo;have O:=x.vv.Je.le;have J:(En.Ka L.sn L.l R.Je).1=L.kt:=of_decide_eq_true hs;rw[x.fl.Ka x.sc O]at J;have J:fL (F.take R.Je)=L.kt:=J
 have hne:R.Je≠0:=fun h0=>by
  rw[h0]at J;exact V J.symm
 rw[mX hne O]at J;obtain⟨y,hy⟩:∃y,F[R.Je-1]?=some y:=⟨_,aai qo⟩;rw[hy]at J;have J:y.term=L.kt:=J;rcases x.vv.Je with h0|⟨T,m,C,Z,h2,h3,h4⟩
 ·omega
 obtain⟨eT,hH,_,i,i1,i2,i3⟩:=G.d.ct T m C Z;have Y:(g.LL T)[R.Je-1]?=some y:=by rw[h4.get qo];exact hy
 obtain⟨j1,j2⟩:=G.d.SU eT Y
 have U:T=L.kt:=by
  omega
 subst U;rw[l2]at i2 i3;have nc:Nc dy F m (eq F):=fun j w hj N X=>x.fl.Tz.2 j w qo N X;refine⟨m,?_,qo,nc⟩
 have:bU dy v0 F=C:=by
  rw[i3,<-rv (cf:=dy) (c0:=v0) (F:=F) (p:=i) (q:=eq F) i2 (fun j w hj N X=>nc j w qo N X),aaG]
 rw[this];exact Z
theorem NW.change(hv:(bG v0).isSome=true)(x:NW v0 g v R L F)(G:GG v0 g)(s:Sq v0 M (n+20) L D)(o:NI c q z k R L D)(hc:c<=800000000)(hM:M+1<=2000000)(add u):Oc v0 (M+1) g v (R.change L D add u).1 (R.change L D add u).2.1 (R.change L D add u).2.2.1:=by
 have s1:=s.up (show M<=M+1 by omega) (aac _);have Y:gf L.cfg.1:=jB o.rn.lb o.cf L.last;have aa:L.last=eq F:=x.fl.len;unfold Nd.change;dsimp only
 split
 ·exact Em x G s1
 rename_i hl;have U:=sY (aag.1 hl)
 split
 ·exact Em x G s1
 rename_i hb;have hb:=not_or.1 hb;obtain⟨m,m1,m2,m3⟩:=x.settled G U (by simpa using hb.1) qo;obtain⟨r,O⟩:=a9 ((if add=true then jF L.cfg.1 u else ku L.cfg.1 u));rw[<-O]
 split
 ·exact Em x G s1
 rename_i J;have J:=aag.1 J
 have SD:gC (bU dy v0 F) r.1:=by
  rw[<-x.fl.Tz.1];rw[O]at J⊢
  split at J
  ·rename_i X;rw[aab X];unfold jF at J⊢
   split at J
   ·cases J
   rename_i V;rw[aaa V]
   split at J
   all_goals simp_all[NU]
  rename_i X;rw[aaa X];unfold ku at J⊢
  split at J
  ·cases J
  rename_i V;rw[aaa V]
  split at J
  ·cases J
  rename_i h2;rw[aaa h2];exact NR Y.nodup (aag.1 (not_or.1 h2).1)
 have rc:∀C,dy ⟨L.last+1,L.kt,2,ob (bG r.1)⟩=some C->∃n,g.Ct L.kt n (bU dy v0 F)/\n<=eq F/\Nc dy F n (eq F)/\gC (bU dy v0 F) C:=fun C N=>by
  have N:fB (ob (bG r.1))=some C:=by simpa[dy]using N
  have ad:C=r.1:=by
   cases hpc:bG r.1 with
   |none=>
    simp_all[ob,fB]
   |some b=>
    obtain⟨d,hd⟩:=AU (l:=r.1) (by rw[hpc];rfl);rw[hd]at N;have:=A1 hd;have N:fB [d]=some C:=N
    simp_all
  grind
 split
 ·have x1:NW v0 g v (R.Jp u (Pr.new (L.last+1))) L F:=x.r {x.vv with
   lead:=fun h=>x.vv.lead h
   pr:=fun _ i=>by
    show pu g L.kt (eq F) i (if i=u.toNat then Pr.new (L.last+1)else R.pr i)
    split
    ·exact⟨aad _,⟨Nat.le_add_left 1 _,by show L.last+1<=_;omega⟩,rfl,.inl rfl,aad _,fun k hk Z=>absurd Z (by show ¬k<=0;omega)⟩
    exact x.vv.pr U i}
  have ab:=o.last qo;exact x1.lay hv G s (o.r (o.rb.Jp u (p:=Pr.new (L.last+1)) ⟨by unfold de;exact(by decide:0+1<=2^62),ab,by show 0<=ac;omega,aaD 0,by show(0:Int)<=2097152;omega⟩)) hc hM U 2 _ rc
 exact x.lay hv G s o hc hM U 2 _ rc
def MN(r:Rl)(s):(r.save s).1.kt=r.kt/\(r.save s).1.kv=r.kv/\((r.save s).1.sn=r.sn\/(r.save s).1.sn=s):=by
 unfold Rl.save
 grind
theorem NW.save(hv:(bG v0).isSome=true)(x:NW v0 g v R L F)(G:GG v0 g)(s:Sq v0 M (n+12) L D)(o:NI c q z k R L D)(hc:c<=800000000)(hM:M+2<=2000000)(i data)(hd:eq data<=3):Oc v0 (M+2) g v (R.save L D i data).1 (R.save L D i data).2.1 (R.save L D i data).2.2.1:=by
 have s2:=s.up (show M<=M+2 by omega) (aac _);have c1:dC g L.kt F L.sn.idx:=x.vv.Je.mono (aac _) x.sc;unfold Nd.save
 split
 ·exact Em x G s2
 split
 ·exact Em x G s2
 rename_i hi;have hi:=not_or.1 hi;dsimp only;obtain⟨J,N⟩:∃J:bE,J=⟨i,(L.Ka i).1,(ei L.sn L.l i).1,data⟩:=⟨_,rfl⟩;rw[<-N];have V:J.idx=i:=by rw[N]
 have aa:eq J.data<=3:=by rw[N];exact hd
 have fl:=x.fl.save (r:=L.rl) (s:=J) fun h1 h2=>by
  rw[V]at h1 h2⊢;rw[N];exact⟨by show(En.Ka L.sn L.l i).1=_;rw[x.fl.Ka (abg h1) h2],(x.fl.cfg (abg h1) h2).1⟩
 obtain⟨q1,q2,q3⟩:=MN L.rl J
 have O:(L.rl.save J).1.sn.idx<=R.Je/\eq (L.rl.save J).1.sn.data<=3:=by
  rcases q3 with h|h
  ·rw[h];exact⟨x.sc,x.sd⟩
  rw[h];omega
 rcases s.save (m:=1) hv J qo (by rw[N];exact L.RX o.rn.lb _) (by have:=o.t2 qo;omega) hM with⟨U,s4,s5⟩|⟨U,dq⟩
 ·obtain⟨X,Z,Y,r4⟩:=rP s4;rw[q1]at X;rw[q2]at Z;generalize L.save J D=A at U s4 s5 X Z Y r4⊢;obtain⟨L2,D2,e2⟩:=A;dsimp only at U s4 s5 X Z Y r4⊢;have x1:NW v0 g v R L2 F:=⟨x.nd,by rw[X,Z];exact x.dv,by rw[Y,r4];exact fl,by rw[X];exact x.vv,by rw[Y];exact O.1,by rw[Y];exact O.2⟩
  split
  ·exact Em x1 G U
  exact Em (x1.did _) G U
 rw[aaa qo,U]
 exact x.Tg G dq R ⟨I,I,x.vv.ps⟩ fun kt kv sn l hA hP=>by
  have:=aaC.1 hA;cases this;exact NW.TU G x.dv x.fl (gX.refl (sn:=(L.rl.save J).1.sn) (l:=(L.rl.save J).1.l) fl) (.inr I) c1 (x.vv.Je.mono (aac _) O.1) x.sd O.2 hP
def NW.told(x:NW v0 g v R L F):NW v0 g v {R with out:=[]} L F:=x.r {x.vv with out:=fun m hm=>(by cases hm)}
def Nf(h:R.hl=true)(dr):R.tick L D dr=(R,L,D,202):=by unfold Nd.tick;rw[aab h]
def Ng(h:R.hl=true)(m):R.take L D m=(R,L,D,202):=by unfold Nd.take;rw[aab h]
def tQ(h:R.hl=true):R.leads=202:=by unfold Nd.leads;rw[aab h]
def IT(h:R.hl=true)(b):R.Jk L D b=(R,L,D,0,0,202):=by simp_all[tQ,Nd.Jk]
def Ko(h:R.hl=true)(a u):R.change L D a u=(R,L,D,0,0,202):=by simp_all[tQ,Nd.change]
def Nj(h:R.hl=true):R.read L=(R,0,0,202):=by simp_all[tQ,Nd.read]
def Nh(h:R.hl=true)(i b):R.save L D i b=(R,L,D,202):=by unfold Nd.save;rw[aab h]
def NW.Tr{L2}(dv:Dv ah.term g v L2.kt L2.kv F)(fl:Fl v0 F L2.sn L2.l)(J:dC g L2.kt F L2.sn.idx)(N:eq L2.sn.data<=3):NW v0 g v (Nd.new v L2) L2 F:=
 ⟨rfl,dv,fl,{Je:=J,Kf:=fun h=>(by cases h),lead:=fun h=>(by cases h),pr:=fun h=>(by cases h),nz:=fun h=>absurd rfl h,ps:=rfl,out:=fun m hm=>(by cases hm)},aac _,N⟩
def Ti{D'}(hv:(bG v0).isSome=true)(Y:M<=2000000)(x:(∃F,NW v0 g v R L F/\Sq v0 M 0 L D)\/NX v0 M g v R L D)(c:Cr D D')(hr:0<=D'.room):
  ∃J E F,eZ D' v0=(some J,E,0)/\NW v0 g v (Nd.new v J) J F/\Cn M J/\gz 0 E/\(E.Iz.map (·.1)).Nodup/\∃S,cH v0 M J E S none:=by
 have key:∃A P,kf v0 M D A P/\∀kt kv sn l,(kt,kv)∈A->P sn l->∃F,Dv ah.term g v kt kv F/\Fl v0 F sn l/\dC g kt F sn.idx/\eq sn.data<=3:=by
  rcases x with⟨F,x,s⟩|x
  ·refine⟨_,_,s.Sr hv Y,fun kt kv sn l X Z=>?_⟩;have h:=aaC.1 X;cases h;obtain⟨rfl,rfl⟩:=Z;exact⟨F,x.dv,x.fl,x.vv.Je.mono (aac _) x.sc,x.sd⟩
  exact x.Sr
 obtain⟨A,P,U,V⟩:=key;obtain⟨J,E,S,k1,k2,k3,k4,k5,k6,k7⟩:=U D' c hr;obtain⟨F,f1,f2,N,O⟩:=V _ _ _ _ k2 k3;exact⟨J,E,F,k1,NW.Tr f1 f2 N O,k5,k6,k7,S,k4⟩
end
end
section
def OB(R:Nd):Prop:=∀m∈R.out,m.Jl=R.nd/\m.bd
def OB.r{R R'}(h:OB R)(J:R'.out=R.out:=by rfl)(N:R'.nd=R.nd:=by rfl):OB R':=by
 unfold OB;rw[J,N];exact h
def OB.nil{R}(h:R.out=[]):OB R:=fun m hm=>by rw[h]at hm;cases hm
theorem OB.did{R}(h:OB R)(e):OB (R.did e):=by
 unfold Nd.did
 split
 ·exact h
 exact OB.nil I
theorem OB.Nl{R}(h:OB R){L m}(hm:({m with Jl:=R.nd,term:=L.kt}:bg).bd):OB (R.Nl L m):=fun x J=>by
 rcases aao.1 J with J|J
 ·exact h x J
 rw[aaC.1 J];exact⟨I,hm⟩
def mO{m:bg}(hT:m.term<=ac)(hi:m.idx<=ac)(hl:m.lt<=ac)(U:m.Jn<=ac)(ho:0<=m.off/\m.off<=2097152)(N:m.Je=0:=by rfl)(J:m.Jg=[]:=by rfl)(V:m.whole=0:=by rfl)(hv:m.Jq=[]:=by rfl)(O:m.data=[]:=by rfl):m.bd:=
 ⟨hT,hi,hl,by rw[N];exact aad _,U,qo,qo,fun e h=>(by rw[J]at h;cases h),by rw[J];exact aad _,fun v h=>(by rw[hv]at h;cases h),by rw[hv];exact aad _,by rw[O];simp⟩
def z0:(0:Int)<=0/\(0:Int)<=2097152:=by decide
def Lz{c L}(b:bh c L)(i):eq (iK L.sn L.l i 8)<=8/\∀e∈iK L.sn L.l i 8,e.idx<=ac/\e.term<=ac/\eq e.data<=4194304:=by
 unfold iK
 split
 ·simp
 rename_i k U;refine⟨by grind,fun e N=>?_⟩;have J:=b.Jg e (aaV (aaS N));have O:=mY J.1.2.2;omega
theorem Bx{i}:∀{x:List ah} {j:Nat},entsOK i j x->i+j<=ac->j+eq x<=8->i+j+eq x<=ac
 |[],_,_,h,_=>h
 |e::r,j,h,J,N=>by
  obtain⟨_,a,b,d⟩:=h;simp only[aas]at N⊢;have:=Bx d (by unfold ac at J⊢;omega) qo;omega
def LE(L:Lg)(i t x D)(J:i+eq x<=ac)(hl:L.last<=ac):(L.merge i t x D).2.2.1<=ac:=by
 have hb:∀j,qE L.sn L.l j<=L.last:=fun j=>by
  grind[EO,qE,Lg.last]
 grind[Lg.Ms,Lg.Jo,Lg.Kc,Lg.merge]
section
variable {c q z k:Nat}{R:Nd}{L:Lg}{D:Dk}
def NI.Tm(o:NI c q z k R L D)(J:c<=900000000):L.last<=ac:=by
 have:=o.last qo;unfold de at this;unfold ac;omega
theorem OB.send(h:OB R)(nz:Nz R)(b:bh c L)(f:L.cf)(v):OB (R.send L v):=by
 have hp:=nz.pr v.toNat;have O:=b.idx;have Y:=b.data;have N:=b.kt;unfold Pr.ok de at hp;unfold bX at O;unfold Nd.send
 split
 ·exact h
 split
 ·refine OB.Nl (R:=R.Jp v {R.p v with ws:=true}) h.r ?_;have h2:0<=(R.p v).of:=hp.2.2.2.1;have J:=wg f;have Z:=qR _ _ J.2 qo qo;refine⟨N,by unfold ac;show L.sn.idx<=_;omega,b.st,aad _,aad _,?_,?_,fun e V=>(by cases V),aad _,fun u U=>?_,by show eq L.sn.Jq<=_;omega,?_⟩
  ·dsimp only;omega
  ·dsimp only;omega
  ·have:=qQ _ _ J.2 qo u U;omega
  grind
 refine OB.Nl (R:=R.Jp v {R.p v with ws:=true}) h.r ?_;obtain⟨p2,p3⟩:=Lz b (R.p v).nx;have X:(R.p v).nx<=2^62:=hp.2.1;exact⟨N,by unfold ac;show(R.p v).nx-1<=_;omega,L.RX b _,nz.Je,nz.Jn,Gj,Gj,p3,by grind,fun u U=>(by cases U),aad _,aad _⟩
theorem OB.Qd(a)(b:bh c L)(f:L.cf):∀(l:Ae) {R:Nd},OB R->Nz R->OB (Nd.Qd a L l R)
 |[],R,h,_=>h
 |v::r,R,h,nz=>by
  have g:OB (R.Jp v {R.p v with ws:=false}):=h.r;have n:=nz.Jp v (p:={R.p v with ws:=false}) (nz.pr v.toNat);unfold Nd.Qd
  split
  ·exact OB.Qd a b f r (g.send n b f v)<|n.send L v
  exact OB.Qd a b f r (h.send nz b f v)<|nz.send L v
theorem OB.tell(h:OB R)(o:NI c q z k R L D)(J:k<=8000000)(a):OB (R.tell L a):=by
 have N:=o.rb.Jn;have nz:=o.rb.nz (by unfold ac;omega);unfold Nd.tell
 split
 ·exact OB.Qd a o.rn.lb o.cf _ (h.r:OB {R with Jn:=R.Jn+1}) {nz with Jn:=by show R.Jn+1<=ac;unfold ac;omega}
 exact OB.Qd a o.rn.lb o.cf _ h nz
theorem OB.RA(h:OB R):OB (R.RA L):=by
 unfold Nd.RA;dsimp only
 split
 ·exact h.r
 exact h
theorem OB.RR(h:OB R)(o:NI c q z k R L D)(J:k<=8000000):OB (R.RR L):=by
 unfold Nd.RR
 split
 ·exact(h.tell o J true).r
 exact h
theorem OB.Qc(h:OB R)(o:NI c q z k R L D)(N:c<=900000000)(J:k<=8000000):OB (R.Qc L):=OB.RR h.RA (o.r (o.rb.RA o.rn.lb qo)) J
theorem OB.Rq(h:OB R)(o:NI c q z k R L D)(J:c<=900000000)(N:k<=7000000):OB (R.Rq L):=by
 unfold Nd.Rq
 split
 ·exact OB.tell (h.Qc o J qo) (o.r<|o.rb.Qc o.rn.lb o.cf qo) qo false
 exact h.Qc o J qo
theorem OB.lay(h:OB R)(o:NI c q z k R L D)(N:c<=800000000)(J:k<=7000000)(kind data):OB (R.lay L D kind data).1:=by
 have a:=o.append ⟨L.last+1,L.kt,kind,data⟩ ⟨by have:=o.last qo;grind[de,ac],o.rn.lb.kt⟩ qo;have b:=a.sync;unfold Nd.lay;dsimp only
 split
 ·exact h.did _
 split
 ·exact h.did _
 exact h.Rq b qo J
theorem OB.Qa(h:OB R)(o:NI c q z k R L D)(J:c<=800000000)(N:k<=7000000)(l):OB (R.Qa L D l).1:=by
 unfold Nd.Qa
 split
 ·exact h
 exact OB.lay (h.r:OB (R.up L)) (o.T0 qo) J N 0 []
theorem OB.asks(b:bh c L)(hl:L.last<=ac):∀(l:Ae) {R:Nd},OB R->OB (Nd.asks L l R)
 |[],_,h=>h
 |v::r,R,h=>by
  unfold Nd.asks;exact OB.asks b hl r (h.Nl (mO b.kt hl (L.RX b _) (aad _) z0))
theorem OB.Qi(h:OB R)(o:NI c q z k R L D)(O:c<=700000000)(U:k<=6000000)(J:L.kt<de)(l):OB (R.Qi L D l).1:=by
 have a:=o.Jc (L.kt+1) R.nd (by unfold de at J;unfold ac;omega);have N:=nb R.Kf a.rn.lb a.cf;unfold Nd.Qi;dsimp only
 split
 ·exact h.did _
 exact OB.Qa (OB.asks a.rn.lb (a.Tm qo) _ (h.r:OB R.Kf)) (a.r<|(Rb.asks _ _ a.rb.Kf).up (j:=k+8) qo) qo qo l
theorem OB.tick(h:OB R)(o:NI c q z k R L D)(J:c<=700000000)(N:k<=5000000)(d):OB (R.tick L D d).1:=by
 unfold Nd.tick
 split
 ·exact h
 split
 ·unfold Nd.Sw
  split
  ·exact OB.tell (h.r:OB {R with el:=0}) (o.r o.rb.T6) qo true
  exact h.r
 unfold Nd.idle
 split
 ·exact h.r
 exact OB.Qi (h.r:OB (R.Ro d)) (o.r<|o.rb.Ro d) J qo qo _
theorem OB.raise(h:OB R)(t):OB (R.raise L D t).1:=by
 unfold Nd.raise;dsimp only
 split
 ·exact h.r
 exact h.did _
theorem OB.Rx(h:OB R)(b:bh c L)(m):OB (R.Rx L m):=by
 unfold Nd.Rx
 repeat' split
 ·exact h.Nl<|mO b.kt (aad _) (aad _) (aad _) z0
 ·exact h.Nl<|mO b.kt (aad _) (aad _) (aad _) z0
 exact h
theorem OB.asked(h:OB R)(o:NI c q z k R L D)(m)(hb:m.bd):OB (R.asked L D m).1:=by
 have a:=o.Jc (i6 L.kt L.kv m.term m.Jl (jp m.lt m.idx (L.Ka L.last).1 L.last)).1.1 (i6 L.kt L.kv m.term m.Jl (jp m.lt m.idx (L.Ka L.last).1 L.last)).1.2 (xI o.rn.lb.kt hb.term);unfold Nd.asked;dsimp only
 split
 ·split
  ·exact h.did _
  exact OB.Nl (h.r:OB {R with el:=0,wt:=0})<|mO a.rn.lb.kt (aad _) (aad _) (aad _) z0
 exact h.Nl<|mO o.rn.lb.kt (aad _) (aad _) (aad _) z0
theorem OB.Qe(h:OB R)(o:NI c q z k R L D)(J:c<=800000000)(N:k<=6000000)(m):OB (R.Qe L D m).1:=by
 unfold Nd.Qe
 split
 ·exact h
 have g:Rb z (k+1) {R with yes:=R.yes++[m.Jl]}:={o.rb.up (aaq k)with yes:=by have:=o.rb.yes;simp;omega};exact OB.Qa (h.r:OB {R with yes:=R.yes++[m.Jl]}) (o.r g) J qo _
theorem OB.RK(h:OB R)(b:bh c L)(m)(hb:m.bd)(n)(hn:n<=ac)(g):OB (R.RK L D m n g).1:=
 OB.Nl (h.r:OB {R with Je:=if g=true then max R.Je (min m.Je n)else R.Je}) (mO b.kt hn (aad _) hb.Jn z0)
theorem OB.app(h:OB R)(o:NI c q z k R L D)(U:c<=700000000)(m)(hb:m.bd)(ho:m.ok)(O:m.kind=3):OB (R.app L D m).1:=by
 have V:=lG ho;have N:=rA ho O;have a:=(o.r (o.rb.Qb (x:=m.Jl) qo)).merge m.idx m.lt m.Jg (fun e N=>⟨(hb.Jg e N).1,(hb.Jg e N).2.1⟩) N.2 qo;have b:=a.sync;have hn:=LE L m.idx m.lt m.Jg D (Bx (j:=0) N.1 hb.idx qo) (o.Tm qo);have J:OB (R.Qb m.Jl):=h.r;unfold Nd.app;dsimp only
 repeat' split
 ·exact h
 ·exact J
 ·exact J.did _
 ·exact J.RK a.rn.lb m hb _ hn false
 ·exact J.did _
 exact J.RK b.rn.lb m hb _ hn true
theorem OB.Np(h:OB R)(o:NI c q z k R L D)(O:c<=800000000)(U:k<=6000000)(m)(hb:m.bd):OB (R.Np L m):=by
 unfold Nd.Np
 split
 ·exact h
 have J:=o.Rj qo m hb
 have N:OB (R.Rj L m):=by
  have hl:=o.last qo;have hp:=o.rb.pr m.Jl.toNat;have V:=hb.Jn;unfold Pr.ok at hp;unfold Nd.Rj;dsimp only;unfold Nd.p
  split
  ·refine OB.Qc (h.r) (o.r<|o.rb.Jp m.Jl ?_) qo qo
   grind[Pr.ok]
  exact h.r
 unfold Nd.SE
 split
 ·exact N.send (J.rb.nz (by unfold ac;omega)) J.rn.lb J.cf _
 exact N
theorem OB.inst(h:OB R)(o:NI c q z k R L D)(m)(hb:m.bd):OB (R.inst L D m).1:=by
 have J:OB {R with pf:=0,ps:=bE.zero}:=h.r;have N:=(AB L R.ps D).1;unfold Nd.inst;dsimp only
 repeat' split
 ·exact J
 ·exact J.did _
 exact OB.Nl (h.r:OB {R with pf:=0,ps:=bE.zero,Je:=max R.Je m.idx}) (mO (by show(L.install R.ps D).1.kt<=_;rw[N];exact o.rn.lb.kt) hb.idx (aad _) (aad _) z0)
theorem OB.chunk(h:OB R)(o:NI c q z k R L D)(m)(hb:m.bd)(ho:m.ok)(O:m.kind=5):OB (R.chunk L D m).1:=by
 have X:=LB ho O;have J:OB (R.Qb m.Jl):=h.r;obtain⟨U,Y,V,Z,p5⟩:=II (R.Qb m.Jl) m;have N:OB ((R.Qb m.Jl).piece m):=J.r V U;have of:=o.rb.Qb (x:=m.Jl) (by have:=lG ho;omega);unfold Nd.chunk;dsimp only
 repeat' split
 ·exact h
 ·exact J.Nl<|mO o.rn.lb.kt hb.idx (aad _) (aad _) z0
 ·exact N.Nl (mO o.rn.lb.kt hb.idx (aad _) (aad _) aC)
 exact N.inst (o.r<|of.piece m hb ho O) m hb
theorem OB.Qj(h:OB R)(o:NI c q z k R L D)(V:c<=600000000)(X:k<=5000000)(m)(hb:m.bd)(ho:m.ok):OB (R.Qj L D m).1:=by
 unfold Nd.Qj
 split
 ·exact h.asked o m hb
 split
 ·exact h.Qe o qo qo m
 split
 ·rename_i N;exact h.app o qo m hb ho N
 split
 ·exact h.Np o qo qo m hb
 split
 ·rename_i O;exact h.chunk o m hb ho O
 split
 ·rename_i U;have J:=yN ho (.inr U);have hp:=o.rb.pr m.Jl.toNat;unfold Nd.chunked
  split
  ·exact h
  exact OB.send (h.r) ((o.rb.nz (by unfold ac;omega)).Jp m.Jl (p:={R.p m.Jl with ws:=false,of:=m.off}) ⟨hp.1,hp.2.1,hp.2.2.1,J⟩) o.rn.lb o.cf _
 exact h
theorem OB.take(h:OB R)(o:NI c q z k R L D)(U:c<=500000000)(N:k<=5000000)(m)(hb:m.bd):OB (R.take L D m).1:=by
 unfold Nd.take
 split
 ·exact h
 split
 ·exact h
 rename_i V
 split
 ·exact h
 have ho:m.ok:=by
  simp_all[enc]
 have O:=o.raise m.term hb.term;have J:OB (R.raise L D m.term).1:=h.raise m.term;unfold Nd.Sk;dsimp only
 split
 ·split
  ·exact J
  unfold Nd.Ru
  split
  ·exact J.Rx O.rn.lb m
  exact J.Qj O qo N m hb ho
 unfold Nd.Ru
 split
 ·exact h.Rx o.rn.lb m
 exact h.Qj o qo N m hb ho
theorem OB.Jk(h:OB R)(o:NI c q z k R L D)(J:c<=800000000)(N:k<=6000000)(b):OB (R.Jk L D b).1:=by
 unfold Nd.Jk
 repeat' split
 ·exact h
 ·exact h
 exact h.lay o J qo 1 b
theorem OB.change(h:OB R)(o:NI c q z k R L D)(N:c<=800000000)(O:k<=6000000)(a u):OB (R.change L D a u).1:=by
 have J:=o.last qo;unfold Nd.change;dsimp only
 split
 ·exact h
 split
 ·exact h
 split
 ·split
  ·exact h
  exact OB.lay (h.r:OB (R.Jp u (Pr.new (L.last+1)))) (o.r (o.rb.Jp u (p:=Pr.new (L.last+1)) ⟨by unfold de;exact(by decide:0+1<=2^62),J,by show 0<=ac;omega,aaD 0,by show(0:Int)<=2097152;omega⟩)) N qo 2 _
 split
 ·exact h
 exact h.lay o N qo 2 _
theorem OB.read(h:OB R)(o:NI c q z k R L D)(J:k<=8000000):OB (R.read L).1:=by
 unfold Nd.read
 repeat' split
 ·exact h
 ·exact h
 exact h.tell o J true
theorem OB.save(h:OB R)(i data):OB (R.save L D i data).1:=by
 unfold Nd.save;dsimp only
 repeat' split
 ·exact h
 ·exact h
 ·exact h
 exact h.did _
end
end
section
def Qp{m:Ac}(b D)(hm:gP K b D m)(i)(hi : -9223372036854775808<=i/\i<=9223372036854775807):
  ai w0 126 [Rp b,.int .i64 i] K (m++hs) (fun v V hs'=>V=K/\∃U,hs'=U++hs/\gP K b (D.arm i) U/\v=.tuple #[]):=by
 obtain⟨J,ho,ins,rfl,O,N⟩:=hm;refine ent Tryz.func126 ?_;refine acY (aX 3 0 (v:=.bool D.dead) I I I (ar 0 (v':=.bool (!D.dead)) I I (fin 0 I (th (fw I (fun X=>?_) (fun X=>?_))))))
 ·have e:D.arm i={D with left:=max i (-1)}:=by simp_all[Dk.arm]
  refine rg ?_;refine ar 2 (v':=.int .i64 (max i (-1))) I (congrArg (Value.int .i64) qo) (au ?_);exact bZ I ⟨I,_,I,⟨J,ho,ins,by rw[e],O,by rw[e];exact N⟩,I⟩
 have e:D.arm i=D:=by simp_all[Dk.arm]
 refine sk ?_;exact bZ I ⟨I,_,I,⟨J,ho,ins,by rw[e],O,by rw[e];exact N⟩,I⟩
def Qo{h:PH}(b D)(hm:bM K b D h)(i)(hi : -9223372036854775808<=i/\i<=9223372036854775807):ai w0 126 [Rp b,.int .i64 i] K (h::hs)
  (fun v N hs'=>N=K/\∃O,hs'=O::hs/\bM K b (D.arm i) O/\v=.tuple #[]):=by
 obtain⟨m,rfl,d,hm⟩:=hm;refine Ct.Tx d (Qp b D hm i hi) ?_;rintro v N hs' ⟨rfl,U,rfl,J,rfl⟩;exact⟨U,I,fun V=>⟨I,_,I,⟨U,I,V,J⟩,I⟩⟩
def Qn{h:PH}{lb db L D}(hL:dV K lb db L D h)(i)(hi : -9223372036854775808<=i/\i<=9223372036854775807):
  ai w0 126 [Rp db,.int .i64 i] K (h::hs) (fun v N hs'=>∃J,hs'=J::hs/\Le K N/\dV N lb db L (D.arm i) J/\v=.tuple #[]):=
 oK hL fun m hm=>by
  obtain⟨wb,hb,V,aV,cV,O,U,aL,cL,wh,hh,X,Z,dh,rfl,h2,h3,h4,h5,h6,h7,h8⟩:=hm;refine(Er (S:=fun v N J=>N=K/\bM K db (D.arm i) J/\v=.tuple #[]) 5 I ((Qo db D h6 i hi).mono ?_)).mono ?_
  ·simp_all
  rintro v N hs' ⟨J,rfl,rfl,Y,rfl⟩;exact⟨Cg _,_,I,⟨wb,hb,V,aV,cV,O,U,aL,cL,wh,hh,X,Z,J,I,h2,h3,h4,h5,Y,h7,h8⟩,I⟩
end
section
def GB(p):Value.int .i64 (if p<0 then 0 else p)=.int .i64 (((max p 0).toNat:Nat):Int):=congrArg (Value.int .i64) (by split<;>omega)
def JM(s v)(hv:jX K v s)(hne:s.vs≠[])(aa:eq s.vs<=2^40)(p)(hp : -9223372036854775808<=p/\p<=9223372036854775807):
  ai w0 51 [v,.int .i64 p] K hs (fun u K' hs'=>K'=K/\hs'=hs/\u=.tuple #[.string ⟨((i8 s p).getD []).toArray⟩,.bool (i8 s p).isSome]):=by
 obtain⟨ao,c,rfl,x⟩:=hv;obtain⟨k,V⟩:∃k,eq s.vs=k+1:=⟨eq s.vs-1,by have:=abz.2 hne;omega⟩
 have N:∀i,i<k+1->∃b,s.vs[i]?=some b/\(jO s.vs)[i]?=some (.string ⟨b.toArray⟩):=fun i hi=>by
  have h1:i<eq s.vs:=qo
  exact⟨s.vs[i],aai h1,by unfold jO;rw[abf,aai h1];rfl⟩
 rw[V]at x;rw[V];refine ent Tryz.func51 ?_;refine acY (bx 0 I fun b2=>fin 2 I (acV (aX 1 0 (v:=.slice ao (k+1) c) I I I (fin 2 I (acU (aX 1 0 (v:=.bool s.R6) I I I ?_))))));cases hsy:s.R6 with
 |true=>
  obtain⟨j,hj⟩:=a9 ((max p 0).toNat%(k+1));have U:j<k+1:=by rw[hj];exact abR _ qo
  have hf:i8 s p=s.vs[j]?:=by unfold i8;rw[aab hsy,V,<-hj]
  obtain⟨b,Z,g2⟩:=N j U;rw[hf,Z];refine au ?_;refine ar 1 I (GB p) (ar 1 I (mj .i64 (max p 0).toNat (k+1)) ?_);rw[<-hj];refine fin 1 I (acU (aX 1 0 (v:=.bool true) I I I (au ?_)));refine aw 1 I fun Y O=>fin 0 I (th (ax O I (fun e2=>?_) (fun e2=>?_)))
  ·exact absurd e2 qo
  exact sk<|acV (aX 1 0 (v:=.slice ao (k+1) c) I I I (ej 1 j I qo I x g2 fun X J=>ld 0 I (.inl I) J<|fin 2 I (ac0 (Bh<|bS I I I ⟨I,I,I⟩))))
 |false=>
  obtain⟨j,hj⟩:=a9 ((max p 0).toNat%(k+1+1));have U:j<k+1+1:=by rw[hj];exact abR _ qo
  have hf:i8 s p=if j=0 then none else s.vs[j-1]?:=by unfold i8;rw[aaa (by rw[hsy];simp),V,<-hj]
  rw[hf];refine au ?_;refine ar 1 I (v':=.int .i64 (k+1+1:Nat)) (ba qo) (au ?_);refine ar 1 I (GB p) (ar 1 I (mj .i64 (max p 0).toNat (k+1+1)) ?_);rw[<-hj];refine fin 1 I (acU (aX 1 0 (v:=.bool false) I I I (au ?_)));refine ar 1 I (v':=.int .i64 ((j:Int)-1)) (ba qo) (au ?_);refine aw 1 I fun Y O=>fin 0 I (th (ax O I (fun e2=>?_) (fun e2=>?_)))
  ·rw[aab (show j=0 by omega)];exact acY (fin 2 I (ac0 (rT (Bh (bS I I I ⟨I,I,I⟩)))))
  rw[aaa (show ¬j=0 by omega)];obtain⟨b,Z,g2⟩:=N (j-1) qo;rw[Z];exact sk (acV (aX 1 0 (v:=.slice ao (k+1) c) I I I (ej 1 (j-1) I qo I x g2 fun X J=>ld 0 I (.inl I) J (fin 2 I (ac0 (Bh (bS I I I ⟨I,I,I⟩)))))))
end
section
def Rm(k:Nat)(D E:Dk):Prop:=D.room<=E.room+(k:Int)
theorem Rm.refl(k D):Rm k D D:=by unfold Rm;omega
abbrev Du:=@Rm.refl
theorem Rm.up{k j D E}(h:Rm k D E)(g:k<=j):Rm j D E:=by unfold Rm at *;omega
def Rm.trans{k j D E F}(h:Rm k D E)(g:Rm j E F):Rm (k+j) D F:=by unfold Rm at *;omega
def tI(D a n b):Rm 1 D (D.write a n b).1:=by
 unfold Dk.write
 split
 ·exact Du _ D
 split
 ·exact Du _ D
 split
 ·exact Du _ D
 show D.room<=(if(D.sec a n).isSome=true then D.room else D.room-1)+1;omega
theorem tZ(D a):Rm 0 D (D.sync a).1:=by
 unfold Dk.sync
 split
 ·exact Du _ D
 split
 ·exact Du _ D
 exact Du _ D
def m9(D a):Rm 0 D (D.free a).1:=by
 unfold Dk.free
 split
 ·exact Du _ D
 split
 ·exact Du _ D
 show D.room<=D.room+(eq (D.ar a):Int)+0;omega
theorem DV(S:cW)(area D v):Rm 1 D (S.save area D v).2.1:=by
 unfold cW.save
 split
 ·exact Du _ D
 split
 ·exact(tI D _ _ _).trans<|tZ _ _
 simp[tI]
theorem Fg:∀(f:Nat) (o:ji) (D:Dk),Rm (eq o.rest/63+1) D (RY f o D).2.1
 |0,o,D=>Du _ D
 |f+1,o,D=>by
  have N:=tI D (aM o.num) o.full (UInt8.ofNat (min (eq o.rest) 63)::o.rest.take (min (eq o.rest) 63));rw[nL]
  split
  ·exact N.up qo
  rename_i O
  split
  ·exact N.up qo
  have:=not_or.1 O;have J:=Fg f {o with full:=o.full+1,rest:=o.rest.drop 63} (D.write (aM o.num) o.full (UInt8.ofNat (min (eq o.rest) 63)::o.rest.take (min (eq o.rest) 63))).1;dsimp only at J;rw[aar]at J;exact(N.trans J).up qo
def Ff(o b D):Rm ((eq o.rest+eq b)/63+1) D (Rv o b D).2.1:=by
 have h:=Fg (eq o.rest+eq b+1) {o with rest:=o.rest++b} D;dsimp only at h
 rwa[aaj]at h
theorem tH(W:Wl)(D):Rm 0 D (W.sync D).2:=by
 grind[Rm.refl,tZ,Wl.sync]
theorem xo(W:Wl)(i)(hi:i<2^64)(D):Rm 1 D (W.begin i D).2:=by
 have J:=dI hi;unfold Wl.begin
 split
 ·exact(tH W D).up qo
 have h:=Ff ⟨W.next,i,0,[]⟩ (aK i) (W.sync D).2;simp only[aaT]at h;exact((tH W D).trans h).up qo
def DU(W){b}(hb:eq b<=512)(D)(J:∀q,W.op=some q->eq q.rest<=62):Rm 10 D (dJ W b D).2.1:=by
 have hp:=(qL hb).2;unfold dJ;cases hop:W.op with
 |none=>exact Du _ D
 |some q=>exact(Ff q (cJ b) D).up (by have:=J q hop;omega)
def Ih{c W}(o:cK c W)(b D):Rm 11 D (W.append b D).2.1:=by
 have hl:=o.last;unfold Wl.append
 split
 ·exact Du _ D
 rename_i U
 split
 ·exact Du _ D
 rename_i hb
 split
 ·exact Du _ D
 split
 ·have N:=xo W (W.first+eq W.Ja) (by unfold bt at hl;omega) D
  split
  ·exact N.up qo
  rename_i O;have V:=o.begin (W.first+eq W.Ja) hl D;exact N.trans (DU _ qo _ fun q J=>V.rest q J (aag.1 O))
 exact(DU W qo D fun q J=>o.rest q J<|aag.1 U).up qo
def JO(W:Wl)(i)(hi:i<2^64)(D):Rm 1 D (W.truncate i D).2.1:=by
 grind[Rm.refl,xo,Wl.truncate]
theorem CT(i):∀(f:Nat) (Jd:List (Nat×Nat)) (D:Dk),Rm 0 D (Kd i f Jd D).2.1
 |0,Jd,D=>Du _ D
 |f+1,Jd,D=>by
  unfold Go.En.Kd
  split
  ·split
   ·exact m9 D _
   exact(m9 D _).trans<|CT i f _ _
  exact Du _ D
def IB(W:Wl)(i)(hi:i<2^64)(D):Rm 1 D (W.Jh i D).2.1:=by
 grind[xo,tH,CT,Rm,Wl.Jb,Wl.Jf,Wl.Jh]
theorem wD:∀(l:Ae) (D:Dk),Rm 0 D (Kb l D).1
 |[],D=>Du _ D
 |a::r,D=>by
  unfold Go.En.Kb
  split
  ·split
   ·exact(m9 D a).trans<|wD r _
   exact m9 D a
  exact wD r D
def Lp(W:Wl)(first D):Rm 0 D (W.reset first D).2.1:=by
 grind[wD,Rm.refl,Wl.reset]
theorem vZ(L:Lg)(D t v):Rm 1 D (L.Jc D t v).2.1:=by
 grind[DV,Rm.refl,Lg.Jc]
theorem DW:∀(x:List ah) (L:Lg) (D:Dk) (c:Nat),bh c L->(∀e∈x,i9 e)->Rm (11*eq x) D (Lg.Rc x L D).2.1
 |[],L,D,c,_,_=>Du _ D
 |e::r,L,D,c,o,N=>by
  have J:=Ih o.w e.bytes D;rw[ri]
  split
  ·exact J.up (by simp only[aas];omega)
  exact(J.trans (DW r _ _ (c+12) (o.w2 e.bytes D e (N e Q8)) (fun y O=>N y (by simp[O])))).up (by simp only[aas];omega)
theorem wH{c L}(o:bh c L){D}(x)(O:∀e∈x,e.idx<=ac/\e.term<=ac):Rm (11*eq x) D (L.append x D).2.1:=by
 unfold Lg.append
 split
 ·exact Du _ D
 split
 ·exact Du _ D
 rename_i h;have J:=nW (aag.1 h);exact DW x L D c o (fun e N=>⟨J e N,O e N⟩)
def wF{c L}(o:bh c L){D}(x last)(J:∀e∈x,e.idx<=ac/\e.term<=ac):Rm (11*eq x) D (L.Ms x last D).2.1:=by
 grind[wH,Lg.Ms]
theorem JP{c L}(o:bh c L){D}(y last)(X:∀e∈y,e.idx<=ac/\e.term<=ac):Rm (1+11*eq y) D (L.Jo y last D).2.1:=by
 have N:=pO L.sn L.l y true;have J:∀e∈(RZ L.sn L.l y true).1,e.idx<=ac/\e.term<=ac:=fun e V=>X e (N.subset V);have O:=N.length_le;unfold Lg.Jo
 split
 ·exact(wF o [] last Q8).up Q8
 rename_i e r h;rw[h]at J O;have U:=JO L.w e.idx (by grind[ac]) D
 split
 ·split
  ·exact U.up qo
  exact(U.trans<|wF (o.cutAt e.idx D) (e::r) last J).up qo
 exact(wF o (e::r) last J).up qo
def BW{c L}(o:bh c L){D}(i t y last)(J:∀e∈y,e.idx<=ac/\e.term<=ac):Rm (1+11*eq y) D (L.Kc i t y last D).2.1:=by
 grind[Rm.refl,JP,Lg.Kc]
def Lq{c L}(o:bh c L){D}(i t x)(J:∀e∈x,e.idx<=ac/\e.term<=ac):Rm (1+11*eq x) D (L.merge i t x D).2.1:=by
 unfold Lg.merge
 split
 ·exact Du _ D
 split
 ·exact Du _ D
 split
 ·split
  ·exact Du _ D
  split
  ·exact Du _ D
  exact(BW o _ _ _ _ (fun e N=>J e (aaV N))).up (by rw[aar];omega)
 exact BW o i t x _ J
def tJ(L:Lg)(D):Rm 0 D (L.sync D).2.1:=by
 grind[Rm.refl,tH,Lg.sync]
theorem Fh(place):∀(f n:Nat) (b:Aa) (D:Dk),Rm ((eq b+63)/64) D (R7 place f n b D).1
 |0,_,_,D=>Du _ D
 |f+1,n,b,D=>by
  rw[pJ]
  split
  ·exact Du _ D
  rename_i hb;have hb:=abz.2 hb;have J:=tI D (bz place) n (b.take 64)
  split
  ·exact J.up qo
  exact(J.trans (Fh place f (n+1) (b.drop 64) _)).up (by rw[aar];omega)
def Fi(L:Lg)(s fr D):Rm ((eq s.data+63)/64+1) D (L.lay s fr D).2.1:=by
 have J:=Fh (L.place+1) (eq s.data+1) 0 s.data D;unfold Lg.lay
 split
 ·exact J.up qo
 unfold Lg.Sf;have N:=J.trans (tZ _ (bz (L.place+1)))
 split
 ·exact N.up qo
 unfold Lg.Rq;have O:=N.trans (DV L.head 4 _ (Lg.Nl s (L.place+1) fr))
 split
 ·omega
 unfold Lg.Sy;exact(O.trans (m9 _ (bz L.place))).up qo
def CU(L:Lg)(s)(U:s.term<=ac)(D):Rm ((eq s.data+63)/64+2) D (L.save s D).2.1:=by
 unfold Lg.save
 split
 ·exact Du _ D
 rename_i O;have hs:=(yt (aag.1 O)).2.2.2
 split
 ·exact Du _ D
 unfold Lg.Si;have J:=tJ L D
 split
 ·exact J.up qo
 unfold Lg.Sj;have N:=J.trans (Fi (L.sync D).1 s (L.sync D).1.fr (L.sync D).2.1)
 split
 ·exact N.up qo
 exact(N.trans (IB _ (s.idx+1) (by unfold bX at hs;omega) _)).up qo
theorem IA(L:Lg)(s)(J:s.term<=ac)(D):Rm ((eq s.data+63)/64+2) D (L.install s D).2.1:=by
 unfold Lg.install
 split
 ·exact Du _ D
 split
 ·exact CU L s J D
 unfold Lg.Se;have N:=Fi L s L.w.next D
 split
 ·exact N.up qo
 exact(N.trans<|Lp _ (s.idx+1) _).up qo
end
section
structure sP where
 j:Nat
 K:PH
 mm:Ar
 mv:List (Int×Value)
 hl:PH
 room:Int
 ps:Ae
 ap:Ab
 cp:Nat
structure sO where
 i:Nat
 K:PH
 m:List (Int×Ar)
 ins:l7
 ho:PH
 room:Int
 ps:Ae
 ap:Ab
 cp:Nat
abbrev kM(room:Int)(m:List (Int×Ar)):Dk:=⟨room,0,m,-1,false⟩
def L0{l:Ar}{n r ps m room s v}(h:(aZ n l).getD lV=s)(J:i8 s (jM s ps)=some v):eJ l (n::r) ps m room=eJ l r (ik s ps) (cj n ⟨[v],true⟩ m) room:=by
 subst h;simp only[eJ];rw[J]
def L4{l:Ar}{n r ps m room s}(h:(aZ n l).getD lV=s)(J:i8 s (jM s ps)=none):eJ l (n::r) ps m room=eJ l r (ik s ps) m (room+1):=by
 subst h;simp only[eJ];rw[J]
def NG{D:Dk}{a}{r J rs:Ae}{m:List (Int×Ar)}{mm room rm}(h:(mm,rs,rm)=eJ (D.ar a) (fb ((D.ar a).map (·.1))) J [] room):fh D (a::r) J m room=fh D r rs (if eq mm=0 then m else cj a mm m) rm:=by
 simp only[fh];rw[<-h]
def LM(ps n)(h:eq ps=n+1):((iv ps).drop (1*1)).take (n*1)=iv (ps.drop 1):=by
 simp_all[aaA,iv]
def FE{w0:World}{K:PH}{hs m:Ac}(b D c)(o:aW c D)(hc:c<=1000000000)(hm:gP K b D m)(ps)(dd:∀p∈ps,-9223372036854775808<=p/\p<=9223372036854775807)(ap cp)(xp:aj K ap (eq ps) cp 1 (iv ps))(ew:eq ps<2^40):
  ai w0 21 [Rp b,.slice ap (eq ps) cp] K (m++hs)
   (fun v K' hs'=>Le K K'/\∃b2 m2,hs'=m2++(m++hs)/\gP K' b2 (D.Ke ps) m2/\v=Rp b2):=by
 obtain⟨V,ho,ins,rfl,hO,hI⟩:=hm;have aF:=o.ok.room;refine cP Tryz.func21 ?_;refine cl 0 I (FY D.room aF) ?_;rintro eL d6 d1 ⟨rfl,cb,mE,rfl,⟨O,N,J,rfl,aA,az⟩,rfl⟩
 have bm:J=[]:=by
  cases J with
  |nil=>rfl
  |cons x r=>exact az.elim
 subst bm;have ct:max D.room 0=D.room:=qo
 have c7:∀k∈aU D,k∈D.Iz.map (·.1):=fun k hk=>(dW _).mem_iff.1 hk;have cm:(aU D).Nodup:=(dW _).symm.nodup o.ok.keys;have et:eq (aU D)=eq D.Iz:=by unfold aU;rw[(dW _).length_eq,aaM]
 have dr:=o.len;refine fin 1 I (acU (Bi (hs':=(pt b (bY D V) 126::ho::bI ins)++([pt cb (bY (eX D.room) O) 126,N]++hs)) (aak [_,_] (pt b (bY D V) 126::ho::bI ins) hs) (cl 1 I (FJ b D c o.ok qo (fun k hk=>(o.ar k hk).1) ⟨V,ho,ins,I,hO,hI⟩) ?_)));rintro eS aO d2 ⟨aY,rfl,ak,ck,rfl,xk⟩;refine Bi (hs':=[pt cb (bY (kM D.room []) O) 126,N]++((pt b (bY D V) 126::ho::bI ins)++(bI ([]:l7)++hs))) (aak (pt b (bY D V) 126::ho::bI ins) [_,_] hs) (au ?_)
 refine loop (σ:=sO) (fun s=>[(0,Rp b),(1,.slice s.ap (eq s.ps) s.cp),(5,Rp cb),(21,.slice ak (eq (aU D)) ck),(22,.int .i64 ((eq (aU D):Nat):Int)),(23,.int .i64 s.i)]) (fun s=>s.K)
  (fun s=>[pt cb (bY (kM s.room s.m) O) 126,s.ho]++((pt b (bY D V) 126::ho::bI ins)++(bI s.ins++hs)))
  (fun s=>s.i<=eq (aU D)/\Le aO s.K/\fh D ((aU D).drop s.i) s.ps s.m s.room=fh D (aU D) ps [] D.room/\dH kD sw s.ho O (fe s.ins)/\fH s.K s.ins s.m/\aj s.K s.ap (eq s.ps) s.cp 1 (iv s.ps)/\(∀p∈s.ps,p∈ps)/\eq s.ps<=eq ps /\
   (∀k∈s.m.map (·.1),k∈(aU D).take s.i)/\0<=s.room/\s.room<=2^40+((c*s.i:Nat):Int)) (fun s=>eq (aU D)-s.i) ⟨0,aO,[],[],N,D.room,ps,ap,cp⟩
  ⟨aad _,Cg _,rfl,aA,trivial,xp.le aY,fun _ h=>h,aac _,Q8,aF.1,aC⟩ sb rfl rfl ?_
 rintro⟨i,K1,m,J,N,room,qs,aq,cq⟩ ⟨hi,le,hR,aA,az,xq,aL,ey,c6,ez,eC⟩;dsimp only at *;refine acY (aw 0 I fun eg cO=>au ?_);refine ax cO I (fun e2=>?_) (fun e2=>?_)
 ·have c4:i<eq (aU D):=qo
  have es:c*(i+1)<=1000000000*1000000000:=Nat.mul_le_mul hc qo;have dq:c*(i+1)=c*i+c:=Nat.mul_succ c i;obtain⟨a,ha⟩:∃a,(aU D)[i]?=some a:=⟨_,aai c4⟩;have a6:a∈aU D:=aam ha
  have bb:(aU D).drop i=a::(aU D).drop (i+1):=by
   simp_all[aaI]
  obtain⟨bi,h,tl,b9,b3⟩:=sJ (hI.le (aY.trans le)) a (bI J++hs);have cu:=qZ (hI.le (aY.trans le)) b9;rcases b9 with⟨g1,_⟩|⟨bi,i1,mv,i2,q1,q2,rfl,g2,g3,g4,g5,g6,cc,a4,rfl⟩
  ·exact absurd (c7 a a6)<|gI.1 g1
  have hp:=(b3 (pt b (bY D V) 126) ho).2 Q8;have a5:(a,D.ar a)∈D.Iz:=by rw[g3];simp
  have b0:=o.ok.ns _ a5;have c3:=o.ok.at_ _ a5;have cD:=o.ok.vs _ a5;dsimp only at b0 c3 cD;have aa:=a4.keys;have dv:=a4.len;obtain⟨ns,aE⟩:=a9 (fb ((D.ar a).map (·.1)));have dS:eq ns=eq (D.ar a):=by rw[aE,(dW _).length_eq,aaM]
  refine au ?_;refine ej 0 i I I I (xk.le le) (show(qz (aU D))[i]?=some (.int .u64 a) by unfold qz;rw[abf,ha];rfl) fun eb cd=>?_;refine ld 0 I (.inl I) cd (au ?_);refine vj 0 I fun bq=>?_;have bs:=dH.empty (enc:=nD) (encv:=(id:Value->Value)) bq 0;refine Bi (hs':=pt cb (bY (kM room m) O) 126::N::sg bq (.map #[] 0)::h::pt b (bY D V) 126::ho::(bI i1++(bI i2++(bI J++hs)))) ((aak [_] [_,_] _).trans (((hp.cons _).cons _).cons _)) (au ?_);refine iR 1 (z:=.map none) a I Tryz.underlying124 qk gM I (.inr ⟨5,I⟩) hO ?_;rw[cu];refine cl 0 I (F4 false bi) ?_;rintro eT ea d3 ⟨rfl,b1,rfl,rfl⟩
  refine cl 0 I (DP false (m:=mv) _ [Rp b1] (by rw[aa];exact b0.1) (by grind) (zu h b1 bi) (F3 false id h b1 bi mv (by rw[aa];exact b0.1) cc) qk qo
   (fun x y fr=>⟨⟨_,.inr ⟨2,rfl⟩,co.pt rfl⟩,.inr ⟨6,rfl⟩⟩)) ?_
  rintro eV b5 d4 ⟨ae,rfl,an,cn,rfl,xn⟩;rw[aa,<-aE]at xn;rw[show eq mv=eq ns from qo]at xn⊢;refine Bf (au ?_)
  refine loop (σ:=sP) (fun s=>[(0,Rp b),(1,.slice s.ap (eq s.ps) s.cp),(5,Rp cb),(7,.int .u64 a),(8,.map (some bq)),(21,.slice ak (eq (aU D)) ck),(22,.int .i64 ((eq (aU D):Nat):Int)),(23,.int .i64 i),(35,.slice an (eq ns) cn),(36,.int .i64 (eq ns)),(37,.int .i64 s.j)]) (fun s=>s.K)
   (fun s=>pt cb (bY (kM s.room m) O) 126::N::s.hl::h::pt b (bY D V) 126::ho::(bI i1++(bI i2++(bI J++hs))))
   (fun s=>s.j<=eq ns/\Le b5 s.K/\eJ (D.ar a) (ns.drop s.j) s.ps s.mm s.room=eJ (D.ar a) ns qs [] room/\dH nD id s.hl bq s.mv/\MR (jX s.K) s.mv s.mm/\aj s.K s.ap (eq s.ps) s.cp 1 (iv s.ps)/\(∀p∈s.ps,p∈qs)/\eq s.ps<=eq qs/\room<=s.room/\s.room<=room+((s.j:Nat):Int)) (fun s=>eq ns-s.j)
   ⟨0,b5,[],[],sg bq (.map #[] 0),room,qs,aq,cq⟩ ⟨aad _,Cg _,rfl,bs,trivial,xq.le ae,fun _ h=>h,aac _,aaD _,Q8⟩ ⟨rfl,rfl,rfl,rfl,rfl,rfl,rfl,rfl,rfl,rfl,rfl,trivial⟩ rfl rfl ?_
  rintro⟨j,K2,mm,mw,hl,Y,rs,aR,cr⟩ ⟨hj,Z,hQ,aS,ad,xr,X,eD,cz,d0⟩;dsimp only at *;refine acY (bc 0 I (fun e4=>?_) (fun e4=>?_))
  ·refine au ?_;have c5:j<eq ns:=qo
   obtain⟨n,hn⟩:∃n,ns[j]?=some n:=⟨_,aai c5⟩;have cx:ns.drop j=n::ns.drop (j+1):=by simp_all[aaI]
   have bV:n∈(D.ar a).map (·.1):=by
    grind[dW]
   rcases MR.get n (a4.imp fun _ _ h=>jX.le (ae.trans Z) h)with⟨_,h2⟩|⟨v,s,dh,cE,cA⟩
   ·exact absurd bV<|gI.1 h2
   have cB:=cD _ (gS cE);dsimp only at cB;have ch:(aZ n (D.ar a)).getD lV=s:=by rw[cE];rfl
   obtain⟨av,cv,rfl,xv⟩:=cA;refine au ?_;refine ej 0 j I I I (xn.le Z) (show(fV false ns)[j]?=some (.int .i64 n) by unfold fV;rw[abf,hn];rfl) fun ed ce=>?_;refine ld 0 I (.inl I) ce (au ?_);refine iR 1 (z:=.map none) a I Tryz.underlying124 qk gM I (.inr ⟨5,I⟩) hO ?_;rw[cu];refine iR 1 (z:=.agg Ik) n I Tryz.underlying129 qk lQ I (.inr ⟨3,I⟩) cc ?_;rw[dh];refine al 0 (.agg Ik) I qk fun ag=>?_;refine bA 0 0 I I qk I I ?_;refine Ew (pt ag #[.slice av (eq s.vs) cv,.bool s.R6] 136::pt cb (bY (kM Y m) O) 126::N::hl::h::pt b (bY D V) 126::ho::(bI i1++(bI i2++(bI J++hs)))) I (fin 0 I (acV (fin 1 I (th ?_))))
   refine jn (σ:=Ab×Nat) (fun z=>[(0,Rp b),(1,.slice z.1 (eq (ik s rs)) z.2),(5,Rp cb),(7,.int .u64 a),(8,.map (some bq)),(10,.int .i64 n),(11,Rp ag),(12,.int .i64 (jM s rs)),(21,.slice ak (eq (aU D)) ck),(22,.int .i64 ((eq (aU D):Nat):Int)),(23,.int .i64 i),(35,.slice an (eq ns) cn),(36,.int .i64 (eq ns)),(37,.int .i64 j)])
    (fun _=>pt ag #[.slice av (eq s.vs) cv,.bool s.R6] 136::pt cb (bY (kM Y m) O) 126::N::hl::h::pt b (bY D V) 126::ho::(bI i1++(bI i2++(bI J++hs)))) (fun z=>aj K2 z.1 (eq (ik s rs)) z.2 1 (iv (ik s rs))) ?_ ?_
   ·refine acY (aw 2 I fun eh cQ=>?_)
    refine' eQ (q:=s.R6=false\/1<eq s.vs) 1 10 62 [51,52] cQ I I I I I I I (fun _=>?x6) (fun eo cV=>?_)
    case x6=>
     refine au ?_;refine cG 0 (s.R6=false) I Q8 fun ek cR=>?_
     refine' dB (q:=1<eq s.vs) 1 5 61 [55,56] cR I I I I I I I (fun _=>?x7) (fun en cT=>?_)
     case x7=>
      refine au ?_;exact aw 1 I fun el cS=>fin 1 I (bJ (cS.trans qo) I I I)
     exact fin 1 I<|bJ cT I I I
    refine fin 0 I<|th (ax cV I (fun e9=>?_) (fun e9=>?_))
    ·have hu:p9 s rs:=⟨qo,e9.2⟩;obtain⟨k,hk⟩:∃k,eq rs=k+1:=⟨eq rs-1,qo⟩;have e1:jM s rs=rs.headD 0:=aab hu;have ay:ik s rs=rs.drop 1:=aab hu;have a1:eq (rs.drop 1)=k:=by simp;omega
     refine acY (ej 1 0 I I I xr (u:=.int .i64 (rs.headD 0)) (by cases rs with|nil=>simp at hk|cons x r=>rfl) fun ee cg=>ld 0 I (.inl I) cg (au ?_));refine sl 1 1 k I xr I (by show((eq rs:Nat):Int)=_;omega) qo (LM rs k hk) fun b6 cL dj=>fin 1 rfl ?_;exact jx (b6,cL) (by rw[ay,a1];exact dj) ⟨I,by rw[ay,a1];rfl,rfl,rfl,rfl,rfl,rfl,by rw[e1];rfl,rfl,rfl,rfl,rfl,rfl,rfl,trivial⟩ rfl rfl
    have hu:¬p9 s rs:=fun h=>e9 ⟨by have:=h.1;omega,h.2⟩;have e1:jM s rs=0:=aaa hu;have ay:ik s rs=rs:=aaa hu;refine sk ?_;exact jx (aR,cr) (by rw[ay];exact xr) ⟨I,by rw[ay];rfl,rfl,rfl,rfl,rfl,rfl,by rw[e1];rfl,rfl,rfl,rfl,rfl,rfl,rfl,trivial⟩ rfl rfl
   rintro⟨b7,b8⟩ cF;dsimp only at *
   have b4 : -9223372036854775808<=jM s rs/\jM s rs<=9223372036854775807:=by
    unfold jM
    split
    ·rename_i hu;cases rs with
     |nil=>simp
     |cons x r=>exact dd x (aL x (X x Q8))
    omega
   have aN:∀p∈ik s rs,p∈qs:=fun p aV=>X p (by
    grind[ik])
   have aD:eq (ik s rs)<=eq qs:=by
    unfold ik
    grind
   refine acY (fI 0 0 I I qk (cl 1 I (JM s _ ⟨av,cv,I,xv⟩ cB.1 qo (jM s rs) b4) ?_));rintro eY a3 d5 ⟨rfl,rfl,rfl⟩;refine fin 5 I (acV ?_);cases hf:i8 s (jM s rs)with
   |some vb=>
    have ab:eJ (D.ar a) (ns.drop j) rs mm Y=eJ (D.ar a) (ns.drop (j+1)) (ik s rs) (cj n ⟨[vb],true⟩ mm) Y:=by
     rw[cx];exact L0 ch hf
    refine au ?_;refine lit 3 #[str vb] I Q9 qk fun am=>Eg fun K3 l1 l2=>?_;have dl:aj K3 (some ⟨am,0,none⟩) 1 1 1 (jO [vb]):=(aJ.Re (b:=am) (c:=#[str vb]) (e:=9) (n:=1) (size:=1) rfl Q9).Ni.le l2;refine bd 0 (.agg #[.slice (some ⟨am,0,none⟩) 1 1,.bool true]) I Aq (sF 0 3 n (.agg #[.slice (some ⟨am,0,none⟩) 1 1,.bool true]) I I Tryz.underlying129 lQ I I aS fun cs ca=>Ew (pt ag #[.slice av (eq s.vs) cv,.bool s.R6] 136::pt cb (bY (kM Y m) O) 126::N::cs::h::pt b (bY D V) 126::ho::(bI i1++(bI i2++(bI J++hs)))) I (Bf (au ?_)));refine cZ j ?_
    exact bn (x:=(⟨j,a3,mm,mw,hl,Y,rs,aR,cr⟩:sP)) (⟨j+1,K3,cj n ⟨[vb],true⟩ mm,cj n (.agg #[.slice (some ⟨am,0,none⟩) 1 1,.bool true]) mw,cs,Y,ik s rs,b7,b8⟩:sP) sb I I
     ⟨aC,Z.trans l1,ab.symm.trans hQ,ca,(ad.imp fun _ _ h=>jX.le l1 h).set ⟨_,1,rfl,dl⟩,cF.le l1,aN,aD,cz,aC⟩ aC
   |none=>
    have ab:eJ (D.ar a) (ns.drop j) rs mm Y=eJ (D.ar a) (ns.drop (j+1)) (ik s rs) mm (Y+1):=by
     rw[cx];exact L4 ch hf
    refine au ?_;refine ar 0 I (ba (x:=Y+1) qo) (Ji 2 1 I I I I (Ew (pt ag #[.slice av (eq s.vs) cv,.bool s.R6] 136::pt cb (bY (kM (Y+1) m) O) 126::N::hl::h::pt b (bY D V) 126::ho::(bI i1++(bI i2++(bI J++hs)))) I (Bf (au ?_))));refine cZ j ?_
    exact bn (x:=(⟨j,a3,mm,mw,hl,Y,rs,aR,cr⟩:sP)) (⟨j+1,a3,mm,mw,hl,Y+1,ik s rs,b7,b8⟩:sP) sb I I
     ⟨aC,Z,ab.symm.trans hQ,aS,ad,cF,aN,aD,aC,aC⟩ aC
  refine au ?_;obtain rfl:j=eq ns:=qo
  rw[aa6]at hQ;have c1:(mm,rs,Y)=eJ (D.ar a) (fb ((D.ar a).map (·.1))) qs [] room:=by rw[<-aE];exact hQ
  have U:fh D ((aU D).drop i) qs m room=fh D ((aU D).drop (i+1)) rs (if eq mm=0 then m else cj a mm m) Y:=by
   rw[bb];exact NG c1
  have aT:a∉m.map (·.1):=fun c8=>by
   have h1:=c6 a c8;have h2:=acl.1 (by rw[aaE];exact cm:((aU D).take i++(aU D).drop i).Nodup)
   grind
  have eE:(aU D).take (i+1)=(aU D).take i++[a]:=by rw[aaN,ha];rfl
  refine au ?_;refine QD 1 I Tryz.underlying129 (.inr ⟨2,I⟩) aS ?_;have eu:=ad.len;refine aw 0 I fun ep cY=>fin 0 I (th (ax cY I (fun cN=>?_) (fun cN=>?_)))
  ·have bp:eq mm≠0:=qo
   rw[aaa bp]at U;have cy:cj a mm m=m++[(a,mm)]:=rq (gI.2 aT)
   have bB:cj a bq (fe J)=fe (J++[(a,bq,hl)]):=by
    grind[rq,gI,pG,nR,fe]
   have hP:(hl::((pt b (bY D V) 126::ho::bI ins)++(bI J++hs))).Perm ((pt b (bY D V) 126::ho::bI ins)++(bI (J++[(a,bq,hl)])++hs)):=by
    have h1:=(aaQ (a:=hl) (l₁:=(pt b (bY D V) 126::ho::bI ins)++bI J) (l₂:=hs)).symm
    simp_all[bI]
   refine au ?_;refine sF 2 1 a bq I I Tryz.underlying124 gM I I aA fun a2 a0=>?_;rw[bB]at a0;refine Bi (hs':=[pt cb (bY (kM Y (cj a mm m)) O) 126,a2]++((pt b (bY D V) 126::ho::bI ins)++(bI (J++[(a,bq,hl)])++hs))) ((((hp.symm.cons _).trans hP).cons _).cons _) (au ?_);refine cZ i ?_
   refine bn (x:=(⟨i,aO,m,J,N,room,qs,aq,cq⟩:sO)) (⟨i+1,K2,cj a mm m,J++[(a,bq,hl)],a2,Y,rs,aR,cr⟩:sO) sb I I
    ⟨aC,(le.trans ae).trans Z,U.symm.trans hR,a0,?_,xr,fun p aV=>aL p (X p aV),aC,?_,aC,aC⟩ aC
   ·dsimp only;rw[cy];exact fH.app (az.le (ae.trans Z)) ⟨I,⟨mw,aS,ad⟩,trivial⟩
   grind
  have bp:eq mm=0:=qo
  rw[aab bp]at U;refine sk (Bk (hs':=hl::([pt cb (bY (kM Y m) O) 126,N]++((pt b (bY D V) 126::ho::bI ins)++(bI J++hs)))) ((((hp.symm.cons _).cons _).cons _).trans (iE _ 2 _ I)) (Bh (acW (cZ i ?_))))
  refine bn (x:=(⟨i,aO,m,J,N,room,qs,aq,cq⟩:sO)) (⟨i+1,K2,m,J,N,Y,rs,aR,cr⟩:sO) sb I I
   ⟨aC,(le.trans ae).trans Z,U.symm.trans hR,aA,az.le (ae.trans Z),xr,fun p aV=>aL p (X p aV),aC,fun k hk=>by grind,aC,aC⟩ aC
 obtain rfl:i=eq (aU D):=qo
 rw[aa6]at hR;have c2:(m,room)=fh D (aU D) ps [] D.room:=hR;have hD:D.Ke ps=kM room m:=by unfold Dk.Ke;rw[ct,<-c2]
 refine ex (xt (xt (xb (acV (fin 2 I (ac0 (Bk (hs':=(pt cb (bY (kM room m) O) 126::N::bI J)++((pt b (bY D V) 126::ho::bI ins)++hs)) (((aak (pt b (bY D V) 126::ho::bI ins) (bI J) hs).cons _).cons _) ?_)))))));exact af I I ⟨aY.trans le,cb,_,I,by rw[hD];exact⟨O,N,J,I,aA,az⟩,I⟩
end
section
def LX{s p v}(h:i8 s p=some v):v∈s.vs:=by
 grind[i8]
def z7(l:Ar)(y:Int×gx):Prop:=∃s,aZ y.1 l=some s/\∃v∈s.vs,y.2=⟨[v],true⟩
theorem zm(l):∀(ns:Ae) (ps:Ae) (m:Ar) (room:Int),(∀y∈m,z7 l y)->(∀n∈ns,∃s,aZ n l=some s)->∀y∈(eJ l ns ps m room).1,z7 l y
 |[],ps,m,room,h,_=>h
 |n::r,ps,m,room,h,hl=>by
  obtain⟨s,hs⟩:=hl n Q8;have e:(aZ n l).getD lV=s:=by rw[hs];rfl
  unfold eJ;rw[e];cases hf:i8 s (jM s ps)with
  |some v=>
   refine zm l r _ _ _ (fun y J=>?_) (fun j hj=>hl j (by simp[hj]));rcases iX J with rfl|J
   ·exact⟨s,hs,v,LX hf,I⟩
   exact h y J
  |none=>exact zm l r _ _ _ h (fun j hj=>hl j (by simp[hj]))
def Hj(D:Dk)(x:Int×Ar):Prop:=(x.2.map (·.1)).Nodup/\eq x.2<=eq (D.ar x.1)/\∀y∈x.2,z7 (D.ar x.1) y
def oI(D:Dk)(ks:Ae):Nat:=(ks.map fun a=>eq (D.ar a)).sum
theorem zn{c D}(o:D.Ok c):∀(ks:Ae) (ps:Ae) (m:List (Int×Ar)) (room:Int),ks.Nodup->(∀a∈ks,aZ a m=none)->(∀x∈m,Hj D x) ->
  (∀x∈(fh D ks ps m room).1,Hj D x)/\(fh D ks ps m room).2+(fo (fh D ks ps m room).1:Int)<=room+(fo m:Int)+(oI D ks:Int)
 |[],ps,m,room,_,_,h=>⟨h,by simp[fh,oI]⟩
 |a::r,ps,m,room,hn,O,h=>by
  have hn:=aa9.1 hn
  have Y:((D.ar a).map (·.1)).Nodup:=by
   unfold Dk.ar;cases hg:aZ a D.Iz with
   |none=>simp
   |some l=>exact(o.ns _ (gS hg)).1
  have U:∀n∈fb ((D.ar a).map (·.1)),∃s,aZ n (D.ar a)=some s/\s.vs≠[]:=by
   intro n hn;have hn:=(dW _).mem_iff.1 hn;cases hg:aZ n (D.ar a)with
   |none=>exact absurd hn (gI.1 hg)
   |some s=>
    refine⟨s,I,?_⟩;have N:=gS hg;unfold Dk.ar at N;cases hg2:aZ a D.Iz with
    |none=>rw[hg2]at N;simp at N
    |some l=>rw[hg2]at N;exact(o.vs _ (gS hg2) _ N).1
  obtain⟨q1,q2,q3,q4,q5,X⟩:=ue (D.ar a) (fb ((D.ar a).map (·.1))) ps [] room ((dW _).symm.nodup Y) (fun _ _=>rfl) U Q8;have q7:=zm (D.ar a) (fb ((D.ar a).map (·.1))) ps [] room Q8 (fun n hn=>let⟨s,N,_⟩:=U n hn;⟨s,N⟩);have Z:eq (fb ((D.ar a).map (·.1)))=eq (D.ar a):=by rw[(dW _).length_eq,aaM]
  have aa:oI D (a::r)=eq (D.ar a)+oI D r:=by simp[oI]
  unfold fh;generalize eJ (D.ar a) (fb ((D.ar a).map (·.1))) ps [] room=R at q1 q2 q3 q4 q5 X q7;obtain⟨l,V,J⟩:=R;dsimp only at q1 q2 q3 q4 q5 X q7⊢;rw[Z]at q5 X;simp only[aaT]at X
  by_cases h0:eq l=0
  ·rw[aab h0];obtain⟨r1,r2⟩:=zn o r V m J hn.2 (fun b hb=>O b (by simp[hb])) h;exact⟨r1,qo⟩
  rw[aaa h0];have ht:=s8 (a:=a) (l:=l) m;rw[O a Q8]at ht;simp only[abs,aaT]at ht
  obtain⟨r1,r2⟩:=zn o r V (cj a l m) J hn.2 (fun b hb=>by rw[l8,aaa (fun e=>hn.1 (by rw[<-e];exact hb))];exact O b (by simp[hb])) (fun x hx=>by
   rcases iX hx with rfl|hx
   ·exact⟨q3,aC,q7⟩
   exact h x hx)
  exact⟨r1,qo⟩
theorem vM{κ ν}[DecidableEq κ]:∀{m:List (κ×ν)},(m.map (·.1)).Nodup->∀x∈m,aZ x.1 m=some x.2
 |(k,v)::m,h,x,J=>by
  simp only[aay,aa9]at h;rcases aaB.1 J with rfl|J
  ·simp[aZ]
  have hne:¬x.1=k:=fun e=>h.1 (by grind);simp only[aZ,hne,if_false];exact vM h.2 x J
def La{c D}(o:D.Ok c):oI D (aU D)=fo D.Iz:=by
 unfold oI aU fo;rw[((dW (D.Iz.map (·.1))).map fun a=>eq (D.ar a)).sum_nat,aa8]
 congr 1
 refine abn fun x J=>?_;simp only[Function.comp_apply];unfold Dk.ar;rw[vM o.keys x J]
 rfl
def Kh{n:Nat}{l:Ae}(h:l.Nodup)(hb:∀a∈l,0<=a/\a<(n:Int)):eq l<=n:=by
 have:=acr h (l₂:=(List.range n).map Int.ofNat) (fun a J=>aau.2 ⟨a.toNat,by have:=hb a J;rw[List.mem_range];omega,by grind⟩);simpa using this
theorem aW.Ke{c q D}(o:aW c D)(hq:eq D.Iz<=q)(ps):aW (65536+q) (D.Ke ps)/\eq (D.Ke ps).Iz<=q/\D.room<=(D.Ke ps).room:=by
 obtain⟨r1,r2,r3,r4,r5,r6⟩:=yv o.ok (aU D) ps [] (max D.room 0) ((dW _).symm.nodup o.ok.keys) (fun _ _=>rfl) Q8 Q8;obtain⟨Y,s2⟩:=zn o.ok (aU D) ps [] (max D.room 0) ((dW _).symm.nodup o.ok.keys) (fun _ _=>rfl) Q8;rw[La o.ok]at s2;have ab:=o.ok.room;have ad:=o.cap
 have V:∀k∈(D.Ke ps).Iz.map (·.1),k∈D.Iz.map (·.1):=fun k V=>by
  rcases r6 k V with h|h
  ·exact(dW _).mem_iff.1 h
  simp at h
 have ae:(D.Ke ps).room+(fo (D.Ke ps).Iz:Int)<=D.room+(fo D.Iz:Int):=by
  have:(fo ([]:List (Int×Ar)):Int)=0:=rfl;show(fh D (aU D) ps [] (max D.room 0)).2+(fo (fh D (aU D) ps [] (max D.room 0)).1:Int)<=_;omega
 have U:∀x∈(D.Ke ps).Iz,∃l,(x.1,l)∈D.Iz/\D.ar x.1=l:=fun x J=>by
  obtain⟨y,N,he⟩:=aau.1 (V x.1 (aau.2 ⟨x,J,rfl⟩));refine⟨y.2,by rw[<-he];exact N,?_⟩;unfold Dk.ar;rw[<-he,vM o.ok.keys y N]
  rfl
 have X:eq (D.Ke ps).Iz<=q:=by
  have h1:=acr r3 (l₂:=D.Iz.map fun x:Int×Ar=>x.1) (fun k h=>V k h);simp only[aaM]at h1;exact aat h1 hq
 have aa:∀x∈(D.Ke ps).Iz,∀y∈x.2,0<=y.1/\y.1<65536:=fun x J y N=>by
  obtain⟨_,_,Z⟩:=Y x J;obtain⟨l,hl,e⟩:=U x J;obtain⟨s,O,_⟩:=Z y N;rw[e]at O;have h:=o.ok.at_ _ hl _ (gS O);exact h
 refine⟨⟨⟨r3,fun x J=>?_,fun x J y N=>?_,?_,⟨aaD 0,by show(0:Int)<=_;omega⟩,⟨by show(-1:Int) <= -1;omega,by show(-1:Int)<=_;omega⟩,fun x J y N=>?_⟩,fun k h=>o.ar k (V k h),?_,qo⟩,X,?_⟩
 ·have h:=Kh (n:=65536) (Y x J).1 (fun a ha=>by
   grind)
  rw[aaM]at h;exact⟨(Y x J).1,qo⟩
 ·obtain⟨_,_,Z⟩:=Y x J;obtain⟨l,hl,e⟩:=U x J;obtain⟨s,O,v,g2,g3⟩:=Z y N;rw[e]at O;have hv:=o.ok.vs _ hl _ (gS O)
  grind
 ·show 0<=(fh D (aU D) ps [] (max D.room 0)).2/\(fh D (aU D) ps [] (max D.room 0)).2<=2^40;have:(D.Ke ps).room=(fh D (aU D) ps [] (max D.room 0)).2:=rfl;omega
 ·exact aa x J y N
 ·omega
 have:(D.Ke ps).room=(fh D (aU D) ps [] (max D.room 0)).2:=rfl;omega
def OX{dh:PH}(b D c)(o:aW c D)(hc:c<=1000000000)(hD:bM K b D dh)(ps)(O:∀p∈ps,-9223372036854775808<=p/\p<=9223372036854775807)(ap cp)(xp:aj K ap (eq ps) cp 1 (iv ps))(N:eq ps<2^40):
  ai w0 21 [Rp b,.slice ap (eq ps) cp] K (dh::hs)
   (fun v J hs'=>∃U V,hs'=V::dh::hs/\Le K J/\bM J U (D.Ke ps) V/\v=Rp U):=by
 obtain⟨m,rfl,d,hm⟩:=hD;refine⟨(FE (w0:=w0) (hs:=hs) b D c o hc hm ps O ap cp xp N).1,fun w hw=>((FE (w0:=w0) (hs:=hs) b D c o hc hm ps O ap cp xp N).2 w (hw.split d)).mono ?_⟩;rintro e w' ⟨v,J,hs',rfl,⟨le,U,m2,rfl,aa,rfl⟩,hS⟩;obtain⟨V,X⟩:=a7.join m2 hS;have Y:a7 w0 w' J (m++(dt m2::hs)):=X.perm (aak [dt m2] m hs);obtain⟨_,Z⟩:=a7.join m Y;exact⟨_,J,_,I,⟨U,dt m2,I,le,⟨m2,I,V,aa⟩,I⟩,Z.perm (aap _ _ _)⟩
end
section
def G7:QY:=⟨3,0,0,0,0,[],⟨0,0,[],[]⟩⟩
end
section
theorem wG(pl):∀(l:Ae) (D:Dk),Rm 0 D (Na pl l D).1
 |[],D=>Du _ D
 |a::r,D=>by
  rw[qN]
  split
  ·split
   ·exact m9 D a
   exact(m9 D a).trans<|wG pl r _
  exact wG pl r D
theorem wE(g):∀(l:Af) (D:Dk),Rm 0 D (wsettle g l D).1
 |[],D=>Du _ D
 |n::r,D=>by
  have J:Rm 0 D (fO D g n).1:=by
   unfold fO
   split
   ·exact m9 D _
   exact tZ D _
  rw[vG]
  split
  ·exact J.trans<|wE g r _
  exact J
def Lo(D fr first):Rm 0 D (dL D fr first).2.1:=by
 unfold dL
 split
 ·exact Du _ D
 split
 ·exact Du _ D
 split
 ·exact Du _ D
 split
 ·exact Du _ D
 split
 ·exact wE _ _ D
 exact wE _ _ D
def Lr(D first):Rm 0 D (eZ D first).2.1:=by
 unfold eZ
 split
 ·exact Du _ D
 split
 ·exact Du _ D
 split
 ·exact Du _ D
 split
 ·exact Du _ D
 rename_i h _;have N:=wG h.2.1 (aU D) D;unfold rJ
 split
 ·exact N
 have J:=N.trans (Lo (Na h.2.1 (aU D) D).1 h.2.2 (h.1.idx+1));unfold rI
 split
 ·exact J
 split
 ·exact J
 exact J
end
section
def jC(j:Nat):Nat:=100000+300*j
structure SB (j:Nat) (R:Nd) (L:Lg) (D:Dk):Prop where
 ni:NI (jC j) (10*j) 0 (25*j) R L D
 room:(16777216:Int)<=D.room+100*j
 ob:OB R
structure SI (v0:Ae) (j:Nat) (g:Gv) (v:Int) (R:Nd) (L:Lg) (D:Dk):Prop where
 sb:SB j R L D
 w:(∃F,NW v0 g v R L F/\Sq v0 (10*j) 0 L D)\/NX v0 (10*j) g v R L D
theorem Sq.room{v0}{M m n:Nat}{L D}(s:Sq v0 M m L D)(h:(n:Int)<=D.room):Sq v0 M n L D:=let⟨a,b⟩:=s;⟨⟨a.left,a.dead,h,a.keys⟩,b⟩
theorem SB.up{j i R L D}(h:SB j R L D)(k:j<=i):SB i R L D:=⟨h.ni.up (by unfold jC;omega) qo qo,by have:=h.room;omega,h.ob⟩
theorem SI.up{v0 j i g v R L D}(h:SI v0 j g v R L D)(k:j<=i):SI v0 i g v R L D:=by
 refine⟨h.sb.up k,?_⟩;rcases h.w with⟨F,x,s⟩|x
 ·exact .inl ⟨F,x,s.up qo (aac _)⟩
 exact .inr<|x.up qo
theorem SI.other{v0 j}{g h:Gv}{u v R L D}(x:SI v0 j g u R L D)(a:Gr v g h)(d:Gd ah.term dy v0 g)(hv:u≠v):SI v0 j h u R L D:=by
 refine⟨x.sb,?_⟩;rcases x.w with⟨F,y,s⟩|y
 ·exact .inl ⟨F,y.other a d hv,s⟩
 exact .inr<|y.gr a d hv
def NI.z0{c q z k R L D}(o:NI c q z k R L D)(h:R.ps.data=[]):NI c q 0 k R L D:=o.r {o.rb with ps:=by have:=o.rb.ps;simp_all}
section
variable {c q z k:Nat}{R:Nd}{L:Lg}{D:Dk}
theorem MP(o:NI c q z k R L D)(e)(J:e.idx<=ac/\e.term<=ac):Rm 11 D ((L.append [e] D).1.sync (L.append [e] D).2.1).2.1:=by
 have h:=wH o.rn.lb (D:=D) [e] (by simpa using J);exact(h.trans (tJ _ _)).up Q8
theorem Rm.lay(o:NI c q z k R L D)(U:c<=800000000)(kind data):Rm 11 D (R.lay L D kind data).2.2.1:=by
 have N:=o.last qo;have J:(⟨L.last+1,L.kt,kind,data⟩:ah).idx<=ac/\(⟨L.last+1,L.kt,kind,data⟩:ah).term<=ac:=⟨by grind[de,ac],o.rn.lb.kt⟩;have O:=wH o.rn.lb (D:=D) [⟨L.last+1,L.kt,kind,data⟩] (by simpa using J)
 grind[MP,Nd.lay]
theorem Rm.Qa(o:NI c q z k R L D)(J:c<=800000000)(l):Rm 11 D (R.Qa L D l).2.2.1:=by
 unfold Nd.Qa
 split
 ·exact Du _ D
 exact Rm.lay (o.T0 qo) J 0 []
theorem Rm.Qi(o:NI c q z k R L D)(X:c<=700000000)(O:L.kt<de)(l):Rm 12 D (R.Qi L D l).2.2.1:=by
 have N:L.kt+1<=ac:=by unfold de at O;unfold ac;omega
 have J:=o.Jc (L.kt+1) R.nd N;have U:=vZ L D (L.kt+1) R.nd;have V:=nb R.Kf J.rn.lb J.cf;unfold Nd.Qi;dsimp only
 split
 ·exact U.up qo
 exact(U.trans<|Rm.Qa (J.r<|(Rb.asks _ (R.Kf.Rr (L.Jc D (L.kt+1) R.nd).1) J.rb.Kf).up (j:=k+8) qo) qo l).up qo
theorem Rm.tick(o:NI c q z k R L D)(J:c<=700000000)(d):Rm 12 D (R.tick L D d).2.2.1:=by
 unfold Nd.tick
 split
 ·exact Du _ D
 split
 ·exact Du _ D
 unfold Nd.idle
 split
 ·exact Du _ D
 exact Rm.Qi (o.r<|o.rb.Ro d) J qo _
theorem Rm.app(o:NI c q z k R L D)(m)(hb:m.bd)(ho:m.ok)(N:m.kind=3):Rm 89 D (R.app L D m).2.2.1:=by
 have J:=(rA ho N).2;have hm:=Lq o.rn.lb (D:=D) m.idx m.lt m.Jg (fun e J=>⟨(hb.Jg e J).1,(hb.Jg e J).2.1⟩);unfold Nd.app;dsimp only
 repeat' split
 ·exact Du _ D
 ·exact hm.up qo
 ·exact hm.up qo
 ·exact hm.up qo
 ·exact(hm.trans<|tJ _ _).up qo
 exact(hm.trans<|tJ _ _).up qo
theorem Rm.inst(o:NI c q z k R L D)(m):Rm (4*z+3) D (R.inst L D m).2.2.1:=by
 have hp:=o.rb.ps
 grind[IA,up,Nd.inst]
theorem Rm.chunk(o:NI c q z k R L D)(m)(hb:m.bd)(ho:m.ok)(O:m.kind=5):Rm (4*z+7) D (R.chunk L D m).2.2.1:=by
 have U:=lG ho;have J:=o.rb.Qb (x:=m.Jl) qo;have N:=J.piece m hb ho O;unfold Nd.chunk;dsimp only
 repeat' split
 ·exact Du _ D
 ·exact Du _ D
 ·exact Du _ D
 exact(Rm.inst (o.r N) m).up qo
theorem Rm.asked(L D)(R:Nd)(m):Rm 1 D (R.asked L D m).2.2.1:=by
 grind[vZ,Rm.refl,Nd.asked]
theorem Rm.Qe(o:NI c q z k R L D)(J:c<=800000000)(m):Rm 11 D (R.Qe L D m).2.2.1:=by
 unfold Nd.Qe
 split
 ·exact Du _ D
 have h:Rb z (k+1) {R with yes:=R.yes++[m.Jl]}:={o.rb.up (aaq k)with yes:=by have:=o.rb.yes;simp;omega};exact Rm.Qa (o.r h) J _
theorem Rm.Qj(o:NI c q z k R L D)(J:c<=700000000)(m)(hb:m.bd)(ho:m.ok):Rm (4*z+96) D (R.Qj L D m).2.2.1:=by
 unfold Nd.Qj
 split
 ·exact(Rm.asked L D R m).up qo
 split
 ·grind[Rm.Qe,up]
 split
 ·grind[Rm.app,up]
 split
 ·exact Du _ D
 split
 ·rename_i h;exact(Rm.chunk o m hb ho h).up qo
 grind[Rm.refl]
theorem Rm.take(o:NI c q z k R L D)(O:c<=600000000)(m)(hb:m.bd):Rm (4*z+97) D (R.take L D m).2.2.1:=by
 unfold Nd.take
 split
 ·exact Du _ D
 split
 ·exact Du _ D
 rename_i U
 split
 ·exact Du _ D
 have ho:m.ok:=by
  simp_all[enc]
 have J:=vZ L D m.term (-1);have N:=o.raise m.term hb.term;unfold Nd.Sk;dsimp only
 split
 ·split
  ·exact J.up qo
  unfold Nd.Ru
  split
  ·exact J.up qo
  exact(Rm.trans (F:=_) (show Rm 1 D (R.raise L D m.term).2.2.1 from J)<|Rm.Qj N qo m hb ho).up qo
 unfold Nd.Ru
 split
 ·exact Du _ D
 exact(Rm.Qj o qo m hb ho).up qo
theorem Rm.Jk(o:NI c q z k R L D)(J:c<=800000000)(b):Rm 11 D (R.Jk L D b).2.2.1:=by
 grind[Rm.refl,Rm.lay,Nd.Jk]
theorem Rm.change(o:NI c q z k R L D)(N:c<=800000000)(a u):Rm 11 D (R.change L D a u).2.2.1:=by
 have J:=o.last qo;unfold Nd.change;dsimp only
 split
 ·exact Du _ D
 split
 ·exact Du _ D
 split
 ·split
  ·exact Du _ D
  exact Rm.lay (o.r (o.rb.Jp u (p:=Pr.new (L.last+1)) ⟨by unfold de;exact(by decide:0+1<=2^62),J,by show 0<=ac;omega,aaD 0,by show(0:Int)<=2097152;omega⟩)) N 2 _
 grind[Rm.refl,Rm.lay]
def Rm.TS(o:NI c q z k R L D)(i data)(J:eq data<=3):Rm 3 D (R.save L D i data).2.2.1:=by
 unfold Nd.save
 split
 ·exact Du _ D
 split
 ·exact Du _ D
 exact(CU L ⟨i,(L.Ka i).1,(ei L.sn L.l i).1,data⟩ (L.RX o.rn.lb _) D).up aC
end
section
variable {v0:Ae}{j:Nat}{g:Gv}{v:Int}{R:Nd}{L:Lg}{D:Dk}
def Sc(v0:Ae)(j:Nat)(g:Gv)(v:Int)(R:Nd)(L:Lg)(D:Dk):Prop:=∃h,Gr v g h/\GG v0 h/\SI v0 (j+1) h v R L D
theorem Sc.of{R' L' D'}(x:SI v0 j g v R L D)(ni:NI (jC j+200) (10*j+10) 1 (25*j+25) R' L' D')(O:Rm 100 D D')(ob:OB R')(N:Oc v0 (10*j+10) g v R' L' D'):Sc v0 j g v R' L' D':=by
 obtain⟨h,a,G,y⟩:=N;refine⟨h,a,G,⟨⟨?_,?_,ob⟩,?_⟩⟩
 ·have J:R'.ps.data=[]:=by
   rcases y with⟨F,y,_⟩|y
   ·exact y.vv.ps
   exact y.ps
  exact(ni.z0 J).up (by unfold jC;omega) qo qo
 ·have:=x.sb.room;unfold Rm at O;omega
 exact y
def Sc.same(x:SI v0 j g v R L D)(G:GG v0 g):Sc v0 j g v R L D:=⟨g,Cw v g,G,x.up (aaq j)⟩
def SI.TM(x:SI v0 j g v R L D)(hj:j<=100000){F:List ah}(s:Sq v0 (10*j) 0 L D):Sq v0 (10*j) 1000 L D:=s.room (by have:=x.sb.room;omega)
variable (hv:(bG v0).isSome=true) (hj:j<=100000)
include hv hj
theorem SI.tick(x:SI v0 j g v R L D)(G:GG v0 g)(dr):Sc v0 j g v (R.tick L D dr).1 (R.tick L D dr).2.1 (R.tick L D dr).2.2.1:=by
 have o:=x.sb.ni;have J:jC j<=30100000:=by unfold jC;omega
 rcases x.w with⟨F,y,s⟩|y
 ·exact Sc.of x ((o.tick qo dr).Sa qo qo qo qo) ((Rm.tick o qo dr).up qo) (x.sb.ob.tick o qo qo dr)<|(y.tick hv G (n:=100) ((x.TM hj (F:=F) s).up (aac _) qo) o qo qo dr).up qo
 rw[Nf y.hl];exact Sc.same x G
theorem SI.take(x:SI v0 j g v R L D)(G:GG v0 g){m}(hb:m.bd)(hm:MG v0 g m):Sc v0 j g v (R.take L D m).1 (R.take L D m).2.1 (R.take L D m).2.2.1:=by
 have o:=x.sb.ni;have J:jC j<=30100000:=by unfold jC;omega
 rcases x.w with⟨F,y,s⟩|y
 ·exact Sc.of x ((o.take (j:=2) qo qo m hb).Sa qo qo qo qo) ((Rm.take o qo m hb).up qo) (x.sb.ob.take o qo qo m hb)<|(y.take hv G (n:=100) ((x.TM hj (F:=F) s).up (aac _) qo) o qo qo hb hm).up qo
 rw[Ng y.hl];exact Sc.same x G
theorem SI.Jk(x:SI v0 j g v R L D)(G:GG v0 g)(b):Sc v0 j g v (R.Jk L D b).1 (R.Jk L D b).2.1 (R.Jk L D b).2.2.1:=by
 have o:=x.sb.ni;have J:jC j<=30100000:=by unfold jC;omega
 rcases x.w with⟨F,y,s⟩|y
 ·exact Sc.of x ((o.Jk qo b).Sa qo qo qo qo) ((Rm.Jk o qo b).up qo) (x.sb.ob.Jk o qo qo b)<|(y.Jk hv G (n:=100) ((x.TM hj (F:=F) s).up (aac _) qo) o qo qo b).up qo
 rw[IT y.hl];exact Sc.same x G
theorem SI.change(x:SI v0 j g v R L D)(G:GG v0 g)(a u):Sc v0 j g v (R.change L D a u).1 (R.change L D a u).2.1 (R.change L D a u).2.2.1:=by
 have o:=x.sb.ni;have J:jC j<=30100000:=by unfold jC;omega
 rcases x.w with⟨F,y,s⟩|y
 ·exact Sc.of x ((o.change qo a u).Sa qo qo qo qo) ((Rm.change o qo a u).up qo) (x.sb.ob.change o qo qo a u)<|(y.change hv G (n:=100) ((x.TM hj (F:=F) s).up (aac _) qo) o qo qo a u).up qo
 rw[Ko y.hl];exact Sc.same x G
theorem SI.save(x:SI v0 j g v R L D)(G:GG v0 g)(i b)(hb:eq b<=3):Sc v0 j g v (R.save L D i b).1 (R.save L D i b).2.1 (R.save L D i b).2.2.1:=by
 have o:=x.sb.ni;have J:jC j<=30100000:=by unfold jC;omega
 rcases x.w with⟨F,y,s⟩|y
 ·exact Sc.of x ((o.save (j:=2) qo qo i b 1 qo).Sa qo qo qo qo) ((Rm.TS o i b hb).up qo) (x.sb.ob.save i b)<|(y.save hv G (n:=100) ((x.TM hj (F:=F) s).up (aac _) qo) o qo qo i b hb).up qo
 rw[Nh y.hl];exact Sc.same x G
omit hv hj in
theorem SI.told(x:SI v0 j g v R L D):SI v0 j g v {R with out:=[]} L D:=by
 refine⟨⟨x.sb.ni.r {x.sb.ni.rb with out:=aad _},x.sb.room,OB.nil I⟩,?_⟩;rcases x.w with⟨F,y,s⟩|y
 ·exact .inl ⟨F,y.told,s⟩
 exact .inr {y with out:=I}
omit hv hj in
theorem SI.out(x:SI v0 j g v R L D):∀m∈R.out,MG v0 g m:=by
 rcases x.w with⟨F,y,s⟩|y
 ·exact y.vv.out
 rw[y.out];simp
theorem SI.arm(x:SI v0 j g v R L D)(i)(hi:i<=9223372036854775807):SI v0 j g v R L (D.arm i):=by
 have o:=x.sb.ni
 have N:aW (jC j) (D.arm i):=by
  have:=o.rn.ok;unfold Dk.arm
  split
  ·exact this
  exact⟨⟨this.ok.keys,this.ok.ns,this.ok.vs,this.ok.room,this.ok.steps,⟨aC,aC⟩,this.ok.at_⟩,this.ar,this.len,this.cap⟩
 have J:(D.arm i).Iz=D.Iz/\(D.arm i).room=D.room/\(D.arm i).dead=D.dead:=by unfold Dk.arm;split<;>exact⟨rfl,rfl,rfl⟩
 refine⟨⟨⟨o.rb,⟨o.rn.lb,N,o.rn.Jd,by rw[J.1];exact o.rn.ar⟩,o.cf⟩,by rw[J.2.1];exact x.sb.room,x.sb.ob⟩,?_⟩;rcases x.w with⟨F,y,⟨al,O,S,op,U,ps⟩⟩|y
 ·exact .inl ⟨F,y,⟨by unfold Dk.arm;split;exact al.left;dsimp only;omega,by rw[J.2.2];exact al.dead,by rw[J.2.1];exact al.room,by rw[J.1];exact al.keys⟩,O,S,op,U.same J.1,ps⟩
 have:D.arm i=D:=by unfold Dk.arm;rw[aab y.dead]
 rw[this];exact .inr y
theorem SI.Ti(x:SI v0 j g v R L D)(Z:0<=v/\v<7)(ps):aW (65536+10*j) (D.Ke ps)/\∃J E,eZ (D.Ke ps) v0=(some J,E,0)/\SI v0 (j+1) g v (Nd.new v J) J E:=by
 have o:=x.sb.ni;obtain⟨c1,c2⟩:=Dh o.rn.ok ps;obtain⟨oC,qC,rC⟩:=o.rn.ok.Ke o.rn.ar ps;obtain⟨J,E,F,V,h2,h3,X,h5,S,U⟩:=Go.En.Ti hv (show 10*j<=2000000 by omega) x.w c1 c2;have N:=(Rn.opened oC qC (first:=v0) (L:=J) (by rw[V])).1;have aa:=Lr (D.Ke ps) v0;rw[V]at N aa
 have Y:J.cf:=by
  rcases U.RD with⟨_,h,_⟩|⟨_,_,_,_,_,_,_,h⟩
  all_goals simp_all[Lg.cf]
 have ab:=N.lb.idx
 have O:(16777216:Int)<=E.room+100*((j+1:Nat):Int):=by
  have:=x.sb.room
  grind[Rm]
 refine⟨oC,J,E,V,⟨⟨?_,O,OB.nil I⟩,.inl ⟨F,h2,?_⟩⟩⟩
 ·refine⟨(⟨Z,.inl I,by show -1<=(-1:Int)/\(-1:Int)<7;decide,?_,⟨aaD 0,by show(0:Int)<=_;omega⟩,⟨aaD 0,by show(0:Int)<=31;decide⟩,aad _,aad _,fun u=>?_,⟨aad _,aad _,aad _,aad _⟩,aad _⟩),N.up (by unfold jC;omega) qo,Y⟩
  ·show J.sn.idx<=ac
   grind[bX,ac]
  exact(by simp[Pr.ok,de]:Pr.ok ⟨0,0,0,false,0⟩)
 exact⟨⟨by rw[X.left];decide,X.dead,X.room,h5⟩,h3.up qo,S,none,U.up qo,nN (fun o h=>by cases h) U.ok U.Jj U.vk.lv⟩
end
end
section
structure pq where
 n:Nat
 t:Nat
 Jn:Nat
 idx:Nat
 lead:Nat
 Je:Nat
structure mQ (g:Gv) (x:pq):Prop where
 rn:0<x.Jn/\x.Jn<=g.RN x.t
 ex:∃E0:Nat->Prop,(∀t,E0 t->g.E t)/\(∀t,E0 t->∀s,jP ah.term (g.H t) s->E0 s)/\(∀t v c,E0 t->g.Ve t v c->g.RB x.t x.Jn t v c)/\(x.lead=0\/E0 x.lead)/\(x.Je<=x.idx\/∃t,E0 t/\x.t<t)
section
variable {v0:Ae}{g h:Gv}{v:Int}{R:Nd}{L:Lg}{D:Dk}{F:List ah}{c q z k:Nat}
def mQ.gr{x}(y:mQ g x)(a:Gr v g h)(d:Gd ah.term dy v0 g):mQ h x:=by
 obtain⟨⟨Y,J⟩,N,h0,O,U,V,X⟩:=y;refine⟨⟨Y,aat J (a.rn _).1⟩,N,fun t e=>(a.e t (h0 t e)).1,fun t e s hs=>O t e s (by rw[a.hh d (h0 t e)]at hs;exact hs),fun t u b e hv=>?_,V,X⟩;rw[a.rb _ _ J];exact U t u b e ((a.TJ t u b hv).resolve_right fun n=>n (h0 t e))
def NW.Ua(x:NW v0 g v R L F):L.cfg.1=bU dy v0 F:=by
 have J:L.last=eq F:=x.fl.len;have:=(x.fl.cfg (i:=eq F) x.fl.le (aac _)).1
 simp_all[Lg.cfg]
theorem mQ.heard{x}(y:mQ g x)(w:NW v0 g v R L F)(G:GG v0 g)(o:NI c q z k R L D)(U:R.heard L x.t x.Jn=true):x.lead<=x.t/\x.Je<=x.idx:=by
 obtain⟨⟨r1,r2⟩,E0,h0,V,h2,h3,h4⟩:=y;unfold Nd.heard at U;rw[aaJ,decide_eq_true_iff]at U;obtain⟨⟨hl,ht,hr⟩,Y⟩:=U;have J:=sY hl;obtain⟨e,l1,l2,l3,l4⟩:=w.vv.lead J;have N:gf L.cfg.1:=jB o.rn.lb o.cf L.last
 have still:=G.d.still e h0 V (R:=fun u=>u∈R.nd::(R.Rr L).filter fun u=>decide (x.Jn<=(R.p u).rd)) (by rw[l2,<-w.Ua];exact DY N.nodup Y) (fun u t b hu et X O=>by
  rcases aaB.1 hu with rfl|hu
  ·rw[w.nd]at O;rcases w.dv.vt t b (G.d.vv _ _ _ O)with h|⟨h,_⟩<;>omega
  obtain⟨m1,m2⟩:=abA.1 hu;have m2:=of_decide_eq_true m2;have Z:=N.mem (abA.1 m1).1;have hp:=(w.vv.pr J u.toNat).rd x.Jn r1 m2 t b
  grind)
 grind
theorem BK(b L):∀(l:Ae) (R:Nd),(Nd.Qd b L l R).Jn=R.Jn/\(Nd.Qd b L l R).Je=R.Je
 |[],R=>⟨rfl,rfl⟩
 |u::r,R=>by
  unfold Nd.Qd;obtain⟨J,N⟩:=BK b L r ((if b=true then R.Jp u {R.p u with ws:=false}else R).send L u);obtain⟨_,_,O,U⟩:=BS (if b=true then R.Jp u {R.p u with ws:=false}else R) L u;rw[J,N,O,U]
  split<;>exact⟨rfl,rfl⟩
def NW.own(x:NW v0 g v R L F)(G:GG v0 g)(V:R.role=2)(hs:R.settled L=true):eq (g.H L.kt)<R.Je:=by
 obtain⟨e,l1,X,l3,l4⟩:=x.vv.lead V;have O:=x.vv.nz qo;have N:=x.vv.Je.le;have J:(En.Ka L.sn L.l R.Je).1=L.kt:=of_decide_eq_true hs;rw[x.fl.Ka x.sc N]at J;have J:fL (F.take R.Je)=L.kt:=J
 have hne:R.Je≠0:=fun h0=>by
  rw[h0]at J;exact O J.symm
 rw[mX hne N]at J;obtain⟨y,U⟩:∃y,F[R.Je-1]?=some y:=⟨_,aai qo⟩;rw[U]at J;have J:y.term=L.kt:=J;obtain⟨Y,Z⟩:=G.d.SU e (by rw[X];exact U);omega
def NW.TV(x:NW v0 g v R L F)(G:GG v0 g):∃h,Gr v g h/\GG v0 h/\NW v0 h v (R.read L).1 L F/\((R.read L).2.2.2=0->∀n lead Je:Nat,(lead=0\/g.E lead)->(∃t F,dC g t F Je)->mQ h ⟨n,L.kt,(R.read L).2.1,(R.read L).2.2.1,lead,Je⟩):=by
 unfold Nd.read
 split
 ·grind[Gr.refl]
 rename_i hl
 split
 ·grind[Gr.refl]
 rename_i hs;have U:=sY (aag.1 hl);obtain⟨e,l1,l2,l3,l4⟩:=x.vv.lead U;obtain⟨h,a,Z,Y,t2,t3,t4,t5⟩:=x.tell G U true;refine⟨h,a,Z,Y,fun _ n lead Je J N=>?_⟩;have O:(R.tell L true).Jn=R.Jn+1:=(BK true L (R.Rr L) {R with Jn:=R.Jn+1}).1;have hE:h.Ve=g.Ve:=by rw[t5]
 refine⟨⟨by show 0<(R.tell L true).Jn;omega,by show(R.tell L true).Jn<=_;rw[(Y.vv.lead t2).2.2.2.1];omega⟩,g.E,fun t et=>(a.e t et).1,fun t et s ⟨i,y,X,hs⟩=>?_,fun t u b et hv=>?_,J,?_⟩
 ·rw[a.hh G.d et]at X;rw[<-hs];exact((G.d.cg t _ (G.d.S0 t et).1).1 i y X).1
 ·show h.RB L.kt (R.tell L true).Jn t u b;rw[O,t4 rfl];rw[hE]at hv;exact G.d.vv _ _ _ hv
 show Je<=(R.tell L true).Je\/∃t,g.E t/\L.kt<t;rw[t3];obtain⟨t,F',rfl|⟨T,m,C,V,h2,h3,h4⟩⟩:=N
 ·omega
 have eT:=(G.d.ct T m C V).1;rcases act T L.kt with hT|hT|hT
 ·have h5:=(G.d.lc (fun _=>True) T m C L.kt V e hT trivial).2.1;have h6:=x.own G U (by simpa using hs);omega
 all_goals grind
end
structure Wp where
 fl:List bg
 ld:List (Nat×Nat)
 vt:List (Nat×Int×Nat)
 rd:List pq
 Je:Nat
 lead:Nat
structure WS (v0:Ae) (g:Gv) (N:Nat) (W:Wp):Prop where
 fl:∀m∈W.fl,MG v0 g m/\m.bd
 ld:∀p∈W.ld,g.E p.1/\g.Ld p.1=p.2
 vt:∀p∈W.vt,g.Vt p.2.2 p.1 p.2.1
 rd:∀r∈W.rd,mQ g r/\r.n<N
 Je:∃t F,dC g t F W.Je
 lead:W.lead=0\/g.E W.lead
theorem WS.gr{v0}{g h:Gv}{v N W}(x:WS v0 g N W)(a:Gr v g h)(d:Gd ah.term dy v0 g):WS v0 h N W where
 fl m hm:=⟨(x.fl m hm).1.gr a d,(x.fl m hm).2⟩
 ld p hp:=by
  obtain⟨J,O⟩:=x.ld p hp;exact⟨(a.e _ J).1,by rw[(a.e _ J).2];exact O⟩
 vt p hp:=a.vt _ _ _ (x.vt p hp)
 rd r hr:=⟨(x.rd r hr).1.gr a d,(x.rd r hr).2⟩
 Je:=let⟨t,F,c⟩:=x.Je;⟨t,F,c.gr a d⟩
 lead:=x.lead.imp id fun e=>(a.e _ e).1
structure qH where
 R:Nd
 L:Lg
 D:Dk
structure dR (v0:Ae) (j:Nat) (g:Gv) (ns:List qH) (W:Wp):Prop where
 G:GG v0 g
 s:WS v0 g (eq ns) W
 n:∀(i:Nat) (s:qH),ns[i]?=some s->SI v0 j g (i:Int) s.R s.L s.D
 l:eq ns<=7
section
variable {v0:Ae}{j:Nat}{g:Gv}{ns:List qH}{W:Wp}{i:Nat}{s:qH}
def dR.call(x:dR v0 j g ns W)(hi:ns[i]?=some s){s'}(c:Sc v0 j g (i:Int) s'.R s'.L s'.D):∃h,Gr (i:Int) g h/\dR v0 (j+1) h (ns.set i s') W:=by
 obtain⟨h,a,G,y⟩:=c;refine⟨h,a,G,by rw[aan];exact x.s.gr a x.G.d,fun k u J=>?_,by rw[aan];exact x.l⟩;rw[abI]at J
 split at J
 ·simp_all
 rename_i N;exact((x.n k u J).other a x.G.d qo).up (aaq j)
def dR.T4(x:dR v0 j g ns W){p q}(hp:p∈W.vt)(O:q∈W.vt)(J:p.1=q.1)(N:p.2.2=q.2.2):p.2.1=q.2.1:=by
 have a:=x.s.vt p hp;have b:=x.s.vt q O;rw[<-J,<-N]at b;exact x.G.d.Sb _ _ _ _ a b
theorem dR.leads(x:dR v0 j g ns W){p q}(hp:p∈W.ld)(J:q∈W.ld)(h:p.1=q.1):p.2=q.2:=by
 have a:=(x.s.ld p hp).2;have b:=(x.s.ld q J).2;rw[<-h]at b;omega
theorem dR.heard(x:dR v0 j g ns W){r}(N:r∈W.rd)(hs:ns[r.n]?=some s)(J:s.R.heard s.L r.t r.Jn=true):r.lead<=r.t/\r.Je<=r.idx:=by
 have y:=x.n r.n s hs;rcases y.w with⟨F,w,_⟩|w
 ·exact(x.s.rd r N).1.heard w x.G y.sb.ni J
 unfold Nd.heard at J;rw[aaJ,decide_eq_true_iff,tQ w.hl]at J;omega
def dR.seen(x:dR v0 j g ns W){W'}(h:WS v0 g (eq ns) W'):dR v0 j g ns W':=⟨x.G,h,x.n,x.l⟩
theorem dR.up(x:dR v0 j g ns W){k}(h:j<=k):dR v0 k g ns W:=⟨x.G,x.s,fun i s hi=>(x.n i s hi).up h,x.l⟩
theorem dR.told(x:dR v0 j g ns W)(hi:ns[i]?=some s):dR v0 j g (ns.set i ⟨{s.R with out:=[]},s.L,s.D⟩) W:=by
 refine⟨x.G,by rw[aan];exact x.s,fun k u J=>?_,by rw[aan];exact x.l⟩;rw[abI]at J
 split at J
 ·rename_i N;subst N
  split at J
  ·cases J;exact(x.n i s hi).told
  cases J
 exact x.n k u J
theorem dR.out(x:dR v0 j g ns W)(hi:ns[i]?=some s):∀m∈s.R.out,MG v0 g m/\m.bd/\m.Jl=(i:Int):=by
 have y:=x.n i s hi;intro m hm;obtain⟨J,N⟩:=y.sb.ob m hm;refine⟨y.out m hm,N,?_⟩;rw[J];rcases y.w with⟨F,w,_⟩|w
 ·exact w.nd
 exact w.nd
theorem dR.lead(x:dR v0 j g ns W)(hi:ns[i]?=some s)(J:s.R.role=2):g.E s.L.kt/\g.Ld s.L.kt=i:=by
 have y:=x.n i s hi;rcases y.w with⟨F,w,_⟩|w
 ·obtain⟨e,N,_⟩:=w.vv.lead J;exact⟨e,by rw[N];exact w.nd⟩
 exact absurd (w.role.symm.trans J) Q9
theorem dR.Je(x:dR v0 j g ns W)(hi:ns[i]?=some s):∃t F,dC g t F s.R.Je:=by
 rcases(x.n i s hi).w with⟨F,w,_⟩|w
 ·exact⟨_,_,w.vv.Je⟩
 exact w.Je
theorem dR.read(hj:j<=100000)(x:dR v0 j g ns W)(hi:ns[i]?=some s):∃h,dR v0 (j+1) h (ns.set i ⟨(s.R.read s.L).1,s.L,s.D⟩) W/\((s.R.read s.L).2.2.2=0->mQ h ⟨i,s.L.kt,(s.R.read s.L).2.1,(s.R.read s.L).2.2.1,W.lead,W.Je⟩):=by
 have y:=x.n i s hi;have o:=y.sb.ni
 have key:∃h,Gr (i:Int) g h/\GG v0 h/\SI v0 (j+1) h (i:Int) (s.R.read s.L).1 s.L s.D/\((s.R.read s.L).2.2.2=0->mQ h ⟨i,s.L.kt,(s.R.read s.L).2.1,(s.R.read s.L).2.2.1,W.lead,W.Je⟩):=by
  rcases y.w with⟨F,w,sq⟩|w
  ·obtain⟨h,a,O,N,rd⟩:=w.TV x.G;refine⟨h,a,O,?_,fun U=>rd U i W.lead W.Je x.s.lead x.s.Je⟩;refine⟨⟨(((o.read.Sa qo qo qo qo):NI (jC j+200) (10*j+10) 0 (25*j+25) _ _ _)).up (by unfold jC;omega) qo qo,by have:=y.sb.room;omega,y.sb.ob.read o qo⟩,.inl ⟨F,N,sq.up qo (aac _)⟩⟩
  rw[Nj w.hl];exact⟨g,Cw _ g,x.G,y.up (aaq j),fun h=>absurd h (by decide:¬(202:Int)=0)⟩
 obtain⟨h,a,G,N,rd⟩:=key;refine⟨h,⟨G,by rw[aan];exact x.s.gr a x.G.d,fun k u J=>?_,by rw[aan];exact x.l⟩,rd⟩;rw[abI]at J
 split at J
 ·grind
 rename_i V;exact((x.n k u J).other a x.G.d qo).up (aaq j)
end
end
section
def g0:Gv:=⟨fun _=>False,fun _=>0,fun _=>[],fun _ _=>False,fun _ _=>[],fun _ _ _=>False,fun _ _ _=>False,fun _ _ _=>False,fun _ _ _=>False,fun _=>0,fun _ _ _ _ _=>False⟩
def Q3(v0):GG v0 g0:=
 ⟨⟨fun _ h=>h.elim,fun _ _ _ h=>h.elim,fun _ h=>h.elim,fun _ h=>h.elim,fun _ _ h=>h.elim,fun _ _ _ _ h=>h.elim,fun _ _ _ h=>h.elim,fun _ _ _ _ h=>h.elim,fun _ _ _ h=>h.elim,fun _ _ _ h=>h.elim,fun _ _ _ h=>h.elim,fun _ _ _ _ _ h=>h.elim,fun _ _ _ _ _ h=>h.elim,fun _ _ _ h=>h.elim,fun _ _ _ _ _ h=>h.elim,fun _ _ _ _ h=>h.elim,fun _ h=>absurd rfl h⟩,fun _ h=>h.elim⟩
def bH.nd(s:bH):qH:=⟨s.R,s.L,s.D⟩
def uy{v}(h:1<=v/\v<=7):(bG (dO v)).isSome=true:=by
 have:∀v<8,1<=v->(bG (dO v)).isSome=true:=by decide
 exact this v qo h.1
def QX{v i:Nat}(hv:1<=v/\v<=7)(hi:i<7):SI (dO v) 0 g0 (i:Int) (Nd.new (i:Int) (iS v)) (iS v) (eX 16777216):=by
 have O:=Dh (yu (r:=16777216) qo) [];rw[show(eX 16777216).Ke []=eX 16777216 from by kernel_rfl]at O;obtain⟨L,E,S,V,_,_,J,X,N,Y⟩:=Nr (uy hv) (D:=eX 16777216) rfl _ O.1 O.2;have h:=uF hv;rw[V]at h;have U:L=iS v:=aaW (congrArg Prod.fst h);have e2:E=eX 16777216:=congrArg (fun p=>p.2.1) h;subst U e2;refine⟨⟨(FL hi hv (zQ hv)).up qo qo qo,by show(16777216:Int)<=(eX 16777216).room+100*((0:Nat):Int);decide,OB.nil rfl⟩,.inl ⟨[],NW.Tr ⟨fun k e h=>(by cases h),fun e h=>(by cases h),fun _ _ h=>h.elim,fun _ _ h=>h.elim,fun _ h=>h.elim⟩ ⟨aac _,rfl,rfl,rfl,?_⟩ (.inl rfl) (aad _),⟨⟨by rw[N.left];decide,N.dead,N.room,Y⟩,X,S,none,J,nN (fun o h=>by cases h) J.ok J.Jj J.vk.lv⟩⟩⟩;intro k e h;cases h
def Qt{v n ss}(hv:1<=v/\v<=n/\n<=7)(b:vB v n ss):dR (dO v) 0 g0 (ss.map bH.nd) ⟨[],[],[],[],0,0⟩:=by
 refine⟨Q3 _,⟨fun m h=>(by cases h),fun p h=>(by cases h),fun p h=>(by cases h),fun p h=>(by cases h),⟨0,[],.inl I⟩,.inl I⟩,fun i s hs=>?_,by rw[aaM,b.1];exact hv.2.2⟩;rw[abf]at hs;cases hq:ss[i]? with
 |none=>rw[hq]at hs;cases hs
 |some t=>
  rw[hq]at hs;cases hs;obtain⟨J,N,O⟩:=b.2 i t hq;have hi:=(aav.1 hq).1;show SI (dO v) 0 g0 (i:Int) t.R t.L t.D;rw[J,N,O];exact QX ⟨hv.1,qo⟩ (by have:=b.1;omega)
end
section
def NF{h:PH}{lb db L D}(hL:dV K lb db L D h)(c)(o:aW c D)(hc:c<=1000000000)(ps)(ae:∀p∈ps,-9223372036854775808<=p/\p<=9223372036854775807)(ap cp)(xp:aj K ap (eq ps) cp 1 (iv ps))(ad:eq ps<2^40):
  ai w0 21 [Rp db,.slice ap (eq ps) cp] K (h::hs)
   (fun v O hs'=>∃V J,hs'=J++V::hs/\V=h/\∃U N,J=[N]/\Le K O/\bM O U (D.Ke ps) N/\v=Rp U):=by
 obtain⟨m,rfl,d,hm⟩:=hL;obtain⟨wb,ag,eb,aV,cV,aD,cD,aL,cL,wh,hh,eh,gl,dh,X,hW,hH,hE,hG,hD,xV,xD⟩:=hm;have h5:(m++hs)[5]?=some dh:=by rw[X];rfl
 have Y:(m++hs).set 5 dh=m++hs:=by rw[X];rfl
 have c1:ai w0 21 [Rp db,.slice ap (eq ps) cp] K (m++hs) (fun v O hs'=>∃V J,hs'=J++(m++hs).set 5 V/\(V=dh/\∃U N,J=[N]/\Le K O/\bM O U (D.Ke ps) N/\v=Rp U)):=
  Ed (S:=fun v O V J=>V=dh/\∃U N,J=[N]/\Le K O/\bM O U (D.Ke ps) N/\v=Rp U) 5 h5 (Ct.mono (OX db D c o hc hD ps ae ap cp xp ad) fun v O hs' ⟨U,N,e,le,Z,hv⟩=>⟨dh,[N],e,rfl,U,N,rfl,le,Z,hv⟩)
 refine⟨c1.1,fun w hw=>(c1.2 w (hw.split d)).mono ?_⟩;rintro e w' ⟨v,O,hs',rfl,⟨V,J,rfl,rfl,U,N,rfl,le,Z,rfl⟩,hS⟩;rw[Y]at hS;have aa:a7 w0 w' O (m++(N::hs)):=hS.perm (aak [N] m hs);obtain⟨_,ab⟩:=a7.join m aa;exact⟨_,O,_,I,⟨_,[N],I,I,U,N,I,le,Z,I⟩,ab.perm (aap _ _ _)⟩
end
section
def cw(N:Value)(O:Nat)(F L V:Value)(J:Nat)(R:Value)(Je lead:Nat)(bad:Bool):Ah:=#[N,.int .i64 O,F,L,V,.map (some J),R,.int .u64 Je,.int .u64 lead,.bool bad]
def tO{w0:World}{K:PH}{hs:Ac}{wb vn bm Je lead N cap ao F L V R bad}(n):ai w0 63 [Rp wb,.int .i64 n] K (pt wb (cw (.slice ao N cap) vn F L V bm R Je lead bad) bw::hs)
  (fun v X hs'=>X=K/\hs'=pt wb (cw (.slice ao N cap) vn F L V bm R Je lead bad) bw::hs/\v=.int .i64 (if n<0\/N<=n then -1 else n)):=by
 refine ent Tryz.func63 ?_;refine au ?_;refine cG 1 (n<0) I Q8 fun b6 h6=>?_
 refine' dB (q:=(N:Int)<=n) 1 8 15 [6,7] h6 I I I I I I I (fun _=>?x2) (fun Z U=>?_)
 case x2=>
  refine au ?_;refine cG 1 ((N:Int)<=n) I Q8 fun Y O=>?_;exact fin 1 I (bJ O I I I)
 refine fin 0 I<|th (ax U I (fun J=>?_) (fun J=>?_))
 ·refine au ?_;exact af I I ⟨I,I,by rw[aab J]⟩
 refine au ?_;exact af I I ⟨I,I,by rw[aaa J]⟩
def QW(a:Addr)(m n):(a.add m).add n=a.add (m+n):=by
 unfold Addr.add
 grind
def nJ{ao cap}{ss:List bH}(x:aj K ao (eq ss) cap 3 (ss.flatMap bH.Ra)){i s}(hi:ss[i]?=some s):
  ∃a,ao=some a/\co K (a.add (i*3)) (.pointer (some ⟨s.db,0,none⟩))/\co K ((a.add (i*3)).add 1) (.pointer (some ⟨s.lb,0,none⟩))/\co K ((a.add (i*3)).add 2) (.pointer (some ⟨s.rb,0,none⟩)):=by
 have hl:=(aav.1 hi).1;obtain⟨a,rfl⟩:=x.addr (j:=i) hl qo
 have key:∀(l:List bH) (i:Nat),l[i]?=some s->∀j,j<3->(l.flatMap bH.Ra)[i*3+j]?=s.Ra[j]?:=by
  intro l
  induction l with
  |nil=>simp
  |cons t r V=>
   intro i h j hj;have ht:eq t.Ra=3:=rfl
   grind
 have c:∀j u,j<3->s.Ra[j]?=some u->co K ((a.add (i*3)).add j) u:=fun j u hj O=>by
  rw[show(a.add (i*3)).add j=a.add (i*3+j)from QW _ _ _];obtain⟨U,J,N⟩:=x.2.2 (i*3+j) u (by rw[key ss i hi j hj];exact O);cases J;exact N
 refine⟨a,I,?_,c 1 _ qo I,c 2 _ qo I⟩;have:=c 0 _ qo rfl
 simp_all[Addr.add]
def Pp{lh g gN:PH}{rb lb db c q z k R L D s}(iN:cX K rb lb db R L D s lh g)(o:NI c q z k R L D)(hc:c<=900000000)
  {wb vn bm Je lead cN aN F Ls V Rs bad} {ss:List bH} {i st} (hi:ss[i]?=some st) (am:st.lb=lb) (ow:aj gN aN (eq ss) cN 3 (ss.flatMap bH.Ra)) (e:ah) (ae ce) (xe:aj K ae (eq e.data) ce 1 (bv e.data)) (he:e.idx<2^64):
  ai w0 178 [Rp wb,.int .i64 (i:Nat),.agg (e.v ae ce)] K (pt rb (aH lb R s) RT::lh::g::pt wb (cw (.slice aN (eq ss) cN) vn F Ls V bm Rs Je lead bad) bw::gN::hs)
   (fun v K' hs'=>hs'=pt rb (aH lb R s) RT::lh::g::pt wb (cw (.slice aN (eq ss) cN) vn F Ls V bm Rs Je lead bad) bw::gN::hs/\Le K K'/\∃b:Bool,v=.bool b):=by
 have hb:=o.rn.lb;have hL:=iN.l;have ak:=(aav.1 hi).1;obtain⟨a,rfl,c0,c1,c2⟩:=nJ ow hi;rw[am]at c1;refine ent Tryz.func178 ?_;refine acY ?_;refine bx 0 I fun Z=>?_;refine Ez 0 (pt Z (e.v ae ce) 51) ?_;refine au ?_;refine dZ 1 i I I ow ak Q9 fun aE ad=>?_;cases ad;refine ld 1 I (.inr ⟨5,I⟩) c1 ?_;refine au ?_;refine cl 0 I (Er 2 I (FB lb db L D _ hb qo hL e.idx he)) ?_;rintro aO az aq ⟨lh,rfl,rfl,N,e1,O,U,an,rfl,ap,hm⟩;refine al 3 (.agg Il) I qk fun b8=>?_;refine bA 0 0 I I qk I I ?_;refine Ew (pt b8 (e1.v O U) 51::pt Z (e.v ae ce) 51::pt rb (aH lb R s) RT::lh::g::pt wb (cw (.slice (some a) (eq ss) cN) vn F Ls V bm Rs Je lead bad) bw::gN::hs) I ?_;refine au ?_;refine bC [0,1] 15 [0,6,8,3,4,10,12,14,16,18,20,23,24,26,28] ?_;refine au ?_
 refine cl 0 I (Er 3 I (qa lb db L D _ hb (hL.le N))) ?_;rintro aR aA av ⟨lh,rfl,rfl,J,Y,ab,X,aa,rfl,aV,aT⟩;refine Ew (pt b8 (e1.v O U) 51::pt Z (e.v ae ce) 51::pt rb (aH lb R s) RT::lh::g::pt wb (cw (.slice (some a) (eq ss) cN) vn F Ls V bm Rs Je lead bad) bw::gN::hs) I ?_;refine dX Q8 J ?_;refine sx qk 0 (v:=.int .u64 L.sn.idx) I (fun A w ha _=>nS (t:=48) (x:=.tmp 26) (i:=0) (v:=.agg (dg L.sn Y ab X aa)) I I Aq A w ha) ?_;refine dP qk 0 (e.idx<=L.sn.idx) I Q8 (fun ag=>?_) (fun ag=>?_)
 ·first|refine aB qk 0 rfl ?_|refine aB qk 1 rfl ?_|refine aB qk 2 rfl ?_|refine aB qk 3 rfl ?_|refine aB qk 4 rfl ?_|refine aB qk 5 rfl ?_|refine aB qk 6 rfl ?_|refine aB qk 7 rfl ?_|refine aB qk 8 rfl ?_|refine aB qk 9 rfl ?_|refine aB qk 10 rfl ?_|refine aB qk 11 rfl ?_
  refine Bc 1 I ?_;refine aP Q8 I ?_
  first|refine aI qk 0 rfl (ac0 (Bh (Bh ?_)))|refine aI qk 1 rfl (ac0 (Bh (Bh ?_)))|refine aI qk 2 rfl (ac0 (Bh (Bh ?_)))|refine aI qk 3 rfl (ac0 (Bh (Bh ?_)))|refine aI qk 4 rfl (ac0 (Bh (Bh ?_)))|refine aI qk 5 rfl (ac0 (Bh (Bh ?_)))|refine aI qk 6 rfl (ac0 (Bh (Bh ?_)))|refine aI qk 7 rfl (ac0 (Bh (Bh ?_)))|refine aI qk 8 rfl (ac0 (Bh (Bh ?_)))
  exact af I I ⟨I,N.trans J,_,I⟩
 cases an
 ·first|refine aB qk 0 rfl ?_|refine aB qk 1 rfl ?_|refine aB qk 2 rfl ?_|refine aB qk 3 rfl ?_|refine aB qk 4 rfl ?_|refine aB qk 5 rfl ?_|refine aB qk 6 rfl ?_|refine aB qk 7 rfl ?_|refine aB qk 8 rfl ?_|refine aB qk 9 rfl ?_|refine aB qk 10 rfl ?_|refine aB qk 11 rfl ?_
  refine Bc 1 I ?_;refine aP Q8 I ?_
  first|refine aI qk 0 rfl (ac0 (Bh (Bh ?_)))|refine aI qk 1 rfl (ac0 (Bh (Bh ?_)))|refine aI qk 2 rfl (ac0 (Bh (Bh ?_)))|refine aI qk 3 rfl (ac0 (Bh (Bh ?_)))|refine aI qk 4 rfl (ac0 (Bh (Bh ?_)))|refine aI qk 5 rfl (ac0 (Bh (Bh ?_)))|refine aI qk 6 rfl (ac0 (Bh (Bh ?_)))|refine aI qk 7 rfl (ac0 (Bh (Bh ?_)))|refine aI qk 8 rfl (ac0 (Bh (Bh ?_)))
  exact af I I ⟨I,N.trans J,_,I⟩
 refine au ?_;refine cl 0 I (BU e1 e O ae U ce (.inl I) (.inl I) (ap.le J) ((xe.le N).le J)) ?_;rintro aS aD ay ⟨rfl,rfl,aF,rfl,aL⟩;refine aP Q8 I ?_;refine aI qk 3 I (ac0 (Bh (Bh ?_)));exact af I I ⟨I,N.trans J,_,I⟩
end
section
def j7(e:ah)(ae:Ab)(ce seen:Nat):Ah:=#[.int .u64 e.idx,.int .u64 e.term,.int .i64 e.kind,.slice ae (eq e.data) ce,.int .u64 seen]
def jA(K:PH)(m:List (Int×Value)):Prop:=(m.map (·.1)).Nodup/\∀x∈m,∃e ae ce seen,x.2=.agg (j7 e ae ce seen)/\aj K ae (eq e.data) ce 1 (bv e.data)/\e.idx<2^64
theorem jA.le{K J:PH}(l:Le K J){m}(h:jA K m):jA J m:=⟨h.1,fun x V=>let⟨e,ae,ce,seen,N,O,U⟩:=h.2 x V;⟨e,ae,ce,seen,N,O.le l,U⟩⟩
def gW(p:Nat×Nat):Ad:=[.int .u64 p.1,.int .i64 p.2]
def LI(l p):(l++[p]).flatMap gW=l.flatMap gW++gW p:=by simp
theorem Eh:∀(l:List (Nat×Nat)) (i:Nat) (p:Nat×Nat),l[i]?=some p->(l.flatMap gW)[i*2]?=some (.int .u64 p.1)/\(l.flatMap gW)[i*2+1]?=some (.int .i64 p.2)
 |[],i,p,h=>by simp at h
 |q::r,0,p,h=>by cases h;exact⟨I,I⟩
 |q::r,i+1,p,h=>by
  have:=Eh r i p (by simpa using h);rw[abM,show(i+1)*2=i*2+2 by omega];exact this
def BN{a n cap size i}{xs cs:Ad}(x:aj K (some a) n cap size xs)(h:∀j v,cs[j]?=some v->xs[i*size+j]?=some v):∀j v,cs[j]?=some v->co K ((a.add (i*size)).add j) v:=fun j v hv=>by
 rw[Addr.add_add];obtain⟨O,J,N⟩:=x.2.2 (i*size+j) v (h j v hv);cases J;exact N
abbrev iP:Nat:=75
structure py where
 K:PH
 bad:Bool
 hi:PH
 ks:Ae
def IP{lh g gN gL hm:PH}{rb lb db c q z k R L D s}(iN:cX K rb lb db R L D s lh g)(o:NI c q z k R L D)(hc:c<=900000000)
  {wb vn bm Je lead cN cL aN aL F V Rs bad} {ss:List bH} {i st} (hi:ss[i]?=some st) (aY:st.lb=lb) (a0:st.rb=rb) (ow:aj gN aN (eq ss) cN 3 (ss.flatMap bH.Ra)) {N} (oL:aJ gL aL (eq N) cL iP 2 (N.flatMap gW)) (bV:eq N<=100000000) {m} (hO:dH kD id hm bm m) (hA:jA K m):
  ai w0 123 [Rp wb,.int .i64 (i:Nat)] K (pt rb (aH lb R s) RT::lh::g::pt wb (cw (.slice aN (eq ss) cN) vn F (.slice aL (eq N) cL) V bm Rs Je lead bad) bw::gN::gL::hm::hs)
   (fun v K' hs'=>∃aa Y ay ad az aA,hs'=pt rb (aH lb R s) RT::lh::g::pt wb (cw (.slice aN (eq ss) cN) vn F (.slice ad (eq aa) az) V bm Rs Je Y ay) bw::gN::aA::hm::hs/\Le K K'/\aJ aA ad (eq aa) az iP 2 (aa.flatMap gW) /\
    ((aa=N/\Y=lead)\/(R.role=2/\aa=N++[(L.kt,i)]/\Y=max lead L.kt))):=by
 have aV:=(aav.1 hi).1;obtain⟨a,rfl,c0,c1,c2⟩:=nJ ow hi;rw[a0]at c2;refine ent Tryz.func123 ?_;refine au ?_;refine dZ 1 i I I ow aV Q9 fun bp aE=>?_;cases aE;refine ld 1 I (.inr ⟨4,I⟩) c2 ?_;refine au ?_;refine cl 1 I Fe ?_;rintro b0 aD a2 ⟨rfl,rfl,rfl⟩;refine bc 0 I (fun e2=>?_) (fun e2=>?_)
 ·refine au ?_;exact jK I ⟨N,lead,bad,aL,cL,gL,I,Cg _,oL,.inl ⟨I,I⟩⟩
 refine au ?_
 refine loop (σ:=Nat) (fun j=>[(0,Rp wb),(1,.int .i64 (i:Nat)),(4,Rp rb),(23,.slice aL (eq N) cL),(24,.int .i64 (eq N)),(25,.int .i64 (j:Nat))]) (fun _=>aD)
  (fun _=>pt rb (aH lb R s) RT::lh::g::pt wb (cw (.slice (some a) (eq ss) cN) vn F (.slice aL (eq N) cL) V bm Rs Je lead bad) bw::gN::gL::hm::hs) (fun j=>j<=eq N) (fun j=>eq N-j) 0 (aad _) ⟨rfl,rfl,rfl,rfl,rfl,rfl,trivial⟩ rfl rfl ?_
 intro j hj;refine acY ?_;refine bc 0 I (fun e4=>?_) (fun e4=>?_)
 ·refine au ?_;have ak:j<eq N:=qo
  obtain⟨p,hp⟩:∃p,N[j]?=some p:=⟨_,aai ak⟩;obtain⟨ad,rfl⟩:=oL.Ni.addr (j:=j) ak qo;obtain⟨p1,p2⟩:=Eh N j p hp
  have aS:=BN (cs:=gW p) oL.Ni (i:=j) fun k v hk=>by
   match k,hk with
   |0,hk=>cases hk;exact p1
   |1,hk=>cases hk;exact p2
  refine dZ 0 j I I oL.Ni ak Q9 fun bq aF=>?_;cases aF;refine fu 0 (gW p) I qk (.inr ⟨5,I⟩) aS ?_;refine al 0 (.agg Im) I qk fun b6=>?_;refine bA 0 0 I I qk I I ?_;refine Ez 0 (pt b6 #[.int .u64 p.1,.int .i64 p.2] iP) ?_;refine au ?_;refine bC [0] 11 [0,2,4,7,8,10,12,14,16,18,20] ?_;refine au ?_;refine cl 0 I (Cp [_] (iI iN.l)) ?_;rintro b1 bi a3 ⟨_,lh,rfl,rfl,rfl,rfl,rfl⟩;refine aP Q8 I ?_;refine dP qk 0 (p.1=L.kt) I Au (fun h5=>?_) (fun h5=>?_)
  ·refine au ?_;refine dU qk 1 (p.2=i) I Au fun bs aO=>?_;refine au ?_;refine ax aO I (fun e6=>?_) (fun e6=>?_)
   ·refine au ?_;refine Bh ?_;exact jK I ⟨N,lead,bad,some ad,cL,gL,I,Cg _,oL,.inl ⟨I,I⟩⟩
   refine au ?_;refine cZ j (Bh ?_);exact bn (x:=j) (j+1) sb I I qo qo
  refine au ?_;refine cZ j (Bh ?_);exact bn (x:=j) (j+1) sb I I qo qo
 refine au ?_;refine bC [3] 13 [0,2,4,6,8,10,14,13,16,19,21,22,24,27] ?_;refine au ?_;refine cl 0 I (Cp [] (iI iN.l)) ?_;rintro b2 bo a4 ⟨_,lh,rfl,rfl,rfl,rfl,rfl⟩;refine aP Q8 I ?_;refine jh qk 0 (.agg #[.int .u64 L.kt,.int .i64 (i:Nat)]) I Aq ?_;refine au ?_;refine lit 0 #[.int .u64 L.kt,.int .i64 (i:Nat)] I Q9 qk fun O=>?_;refine aP Q8 I ?_;refine aB qk 0 I ?_;refine app 0 6 I I oL (.inr ⟨0,I⟩) (aJ.Re (b:=O) (c:=#[.int .u64 L.kt,.int .i64 (i:Nat)]) (e:=iP) (n:=1) (size:=2) I Q9).Ni I Q9 (by intro u hu;simp at hu;rcases hu with rfl|rfl<;>rfl) (by show(eq N+1)*16<=_;omega) (by simp[maxLen];omega) fun an cn gn on=>?_;refine aP Q8 I ?_;refine aB qk 2 I ?_;refine Ji 0 4 I I I I ?_
 refine Ez 4 (pt wb (cw (.slice (some a) (eq ss) cN) vn F (.slice an (eq N+1) cn) V bm Rs Je lead bad) bw) ?_;refine au ?_;refine bC [4] 10 [0,2,4,6,8,10,13,14,16,18,21] ?_;refine au ?_;refine cl 0 I (Cp [_] (iI iN.l)) ?_;rintro b3 aq a5 ⟨_,lh,rfl,rfl,rfl,rfl,rfl⟩;refine aP Q8 I ?_;refine aB qk 3 I ?_;refine Ji 0 4 I I I I ?_;refine Ew (pt O #[.int .u64 L.kt,.int .i64 (i:Nat)] iP::pt rb (aH lb R s) RT::lh::g::pt wb (cw (.slice (some a) (eq ss) cN) vn F (.slice an (eq N+1) cn) V bm Rs Je (max lead L.kt) bad) bw::gN::gn::hm::hs) (by rw[show(if((L.kt:Nat):Int)>((lead:Nat):Int)then((L.kt:Nat):Int)else((lead:Nat):Int))=((max lead L.kt:Nat):Int)from qo];rfl) ?_;refine au ?_;refine zT 0 I Tryz.underlying70 (.inr ⟨7,I⟩) hO fun r aT aR=>?_;refine au ?_
 refine loop (σ:=py) (fun _=>[(0,Rp wb),(1,.int .i64 (i:Nat)),(4,Rp rb),(68,Rp r)]) (fun t=>t.K)
  (fun t=>t.hi::pt O #[.int .u64 L.kt,.int .i64 (i:Nat)] iP::pt rb (aH lb R s) RT::lh::g::pt wb (cw (.slice (some a) (eq ss) cN) vn F (.slice an (eq N+1) cn) V bm Rs Je (max lead L.kt) t.bad) bw::gN::gn::hm::hs)
  (fun t=>Le aq t.K/\ke kD id hm t.hi bm r m t.ks) (fun t=>mn (m.map (·.1)) t.ks) ⟨aq,bad,aT,[]⟩ ⟨Cg _,aR⟩ ⟨rfl,rfl,rfl,rfl,trivial⟩ rfl rfl ?_
 rintro⟨K1,J,ag,ks⟩ ⟨X,hJ⟩;dsimp only at *;refine acY ?_;refine zU 0 0 I (.inr ⟨8,I⟩) I hJ hA.1 (fun k v U Z am hS=>?_) (fun a1=>?_)
 ·refine au ?_;refine zV 0 I (.inr ⟨8,I⟩) (.inr ⟨0,I⟩) hS ?_;obtain⟨e,ae,ce,seen,rfl,xe,hx⟩:=hA.2 _ Z;refine al 1 (.agg Iu) I qk fun b8=>?_;refine bA 0 0 I I qk I I ?_;refine Ew (pt b8 (j7 e ae ce seen) 256::U::pt O #[.int .u64 L.kt,.int .i64 (i:Nat)] iP::pt rb (aH lb R s) RT::lh::g::pt wb (cw (.slice (some a) (eq ss) cN) vn F (.slice an (eq N+1) cn) V bm Rs Je (max lead L.kt) J) bw::gN::gn::hm::hs) I ?_;refine fin 0 I (th (sq ?_));refine bC [0] 13 [0,2,4,7,8,10,12,14,16,18,21,22,24] ?_;refine au ?_;refine cl 0 I (Cp [_,_,_] (iI (iN.l.le ?l1))) ?_
  case l1=>exact X
  rintro b4 ab a6 ⟨_,lh,rfl,rfl,rfl,rfl,rfl⟩;refine aP Q8 I ?_;refine dP qk 0 (seen<L.kt) I Q8 (fun h8=>?_) (fun h8=>?_)
  ·refine zH qk 4 (e.v ae ce).toList I qk qk (.inr ⟨0,I⟩) (nK _ I) ?_;refine aB qk 0 I ?_;refine Bi (hs':=pt rb (aH lb R s) RT::lh::g::pt wb (cw (.slice (some a) (eq ss) cN) vn F (.slice an (eq N+1) cn) V bm Rs Je (max lead L.kt) J) bw::gN::pt b8 (j7 e ae ce seen) 256::U::pt O #[.int .u64 L.kt,.int .i64 (i:Nat)] iP::gn::hm::hs) (aak [_,_,_] [_,_,_,_,_] _) ?_;refine cl 0 I (Pp (iN.le X) o hc hi aY ow e ae ce (xe.le X) hx) ?_;rintro b5 av bb ⟨rfl,ap,bB,rfl⟩;refine dX Q8 ap ?_;refine aI qk 2 I (th (fw I (fun h9=>?_) (fun h9=>?_)))
   ·refine rg ?_;refine Ji 3 3 I I I I ?_;refine fin 0 I (bl (Bk (hs':=pt b8 (j7 e ae ce seen) 256::U::pt O #[.int .u64 L.kt,.int .i64 (i:Nat)] iP::pt rb (aH lb R s) RT::lh::g::pt wb (cw (.slice (some a) (eq ss) cN) vn F (.slice an (eq N+1) cn) V bm Rs Je (max lead L.kt) true) bw::gN::gn::hm::hs) (aak [_,_,_,_,_] [_,_,_] _) (Bh ?_)));exact bn (x:=(⟨ab,J,ag,ks⟩:py)) (⟨av,true,U,ks++[k]⟩:py) ⟨I,I,I,I,trivial⟩ I I ⟨X.trans ap,hS.1⟩ (tx am (aau.2 ⟨_,Z,I⟩))
   refine sk (bl (Bk (hs':=pt b8 (j7 e ae ce seen) 256::U::pt O #[.int .u64 L.kt,.int .i64 (i:Nat)] iP::pt rb (aH lb R s) RT::lh::g::pt wb (cw (.slice (some a) (eq ss) cN) vn F (.slice an (eq N+1) cn) V bm Rs Je (max lead L.kt) J) bw::gN::gn::hm::hs) (aak [_,_,_,_,_] [_,_,_] _) (Bh ?_)));exact bn (x:=(⟨ab,J,ag,ks⟩:py)) (⟨av,J,U,ks++[k]⟩:py) ⟨I,I,I,I,trivial⟩ I I ⟨X.trans ap,hS.1⟩ (tx am (aau.2 ⟨_,Z,I⟩))
  first|refine aB qk 3 rfl ?_|refine aB qk 4 rfl ?_|refine aB qk 5 rfl ?_|refine aB qk 6 rfl ?_|refine aB qk 7 rfl ?_|refine aB qk 8 rfl ?_|refine aB qk 9 rfl ?_
  refine Bc 1 I ?_;refine aP Q8 I ?_
  first|refine aI qk 0 rfl (th (bP rfl (sk (bl (Bh ?_)))))|refine aI qk 1 rfl (th (bP rfl (sk (bl (Bh ?_)))))|refine aI qk 2 rfl (th (bP rfl (sk (bl (Bh ?_)))))|refine aI qk 3 rfl (th (bP rfl (sk (bl (Bh ?_)))))|refine aI qk 4 rfl (th (bP rfl (sk (bl (Bh ?_)))))|refine aI qk 5 rfl (th (bP rfl (sk (bl (Bh ?_)))))|refine aI qk 6 rfl (th (bP rfl (sk (bl (Bh ?_)))))
  exact bn (x:=(⟨ab,J,ag,ks⟩:py)) (⟨ab,J,U,ks++[k]⟩:py) ⟨I,I,I,I,trivial⟩ I I ⟨X,hS.1⟩<|tx am (aau.2 ⟨_,Z,I⟩)
 refine au ?_;refine Bh (Bh ?_);exact bZ I ⟨N++[(L.kt,i)],max lead L.kt,J,an,cn,gn,Q8,X,by rw[LI,aaj];exact on,.inr ⟨aag.1 fun h=>e2 qo,I,I⟩⟩
end
section
def jA.set{m}(h:jA K m)(k e ae ce seen)(x:aj K ae (eq e.data) ce 1 (bv e.data))(N:e.idx<2^64):jA K (cj k (.agg (j7 e ae ce seen)) m):=
 ⟨nG h.1,fun y J=>by
  rcases iX J with rfl|J
  ·exact⟨e,ae,ce,seen,I,x,N⟩
  exact h.2 y J⟩
def P2{κ ν}[DecidableEq κ]{enc:κ->Value}{encv:ν->Value}{h b}{m:List (κ×ν)}{P:Program}{T:be}{ops:Ai}{Q:An}{rest rest':Aj}{n l l'}[hT:a8 P T](k){d t kt et:Nat}{o z v ok}(j)(h0:sh T ops n k rest l=some (d,o,t,.map (some b),v,ok,rest',l'))(V:P.underlying t=some (.map kt et))(X:(P.info? et).bind (·.zero)=some z)(O:iz P kt enc)(hv:v=enc j)(J:In K hs h)(hm:dH enc encv h b m)
  (U:∀u Y,(∀x,aZ j m=some x->u=encv x)->(aZ j m=none->u=z)->WL P w0 ops Q rest' n ((d,pc ok u Y)::l') K hs):WL P w0 ops Q rest n l K hs:=
 iR k j h0 V X O hv J hm (U _ _ (fun x N=>by rw[N]) (fun N=>by rw[N]))
theorem jA.get{m}(h:jA K m){k u}(V:∀x,aZ k m=some x->u=id x)(J:aZ k m=none->u=.agg Iu):∃e ae ce seen,u=.agg (j7 e ae ce seen)/\aj K ae (eq e.data) ce 1 (bv e.data)/\e.idx<2^64:=by
 cases hg:aZ k m with
 |none=>exact⟨ah.zero,none,0,0,J hg,aj.nil _ _ _ _,Q9⟩
 |some v=>
  obtain⟨e,ae,ce,seen,N,O,U⟩:=h.2 _ (gS hg)
  grind
structure vA where
 j:Nat
 K:PH
 bad:Bool
 m:List (Int×Value)
 hm:PH
structure Q2 where
 e:ah
 ae:Ab
 ce:Nat
 seen:Nat
def HA{w0:World}{K lh g gN hm:PH}{hs:Ac}{rb lb db c q z k R L D s}(iN:cX K rb lb db R L D s lh g)(o:NI c q z k R L D)(hc:c<=900000000)
  {wb vn bm Je lead cN aN F Ls V Rs bad} {ss:List bH} {i st} (hi:ss[i]?=some st) (a6:st.db=db) (bo:st.lb=lb) (bq:st.rb=rb) (ow:aj gN aN (eq ss) cN 3 (ss.flatMap bH.Ra)) {m} (hO:dH kD id hm bm m) (hA:jA K m):
  ai w0 124 [Rp wb,.int .i64 (i:Nat)] K (pt rb (aH lb R s) RT::lh::g::pt wb (cw (.slice aN (eq ss) cN) vn F Ls V bm Rs Je lead bad) bw::gN::hm::hs)
   (fun v K' hs'=>∃aq m' ay,hs'=pt rb (aH lb R s) RT::lh::g::pt wb (cw (.slice aN (eq ss) cN) vn F Ls V bm Rs (max Je R.Je) lead aq) bw::gN::ay::hs/\Le K K'/\dH kD id ay bm m'/\jA K' m'):=by
 have bb:=(aav.1 hi).1;have hb:=o.rn.lb;have ag:=o.last qo;unfold de at ag;have bs:=hb.idx;unfold bX at bs;obtain⟨a,rfl,c0,c1,c2⟩:=nJ ow hi;rw[bq]at c2;rw[bo]at c1;rw[a6]at c0
 have a5:∀(j:Nat) v,([Rp db,Rp lb,Rp rb]:Ad)[j]?=some v->co gN ((a.add (i*3)).add j) v:=fun j v hv=>by
  grind[Addr.add]
 refine ent Tryz.func124 ?_;refine au ?_;refine dZ 1 i I I ow bb Q9 fun cg aY=>?_;cases aY;refine fu 0 [Rp db,Rp lb,Rp rb] I qk (.inr ⟨4,I⟩) a5 ?_;refine al 0 (.agg Ir) I qk fun b4=>?_;refine bA 0 0 I I qk I I ?_;refine Ew (pt b4 #[Rp db,Rp lb,Rp rb] d9::pt rb (aH lb R s) RT::lh::g::pt wb (cw (.slice (some a) (eq ss) cN) vn F Ls V bm Rs Je lead bad) bw::gN::hm::hs) I ?_;refine au ?_;refine cl 0 I (Ck 1 I tT) ?_;rintro cq aF b3 ⟨rfl,rfl,rfl⟩;refine au ?_;refine Ew (pt b4 #[Rp db,Rp lb,Rp rb] d9::pt rb (aH lb R s) RT::lh::g::pt wb (cw (.slice (some a) (eq ss) cN) vn F Ls V bm Rs (max Je R.Je) lead bad) bw::gN::hm::hs) (by rw[show(if((R.Je:Nat):Int)>((Je:Nat):Int)then((R.Je:Nat):Int)else((Je:Nat):Int))=((max Je R.Je:Nat):Int)from qo];rfl) ?_
 refine cl 0 I (Er 2 I (qa lb db L D _ hb iN.l)) ?_;rintro cr aL b5 ⟨lh,rfl,rfl,aA,aS,aV,aR,aT,rfl,cy,cx⟩;refine Ew (pt b4 #[Rp db,Rp lb,Rp rb] d9::pt rb (aH lb R s) RT::lh::g::pt wb (cw (.slice (some a) (eq ss) cN) vn F Ls V bm Rs (max Je R.Je) lead bad) bw::gN::hm::hs) I ?_;refine jy 0 (v:=.int .u64 L.sn.idx) I (fun A w ha _=>nS (t:=48) (x:=.tmp 32) (i:=0) (v:=.agg (dg L.sn aS aV aR aT)) I I Aq A w ha) ?_;refine ar 0 I (bL (x:=((L.sn.idx+1:Nat):Int)) qo) ?_;refine au ?_
 refine loop (σ:=vA) (fun t=>[(0,Rp wb),(1,.int .i64 (i:Nat)),(4,Rp b4),(5,.int .u64 R.Je),(6,.int .u64 t.j)]) (fun t=>t.K)
  (fun t=>pt b4 #[Rp db,Rp lb,Rp rb] d9::pt rb (aH lb R s) RT::lh::g::pt wb (cw (.slice (some a) (eq ss) cN) vn F Ls V bm Rs (max Je R.Je) lead t.bad) bw::gN::t.hm::hs)
  (fun t=>t.j<=L.last+1/\Le aF t.K/\dH kD id t.hm bm t.m/\jA t.K t.m) (fun t=>L.last+1-t.j) ⟨L.sn.idx+1,aL,bad,m,hm⟩ ⟨by simp[Lg.last],aA,hO,hA.le aA⟩ sb rfl rfl ?_
 rintro⟨j,K1,J,m1,X⟩ ⟨hj,le,ad,ab⟩;dsimp only at hj le ad ab⊢;refine sq (acY ?_);refine cG 2 (j<=R.Je) I Q8 fun ch a0=>?_;refine au ?_;refine ax a0 I (fun e2=>?_) (fun e2=>?_)
 ·refine au ?_;refine cl 1 I (Er 2 I (FB lb db L D _ hb qo (iN.l.le le) j qo)) ?_;rintro cs am b6 ⟨lh,rfl,rfl,N,e1,O,U,b1,rfl,aE,ae⟩;refine al 3 (.agg Il) I qk fun b7=>?_;refine bA 0 0 I I qk I I ?_;refine Ew (pt b7 (e1.v O U) 51::pt b4 #[Rp db,Rp lb,Rp rb] d9::pt rb (aH lb R s) RT::lh::g::pt wb (cw (.slice (some a) (eq ss) cN) vn F Ls V bm Rs (max Je R.Je) lead J) bw::gN::X::hs) I ?_;refine au ?_;refine fw I (fun h3=>?_) (fun h3=>?_)
  ·refine acY ?_;refine Ji 3 5 I I I I ?_;refine au ?_;refine Bh (Bh ?_);exact jK I ⟨true,m1,X,I,le.trans N,ad,ab.le N⟩
  have bi:j<=L.last/\e1.idx<2^64:=by
   have ht:b1=true:=by simpa using h3
   cases hg:fA L.sn L.l j with
   |none=>rw[hg]at ae;rw[ae.1]at ht;cases ht
   |some k=>
    rw[hg]at ae;obtain⟨g1,g2,g3,g4⟩:=q8 hg;have h5:=hb.Jg e1 (aam ae.2)
    grind[Lg.last,ac]
  refine au ?_;refine P2 1 (z:=.agg Iu) ((j:Nat):Int) I Tryz.underlying70 qk gM I (.inr ⟨7,I⟩) ad fun u kn bB bV=>?_;obtain⟨e2,an,av,aD,rfl,b2,b0⟩:=ab.get bB bV;refine al 3 (.agg Iu) I qk fun b9=>?_;refine bA 0 0 I I qk I I ?_;refine Ew (pt b9 (j7 e2 an av aD) 256::pt b7 (e1.v O U) 51::pt b4 #[Rp db,Rp lb,Rp rb] d9::pt rb (aH lb R s) RT::lh::g::pt wb (cw (.slice (some a) (eq ss) cN) vn F Ls V bm Rs (max Je R.Je) lead J) bw::gN::X::hs) I ?_;refine fin 1 I (th ?_)
  refine kL (σ:=Q2) (fun _=>[(0,Rp wb),(1,.int .i64 (i:Nat)),(4,Rp b4),(5,.int .u64 R.Je),(6,.int .u64 j),(7,Rp b7),(9,Rp b9)]) (fun _=>am)
   (fun u=>pt b9 (j7 u.e u.ae u.ce u.seen) 256::pt b7 (e1.v O U) 51::pt b4 #[Rp db,Rp lb,Rp rb] d9::pt rb (aH lb R s) RT::lh::g::pt wb (cw (.slice (some a) (eq ss) cN) vn F Ls V bm Rs (max Je R.Je) lead J) bw::gN::X::hs) (fun u=>aj am u.ae (eq u.e.data) u.ce 1 (bv u.e.data)/\u.e.idx<2^64) ?_ ?_
  ·refine au ?_;refine fw I (fun h4=>?_) (fun h4=>?_)
   ·refine bC [1,2] 5 [0,2,4,7,8,11] ?_
    first|(refine au ?_;refine cl 0 I (Cp [_,_,_] (iI ((iN.l.le le).le N))) ?_)|(refine ln qk 0 0 I qk I qk ?_;refine bR qk 1 1 I qk I I ?_;refine aB qk 0 I ?_;refine cl 0 I (Cp [_,_,_] (iI ((iN.l.le le).le N))) ?_)
    rintro ct cd b8 ⟨_,lh,rfl,rfl,rfl,rfl,rfl⟩;refine aP Q8 I ?_;refine jh qk 0 (.agg (j7 e1 O U L.kt)) I Aq ?_;refine aB qk 0 I ?_;refine bA 0 0 I I qk I I ?_;refine aP Q8 I ?_;refine aI qk 0 I ?_;exact fM ⟨e1,O,U,L.kt⟩ ⟨aE,bi.2⟩ sb I I
   refine sk ?_;exact fM ⟨e2,an,av,aD⟩ ⟨b2.le N,b0⟩ sb I I
  rintro⟨e3,Z,aa,Y⟩ ⟨ak,az⟩;dsimp only at ak az⊢;refine au ?_;refine mI fun ck a1=>?_
  refine' dB (q:=e3≠e1) 1 6 79 [72,73] a1 I I I I I I I (fun _=>?x5) (fun ap cp=>?_)
  case x5=>
   refine fu 1 (e3.v Z aa).toList I qk (.inr ⟨0,I⟩) (nK _ I) ?_;refine au ?_;refine cl 0 I (BU e3 e1 Z O aa U (.inl I) (.inl I) ak aE) ?_;rintro cu ce ca ⟨rfl,rfl,cm,rfl,a2⟩;refine cG 0 _ I (lU a2) fun cn a3=>?_;exact fin 1 I (bJ a3 I I I)
  refine au ?_;refine bC [0,2] 7 [0,2,4,6,9,10,12,15] ?_;refine au ?_;refine cl 0 I (Cp [_,_,_] (iI ((iN.l.le le).le N))) ?_;rintro cv aO cc ⟨_,lh,rfl,rfl,rfl,rfl,rfl⟩;refine aP Q8 I ?_;refine aB qk 2 I ?_;refine Ji 0 0 I I I I ?_;refine Ew (pt b9 (j7 e3 Z aa (min Y L.kt)) 256::pt b7 (e1.v O U) 51::pt b4 #[Rp db,Rp lb,Rp rb] d9::pt rb (aH lb R s) RT::lh::g::pt wb (cw (.slice (some a) (eq ss) cN) vn F Ls V bm Rs (max Je R.Je) lead ap) bw::gN::X::hs) (by rw[show(if((L.kt:Nat):Int)<((Y:Nat):Int)then((L.kt:Nat):Int)else((Y:Nat):Int))=((min Y L.kt:Nat):Int)from qo];rfl) ?_;refine au ?_;refine bC [6,0] 6 [0,2,4,6,8,10,13] ?_;refine au ?_;refine sF 0 8 ((j:Nat):Int) (.agg (j7 e3 Z aa (min Y L.kt))) I I Tryz.underlying70 gM I I ad fun bp a4=>?_
  refine au ?_;refine ar 1 I (bL (x:=((j+1:Nat):Int)) qo) ?_;refine fin 1 I (Bh (Bh ?_));exact bn (x:=(⟨j,K1,J,m1,X⟩:vA)) (⟨j+1,aO,ap,cj ((j:Nat):Int) (.agg (j7 e3 Z aa (min Y L.kt))) m1,bp⟩:vA) sb I I ⟨aC,le.trans N,a4,(ab.le N).set _ _ _ _ _ ak az⟩ aC
 refine au ?_;refine Bh ?_;exact bZ I ⟨J,m1,X,I,le,ad,ab⟩
end
section
def jZ(p:Nat×Int×Nat):Ad:=[.int .i64 p.1,.int .i64 p.2.1,.int .u64 p.2.2]
structure Hi (R:Nd) (L:Lg) (i:Nat) (fl fl':List bg) (dl dl':List (Nat×Nat)) (vt vt':List (Nat×Int×Nat)) (Je com' lead lead':Nat):Prop where
 Ux:∀m∈fl',m∈fl\/m∈R.out
 Uy:eq fl'<=max 300 (eq fl)
 UC:∀p∈vt',p∈vt\/∃m∈R.out,m.kind=2/\m.Jj=true/\p=(i,m.to,m.term)
 UD:eq vt'<=eq vt+eq R.out
 Uu:∀p∈dl',p∈dl\/(R.role=2/\p=(L.kt,i))
 Uv:eq dl'<=eq dl+1
 Ub:com'=Je\/com'=max Je R.Je
 TR:lead'=lead\/(R.role=2/\lead'=max lead L.kt)
abbrev lO:Nat:=78
abbrev gU:Nat:=34
def kQ(K h:PH)(ao:Ab)(n cap:Nat)(xs:List bg):Prop:=dD 14 gU (jv K) h ao n cap xs\/(h=em/\cap=n/\dn 14 (jv K) K ao n n xs)
theorem kQ.le{K J h:PH}{ao n cap xs}(x:kQ K h ao n cap xs)(l:Le K J):kQ J h ao n cap xs:=by
 rcases x with x|⟨N,O,x⟩
 ·exact .inl (x.imp fun _ _ h=>h.le l)
 exact .inr ⟨N,O,x.le l fun _ _ h=>h.le l⟩
def GV{ops:Ai}{Q:An}{rest rest':Aj}{n l l'}
  (k i) {d si ao n1 c1 b h xs} (c x) (h0:kE T ops n k rest l=some (d,si,(ao,n1,c1),(some ⟨b,0,none⟩,1,1),rest',l'))
  (Z:hs[0]?=some (pt b c.toArray si.elem)) (hi:hs[i]?=some h) (o:kQ K h ao n1 c1 xs) (N:si.size=14) (V:si.elem=gU) (hc:jv K c x) (hl:eq c=14) (h1:∀u∈c,u.oneCell'=true) (hz:si.zero.cells.size=si.size) (hb:(n1+1)*si.bytes<=2^47) (X:n1+1<=maxLen)
  (hk:∀O J U,dD 14 gU (jv K) U O (n1+1) J (xs++[x])->WL Tryz.prog w0 ops Q rest' n ((d,.slice O (n1+1) J)::l') K (hs.set i U)):WL Tryz.prog w0 ops Q rest n l K hs:=by
 rcases o with o|⟨rfl,Y,o⟩
 ·exact nB k i c x h0 Z hi (by rw[N,V];exact o) hc qo h1 hz qo hb X (by rw[N,V];exact hk)
 subst Y;obtain⟨css,q1,q2,q3,q4⟩:=o
 have xv:aj (pt b c.toArray si.elem) (some ⟨b,0,none⟩) 1 1 si.size c:=by
  simpa using(aJ.Re (b:=b) (c:=c.toArray) (e:=si.elem) (n:=1) (size:=si.size) (by simpa[N]using hl) At).Ni
 refine qn k h0 (.inl I) (by rw[N];exact q2) (fun h=>?_) (.inr ⟨0,Z⟩) xv hz qo qo hb X fun O J U o'=>?_
 ·rcases aa7 c1 with hn|hn
  ·exact hn
  obtain⟨a,ha⟩:=q2.addr (j:=0) hn Q9;rw[ha]at h;cases h
 have p:(U::hs).Perm (em::hs.set i U):=((iE hs i em hi).cons U).trans ((aap em U _).trans ((nO hs i em U hi).cons em));refine Bi p (Bf (hk O J U ⟨css++[c],by simp[q1],.inl (by rw[N,V]at o';simpa using o'),q3.append ⟨hc,trivial⟩,?_⟩))
 grind
structure sL where
 j:Nat
 fl:List bg
 vt:List (Nat×Int×Nat)
 aF:Ab
 cF:Nat
 gF:PH
 aV:Ab
 cV:Nat
 gV:PH
def OK{w0:World}{K lh g gN gF gL gV hm:PH}{hs:Ac}{rb lb db c q z k R L D s}(iN:cX K rb lb db R L D s lh g)(o:NI c q z k R L D)(hc:c<=900000000)(hk:k<=4000000)
  {wb vn bm Je lead cN cF cL cV aN aF aL aV Rs bad} {ss:List bH} {i st} (hi:ss[i]?=some st) (bs:st.db=db) (aS:st.lb=lb) (aT:st.rb=rb) (ow:aj gN aN (eq ss) cN 3 (ss.flatMap bH.Ra))
  {fl} (oF:kQ K gF aF (eq fl) cF fl) (c3:eq fl<=1000) {dl} (oL:aJ gL aL (eq dl) cL iP 2 (dl.flatMap gW)) (cp:eq dl<=100000000) {vt} (oV:aJ gV aV (eq vt) cV lO 3 (vt.flatMap jZ)) (c4:eq vt<=1000000000000) {m} (hO:dH kD id hm bm m) (hA:jA K m):
  ai w0 64 [Rp wb,.int .i64 (i:Nat)] K (pt rb (aH lb R s) RT::lh::g::pt wb (cw (.slice aN (eq ss) cN) vn (.slice aF (eq fl) cF) (.slice aL (eq dl) cL) (.slice aV (eq vt) cV) bm Rs Je lead bad) bw::gN::gF::gL::gV::hm::hs)
   (fun v K' hs'=>∃R' s' g' ay aa aE m' aR J ak a0 a5 bi ad ae ag a1 a6 bo bV,hs'=pt rb (aH lb R' s') RT::lh::g'::pt wb (cw (.slice aN (eq ss) cN) vn (.slice a0 (eq ay) a5) (.slice ad (eq aa) ae) (.slice a1 (eq aE) a6) bm Rs aR J ak) bw::gN::bi::ag::bo::bV::hs/\Le K K'/\cX K' rb lb db R' L D s' lh g'/\(R'=R\/R'={R with out:=[]}) /\
    kQ K' bi a0 (eq ay) a5 ay/\aJ ag ad (eq aa) ae iP 2 (aa.flatMap gW)/\aJ bo a1 (eq aE) a6 lO 3 (aE.flatMap jZ)/\dH kD id bV bm m'/\jA K' m'/\Hi R L i fl ay dl aa vt aE Je aR lead J):=by
 have cm:=(aav.1 hi).1;obtain⟨a,rfl,c0,c1,c2⟩:=nJ ow hi;rw[aT]at c2;rw[aS]at c1;rw[bs]at c0
 have ch:∀(j:Nat) v,([Rp db,Rp lb,Rp rb]:Ad)[j]?=some v->co gN ((a.add (i*3)).add j) v:=fun j v hv=>by
  grind[Addr.add]
 refine ent Tryz.func64 ?_;refine sq (acY ?_);refine aX 3 3 I I I ?_;refine mI fun cE b3=>?_;refine fin 0 I (th (ax b3 I (fun e1=>?_) (fun e1=>?_)))
 ·refine au ?_;exact jK I ⟨R,s,g,fl,dl,vt,m,Je,lead,bad,aF,cF,gF,aL,cL,gL,aV,cV,gV,hm,I,Cg _,iN,.inl I,oF,oL,oV,hO,hA,fun _ h=>.inl h,qo,fun _ h=>.inl h,qo,fun _ h=>.inl h,qo,.inl I,.inl I⟩
 refine au ?_;refine dZ 1 i I I ow cm Q9 fun cB b5=>?_;cases b5;refine fu 0 [Rp db,Rp lb,Rp rb] I qk (.inr ⟨4,I⟩) ch ?_;refine al 0 (.agg Ir) I qk fun b4=>?_;refine bA 0 0 I I qk I I ?_;refine Ew (pt b4 #[Rp db,Rp lb,Rp rb] d9::pt rb (aH lb R s) RT::lh::g::pt wb (cw (.slice (some a) (eq ss) cN) vn (.slice aF (eq fl) cF) (.slice aL (eq dl) cL) (.slice aV (eq vt) cV) bm Rs Je lead bad) bw::gN::gF::gL::gV::hm::hs) I ?_;refine au ?_;have cq:=IL (w0:=w0) (lb:=lb) (hs:=pt b4 #[Rp db,Rp lb,Rp rb] d9::lh::pt wb (cw (.slice (some a) (eq ss) cN) vn (.slice aF (eq fl) cF) (.slice aL (eq dl) cL) (.slice aV (eq vt) cV) bm Rs Je lead bad) bw::gN::gF::gL::gV::hm::hs) iN.g
 refine Bi (hs':=pt rb (aH lb R s) RT::g::pt b4 #[Rp db,Rp lb,Rp rb] d9::lh::pt wb (cw (.slice (some a) (eq ss) cN) vn (.slice aF (eq fl) cF) (.slice aL (eq dl) cL) (.slice aV (eq vt) cV) bm Rs Je lead bad) bw::gN::gF::gL::gV::hm::hs) ?_ ?_
 ·exact(aap _ _ _).trans<|List.Perm.cons _ (aak [_,_] [_] _)
 refine cl 0 I cq ?_;rintro c6 av cv ⟨_,g2,rfl,ap,⟨s2,rfl,G2⟩,a2,a4,rfl,xm⟩;refine Bi (hs':=pt b4 #[Rp db,Rp lb,Rp rb] d9::pt rb (aH lb {R with out:=[]} s2) RT::lh::g2::pt wb (cw (.slice (some a) (eq ss) cN) vn (.slice aF (eq fl) cF) (.slice aL (eq dl) cL) (.slice aV (eq vt) cV) bm Rs Je lead bad) bw::gN::gF::gL::gV::hm::hs) (((aak [_] [_,_] _).cons _).trans (aap _ _ _)) ?_;have I2:cX av rb lb db {R with out:=[]} L D s2 lh g2:=⟨iN.l.le ap,G2⟩;have cr:=o.rb.out;have o2:NI c q z k {R with out:=[]} L D:=o.r {o.rb with out:=aad _};obtain⟨R2,bq⟩:∃R2:Nd,R2={R with out:=[]}:=⟨_,rfl⟩;have cs:R2.role=R.role/\R2.Je=R.Je:=by rw[bq];simp
 rw[<-bq]at I2 o2⊢;obtain⟨ms,az⟩:=a9 R.out;rw[<-az]at xm cr⊢;refine au ?_
 refine loop (σ:=sL) (fun t=>[(0,Rp wb),(1,.int .i64 (i:Nat)),(20,.slice a2 (eq ms) a4),(21,.int .i64 (eq ms)),(22,.int .i64 t.j)]) (fun _=>av)
  (fun t=>pt b4 #[Rp db,Rp lb,Rp rb] d9::pt rb (aH lb R2 s2) RT::lh::g2::pt wb (cw (.slice (some a) (eq ss) cN) vn (.slice t.aF (eq t.fl) t.cF) (.slice aL (eq dl) cL) (.slice t.aV (eq t.vt) t.cV) bm Rs Je lead bad) bw::gN::t.gF::gL::t.gV::hm::hs)
  (fun t=>t.j<=eq ms/\kQ av t.gF t.aF (eq t.fl) t.cF t.fl/\aJ t.gV t.aV (eq t.vt) t.cV lO 3 (t.vt.flatMap jZ)/\(∀x∈t.fl,x∈fl\/x∈ms)/\eq t.fl<=max 300 (eq fl)/\(∀p∈t.vt,p∈vt\/∃x∈ms,x.kind=2/\x.Jj=true/\p=(i,x.to,x.term))/\eq t.vt<=eq vt+t.j) (fun t=>eq ms-t.j)
  ⟨0,fl,vt,aF,cF,gF,aV,cV,gV⟩ ⟨aad _,oF.le ap,oV,fun _ h=>.inl h,aC,fun _ h=>.inl h,aac _⟩ ⟨rfl,rfl,rfl,rfl,rfl,trivial⟩ rfl rfl ?_
 rintro⟨j,N,O,U,V,X,Y,Z,ab⟩ ⟨hj,aA,aD,q1,q2,q3,q4⟩;dsimp only at hj aA aD q1 q2 q3 q4⊢;refine acY ?_;refine bc 0 I (fun e3=>?_) (fun e3=>?_)
 ·refine au ?_;have bB:j<eq ms:=qo
  obtain⟨x,hx⟩:∃x,ms[j]?=some x:=⟨_,aai bB⟩;have c5:=aam hx;obtain⟨am,pm,rfl,cg,ck⟩:=C4 xm hx;obtain⟨vm,ct⟩:=xm.Ni;refine dZ 0 j I I ct bB Q9 fun cD cc=>?_;cases cc;refine fu 0 (mv x pm).toList I qk (.inl I) ck ?_;refine al 0 (.agg Ip) I qk fun b6=>?_;refine bA 0 0 I I qk I I ?_;refine Ew (pt b6 (mv x pm) gU::pt b4 #[Rp db,Rp lb,Rp rb] d9::pt rb (aH lb R2 s2) RT::lh::g2::pt wb (cw (.slice (some a) (eq ss) cN) vn (.slice U (eq N) V) (.slice aL (eq dl) cL) (.slice Y (eq O) Z) bm Rs Je lead bad) bw::gN::X::gL::ab::hm::hs) I ?_
  refine fin 0 I<|th ?_
  refine kL (σ:=List (Nat×Int×Nat)×Ab×Nat×PH) (fun _=>[(0,Rp wb),(1,.int .i64 (i:Nat)),(20,.slice (some am) (eq ms) a4),(21,.int .i64 (eq ms)),(22,.int .i64 j),(6,Rp b6)]) (fun _=>av)
   (fun u=>pt b6 (mv x pm) gU::pt b4 #[Rp db,Rp lb,Rp rb] d9::pt rb (aH lb R2 s2) RT::lh::g2::pt wb (cw (.slice (some a) (eq ss) cN) vn (.slice U (eq N) V) (.slice aL (eq dl) cL) (.slice u.2.1 (eq u.1) u.2.2.1) bm Rs Je lead bad) bw::gN::X::gL::u.2.2.2::hm::hs)
   (fun u=>aJ u.2.2.2 u.2.1 (eq u.1) u.2.2.1 lO 3 (u.1.flatMap jZ)/\(∀p∈u.1,p∈vt\/∃x∈ms,x.kind=2/\x.Jj=true/\p=(i,x.to,x.term))/\eq u.1<=eq vt+(j+1)) ?_ ?_
  ·refine au ?_;refine cG 0 (x.kind=2) I Q8 fun cO b7=>?_
   refine' eQ (q:=x.Jj=true) 1 3 32 [28,29] b7 I I I I I I I (fun _=>?x5) (fun cR b9=>?_)
   case x5=>
    refine aX 1 0 I I I ?_;refine mI fun cQ b8=>?_;exact fin 1 I (bJ b8 I I I)
   refine fin 0 I<|th (ax b9 I (fun e6=>?_) (fun e6=>?_))
   ·refine bC [0,5] 15 [0,2,4,6,8,10,12,14,16,18,20,23,25,26,28,31] ?_;refine au ?_;refine jh qk 0 (.agg #[.int .i64 (i:Nat),.int .i64 x.to,.int .u64 x.term]) I Aq ?_;refine au ?_;refine lit 0 #[.int .i64 (i:Nat),.int .i64 x.to,.int .u64 x.term] I Q9 qk fun b2=>?_;refine aP Q8 I ?_;refine aB qk 0 I ?_;refine app 0 10 I I aD (.inr ⟨0,I⟩) (aJ.Re (b:=b2) (c:=#[.int .i64 (i:Nat),.int .i64 x.to,.int .u64 x.term]) (e:=lO) (n:=1) (size:=3) I Q9).Ni I Q9 (by intro u hu;simp at hu;rcases hu with rfl|rfl|rfl<;>rfl) (by show(eq O+1)*24<=_;omega) (by simp[maxLen];omega) fun an cn gn on=>?_;refine aP Q8 I ?_;refine aB qk 2 I ?_;refine Ji 0 6 I I I I ?_;refine bQ (.inl qk) ?_;refine aI qk 0 I (Bh ?_)
    exact fM (O++[(i,x.to,x.term)],an,cn,gn) ⟨by rw[acP,aaj];exact on,fun p hp=>by
     grind,by dsimp only;rw[aaj,abd];omega⟩ sb rfl (by rw[aaj];rfl)
   refine sk ?_;exact fM (O,Y,Z,ab) ⟨aD,q3,aC⟩ sb rfl rfl
  rintro⟨b1,a3,bb,bp⟩ ⟨aY,q5,q6⟩;dsimp only at aY q5 q6⊢;refine au ?_;refine cG 1 (eq N<300) I Au fun cS ca=>?_;refine fin 0 I (th (ax ca I (fun e8=>?_) (fun e8=>?_)))
  ·refine bC [5,0] 10 [0,2,4,6,8,10,13,15,16,18,21] ?_;refine au ?_;refine lit 0 (mv x pm) I Q9 qk fun cT=>?_;refine aP Q8 I ?_;refine aB qk 0 I ?_;refine GV 0 8 (mv x pm).toList x I I I aA I I ⟨pm,I,cg⟩ I (yO _ _) I (by show(eq N+1)*160<=_;omega) As fun an cn gn on=>?_;refine aP Q8 I ?_;refine aB qk 2 I ?_;refine Ji 0 6 I I I I ?_;refine bQ (.inl qk) ?_;refine aI qk 0 I (acW ?_);refine cZ j (Bh (Bh ?_))
   exact bn (x:=(⟨j,N,O,U,V,X,Y,Z,ab⟩:sL)) (⟨j+1,N++[x],b1,an,cn,gn,a3,bb,bp⟩:sL) sb I (by dsimp only;rw[aaj];rfl) ⟨aC,by dsimp only;rw[aaj];exact .inl on,aY,fun y hy=>by
    grind,by dsimp only;rw[aaj,abd];omega,q5,q6⟩ aC
  refine sk (acW ?_);refine cZ j (Bh ?_);exact bn (x:=(⟨j,N,O,U,V,X,Y,Z,ab⟩:sL)) (⟨j+1,N,b1,U,V,X,a3,bb,bp⟩:sL) sb I I ⟨aC,aA,aY,q1,q2,q5,q6⟩ aC
 refine au ?_;refine Bf ?_;refine Bi (hs':=pt rb (aH lb R2 s2) RT::lh::g2::pt wb (cw (.slice (some a) (eq ss) cN) vn (.slice U (eq N) V) (.slice aL (eq dl) cL) (.slice Y (eq O) Z) bm Rs Je lead bad) bw::gN::gL::hm::X::ab::hs) ((((((aap _ _ _).trans ((aak [_,_] [_] _).cons _)).cons _).cons _).cons _).cons _ |>.cons _) ?_;refine cl 2 I (IP I2 o2 hc hi aS aT ow oL cp hO (hA.le ap)) ?_;rintro c7 cz cx ⟨aa,J,ak,ad,ae,ag,rfl,aq,cu,cY⟩;refine au ?_;refine Bi (hs':=pt rb (aH lb R2 s2) RT::lh::g2::pt wb (cw (.slice (some a) (eq ss) cN) vn (.slice U (eq N) V) (.slice ad (eq aa) ae) (.slice Y (eq O) Z) bm Rs Je J ak) bw::gN::hm::ag::X::ab::hs) ((((((aap _ _ _).cons _).cons _).cons _).cons _).cons _) ?_;refine cl 2 I (HA (I2.le aq) o2 hc hi bs aS aT ow hO ((hA.le ap).le aq)) ?_
 rintro c8 cA cy ⟨aO,m2,b0,rfl,cU,ce,cd⟩;refine fin 0 I ?_;refine Bk (hs':=pt rb (aH lb R2 s2) RT::lh::g2::pt wb (cw (.slice (some a) (eq ss) cN) vn (.slice U (eq N) V) (.slice ad (eq aa) ae) (.slice Y (eq O) Z) bm Rs (max Je R2.Je) J aO) bw::gN::X::ag::ab::b0::hs) (((((((aak [_] [_,_,_] _).trans (aap _ _ _)).cons _).cons _).cons _).cons _).cons _) ?_;refine bZ I ⟨R2,s2,g2,N,aa,O,m2,max Je R2.Je,J,aO,U,V,X,ad,ae,ag,Y,Z,ab,b0,I,(ap.trans aq).trans cU,(I2.le aq).le cU,.inr I,(aA.le aq).le cU,cu,aD,ce,cd,by rw[<-az];exact q1,q2,by rw[<-az];exact q3,by rw[<-az];omega,fun p hp=>?_,?_,.inr (by rw[cs.2]),?_⟩
 all_goals grind
end
section
theorem CB{s}:∀(l:List bH) (i:Nat),l[i]?=some s->∀j,j<3->(l.flatMap bH.Ra)[i*3+j]?=s.Ra[j]?
 |[],i,h,_,_=>by simp at h
 |t::r,0,h,j,hj=>by
  have ht:eq t.Ra=3:=rfl
  grind
 |t::r,i+1,h,j,hj=>by
  have ht:eq t.Ra=3:=rfl;rw[abM,abc qo,ht,show(i+1)*3+j-3=i*3+j by omega];exact CB r i (by simpa using h) j hj
theorem wZ(s):∀(l:List bH) (i:Nat),i<eq l->(l.set i s).flatMap bH.Ra=(((l.flatMap bH.Ra).set (i*3) (.pointer (some ⟨s.db,0,none⟩))).set (i*3+1) (.pointer (some ⟨s.lb,0,none⟩))).set (i*3+2) (.pointer (some ⟨s.rb,0,none⟩))
 |[],i,h=>by simp at h
 |t::r,0,h=>rfl
 |t::r,i+1,h=>by
  rw[acA,abM,wZ s r i (by simpa using h),abM];rw[show(i+1)*3=i*3+3 by omega,show i*3+3+1=i*3+1+3 by omega,show i*3+3+2=i*3+2+3 by omega]
  rfl
def LA{gn off cap}{J:Ah}{ss:List bH}(hs:J.size=off+cap*3)(N:eq ss<=cap)(hm:cap<=maxLen)(ht:(J.toList.drop off).take (eq ss*3)=ss.flatMap bH.Ra){i}(hi:i<eq ss)(s):
  aJ (pt gn (((J.setIfInBounds (off+i*3) (.pointer (some ⟨s.db,0,none⟩))).setIfInBounds (off+i*3+1) (.pointer (some ⟨s.lb,0,none⟩))).setIfInBounds (off+i*3+2) (.pointer (some ⟨s.rb,0,none⟩))) d9) (some ⟨gn,off,none⟩) (eq (ss.set i s)) cap d9 3 ((ss.set i s).flatMap bH.Ra):=by
 have hl:eq ((ss.set i s).flatMap bH.Ra)=eq (ss.set i s)*3:=by
  grind[wZ]
 refine⟨hl,by rw[aan];exact N,hm,.inr ⟨gn,off,_,I,I,by simp_all,?_⟩⟩;rw[aan,wZ s ss i hi,<-ht];simp only[Array.toList_setIfInBounds,List.drop_set,List.take_set];rw[aaa qo,aaa qo,aaa qo,show off+i*3-off=i*3 by omega,show off+i*3+1-off=i*3+1 by omega,show off+i*3+2-off=i*3+2 by omega];simp[List.take_set]
def Oh{lh g gN:PH}{rb lb db c q z k R L D s}(iN:cX K rb lb db R L D s lh g)(o:NI c q z k R L D)(hc:c<=900000000)
  {wb vn bm Je lead cN aN F Ls V Rs bad} {ss:List bH} {i st} (hi:ss[i]?=some st) (aL:st.db=db) (ow:aJ gN aN (eq ss) cN d9 3 (ss.flatMap bH.Ra)) (aV:vn<=7)
  (ap cp ps) (xp:aj K ap (eq ps) cp 1 (iv ps)) (aS:∀p∈ps,-9223372036854775808<=p/\p<=9223372036854775807) (aR:eq ps<2^40)
  {cc c2} (oC:aW cc (D.Ke ps)) (aF:cc<=199000000) {L2 E} (hf:eZ (D.Ke ps) (dO vn)=(some L2,E,0)) (aE:bh c2 L2):
  ai w0 125 [Rp wb,.int .i64 (i:Nat),.slice ap (eq ps) cp] K (pt rb (aH lb R s) RT::lh::g::pt wb (cw (.slice aN (eq ss) cN) vn F Ls V bm Rs Je lead bad) bw::gN::hs)
   (fun v K' hs'=>∃J ad,hs'=pt J.rb (aH J.lb J.R J.s) RT::J.lh::J.g::pt wb (cw (.slice aN (eq ss) cN) vn F Ls V bm Rs Je lead bad) bw::ad::hs/\Le K K'/\bH.ok K' J/\J.R=Nd.new (i:Int) L2/\J.L=L2/\J.D=E/\aJ ad aN (eq (ss.set i J)) cN d9 3 ((ss.set i J).flatMap bH.Ra)):=by
 have ak:=(aav.1 hi).1;have a1:=ow.Ni;obtain⟨h1,h2,h3,⟨rfl,rfl,rfl⟩|⟨gn,off,N,rfl,rfl,aT,ht⟩⟩:=ow
 ·omega
 have Y:∀j u,j<3->st.Ra[j]?=some u->N[off+i*3+j]?=some u:=fun j u hj hu=>by
  have h4:=CB ss i hi j hj
  grind
 have u0:=Y 0 _ qo rfl;rw[aL]at u0;obtain⟨v1,u1⟩:∃v,N[off+i*3+1]?=some v:=⟨_,Y 1 _ qo rfl⟩;obtain⟨v2,u2⟩:∃v,N[off+i*3+2]?=some v:=⟨_,Y 2 _ qo rfl⟩;have am:off+i*3<N.size:=(ab8.1 u0).1;refine ent Tryz.func125 ?_;refine au ?_;refine dZ 1 i I I a1 ak Q9 fun bq aA=>?_;cases aA;rw[bf];refine au ?_;refine aX 4 4 I I u0 ?_;refine cl 1 I (Ed 1 I (NF iN.l _ o.rn.ok qo ps aS ap cp xp aR)) ?_;rintro bs bb a3 ⟨aq,_,rfl,rfl,b2,d2,rfl,aY,hC,rfl⟩;refine Ji 2 5 I I u0 I ?_;have av:(N.setIfInBounds (off+i*3) (Rp b2))[off+i*3]?=some (Rp b2):=by simp[am]
 have w1:(N.setIfInBounds (off+i*3) (Rp b2))[off+i*3+1]?=some v1:=by simp_all
 have w2:∀x,((N.setIfInBounds (off+i*3) (Rp b2)).setIfInBounds (off+i*3+1) x)[off+i*3+2]?=some v2:=fun x=>by simp_all
 have ag:=fun s'=>LA (gn:=gn) aT h2 h3 ht ak s';refine Ew (d2::pt rb (aH lb R s) RT::aq::g::pt wb (cw (.slice (some ⟨gn,off,none⟩) (eq ss) cN) vn F Ls V bm Rs Je lead bad) bw::pt gn (N.setIfInBounds (off+i*3) (Rp b2)) d9::hs) I ?_;obtain⟨ab,U⟩:∃x,x=N.setIfInBounds (off+i*3) (Rp b2):=⟨_,rfl⟩;rw[<-U]at av w1⊢;have w2:=fun x=>by have:=w2 x;rw[<-U]at this;exact this
 refine au ?_;refine bC [5,4] 15 [0,2,4,6,8,10,12,14,17,19,20,22,24,26,28] ?_;refine bT qk 3 0 I I av ?_;refine au ?_;refine cl 0 I (ED vn aV) ?_;rintro bB bi a4 ⟨cU,rfl,ay,az,rfl,a2⟩;refine dX Q8 cU ?_;refine au ?_;refine cl 0 I (FW b2 (D.Ke ps) _ oC aF (hC.le cU) (dO vn) (by rw[xJ];omega) ay az a2) ?_;rintro bV bo a5 ⟨ae,rfl,an,hX⟩;rw[hf]at hX;rcases hX with⟨aO,_⟩|⟨L',Z,aD,rfl,hL⟩
 ·cases aO
 cases aD;refine dX Q8 an ?_;refine aI qk 5 I (acU ?_);refine fin 2 I (th (bP I (sk (acV ?_))));refine Ji 4 5 I I w1 I ?_;refine Ez 5 (pt gn (ab.setIfInBounds (off+i*3+1) (Rp Z)) d9) ?_;refine au ?_;refine cl 3 I (FX aE hL (i:Int)) ?_;rintro b0 bp a6 ⟨O,g2,rfl,rfl,a0,I3⟩;refine Ji 2 7 I I (w2 _) I ?_;refine fin 0 I ?_;obtain⟨J,X⟩:∃J:bH,J=⟨b2,Z,O,Nd.new (i:Int) L2,L2,E,⟨.slice none 0 0,.slice none 0 0,.slice none 0 0,.slice none 0 0,gu O,gu O,kK O⟩,ae,g2⟩:=⟨_,rfl⟩;have aa:=ag J;rw[X]at aa;dsimp only at aa;rw[<-U,<-X]at aa;refine Bk (hs':=pt rb (aH lb R s) RT::aq::g::pt O (aH Z (Nd.new (i:Int) L2) ⟨.slice none 0 0,.slice none 0 0,.slice none 0 0,.slice none 0 0,gu O,gu O,kK O⟩) RT::ae::g2::pt wb (cw (.slice (some ⟨gn,off,none⟩) (eq ss) cN) vn F Ls V bm Rs Je lead bad) bw::pt gn ((ab.setIfInBounds (off+i*3+1) (Rp Z)).setIfInBounds (off+i*3+2) (Rp O)) d9::hs) (aak [_,_,_] [_,_,_] _) (Bh (Bh (Bh ?_)))
 exact bZ I ⟨J,_,by rw[X],((aY.trans cU).trans an).trans a0,by rw[X];exact I3,by rw[X],by rw[X],by rw[X],aa⟩
end
end Go.En
