/-
  Part 4.
-/
import Derived.Test.YtaifbolghjccjaaGreatSm3
set_option linter.defProp false
set_option linter.unusedSectionVars false
set_option linter.unusedSimpArgs false
set_option linter.unusedVariables false
set_option maxRecDepth 4000
namespace Go.En
open Go.Proofs Go.Proofs.YtaifbolghjccjaaGreat
open List renaming length -> eq
attribute [local irreducible] Code.wp wpList Calls
variable {w0 : World} {K : PH} {hs : List PH} {P : Program}
section
def E6(D:Dk)(fr n:Nat)(r:List Nat)(W:Wl)(g:List Nat):ga D fr (n::r) W g =
  if (eN D fr n W).2.1=false\/bn<(eN D fr n W).1.first+eq (eN D fr n W).1.recs then ((eN D fr n W).1,if (eN D fr n W).2.2 then g++[n] else g,false)
  else ga D fr r (eN D fr n W).1 (if (eN D fr n W).2.2 then g++[n] else g):=rfl
def GY{D:Dk}{fr n:Nat}{W:Wl}(h:W.first<=bn):(eN D fr n W).1.first<=bn/\eq (eN D fr n W).1.recs<=eq W.recs+4128831:=by
 unfold eN
 split
 ·exact ⟨h,acx _ _⟩
 unfold jl
 split
 ·exact ⟨h,acx _ _⟩
 rename_i h1;have h1:=Decidable.not_not.1 h1;have hU:=(nt h1).2
 grind [tU,tV,aG,Wl.follows]
def KC{dh:PH}(db:Nat)(D:Dk)(c:Nat)(oD:aP c D)(hc:c<=400000000)(hd:bN K db D dh)(fr first:Nat)(hfr:fr<18446744073709551616)(hfi:first<18446744073709551616):
  aj w0 59 [Nr db,.int .u64 (fr:Nat),.int .u64 (first:Nat)] K (dh::hs)
   (fun v K' hs'=>Le K K'/\∃ m' dh',hs'=m'++(dh'::hs)/\bN K' db (dz D fr first).2.1 dh'/\match (dz D fr first).1 with
    | none=>m'=[]/\v=.tuple #[.pointer none,.int .i64 (dz D fr first).2.2]
    | some W=>∃ wb,dq K' wb db W m'/\v=.tuple #[.pointer (some ⟨wb,0,none⟩),.int .i64 (dz D fr first).2.2]):=by
 have hbd:=pF oD;have hal:=px oD;have hnl:=pz (aU D);have hsrt:(aU D).Pairwise (· <= ·):=nr _;have hlt:=uo hsrt;have hnd:=pd (xK oD.ok) (fun k hk=>(hbd k hk).1);have htot:=oD.cap;have hroom:=oD.ok.room
 have hn0:∀ n∈ca (aU D),n<18446744073709551616:=fun n hn=>by
  obtain ⟨a,ha,_,rfl⟩:=yB hn;have:=hbd a ha;omega
 have hnx0:gJ (aU D)<18446744073709551617:=by
  unfold gJ;rcases List.eq_nil_or_concat (ca (aU D)) with h|⟨l',b,h⟩
  all_goals grind
 obtain ⟨R,hR⟩:=be (dz D fr first)
 rw[<-hR];refine cB Tryz.func59 ?_;refine cl 1 I (C6 db D hd) ?_;rintro v17 K17 hs17 ⟨rfl,rfl,rfl⟩;unfold dz at hR;cases hdead:D.dead with
 | true=>
  rw[aab hdead] at hR;refine au ?_;rw[hR];exact bM I I I ⟨Le.refl _,[],dh,I,hd,I,I⟩
 | false=>
  rw[aaa (by rw[hdead];simp)] at hR;refine au ?_;refine ai 1 I fun b19 h19=>fin 0 I (th (ax h19 I (fun e3=>?_) (fun e3=>?_)))
  ·rw[aab (by unfold bn;omega)] at hR;refine au ?_;rw[hR];exact bM I I I ⟨Le.refl _,[],dh,I,hd,I,I⟩
  have hft:first<=bn:=by unfold bn;omega
  rw[aaa qo] at hR;refine sk (th (WC.em (WC.perm (aat _ _ _) (WC.em (WC.em (WC.em (WC.em (acI (bd 2 (.agg (dp db none first (.slice none 0 0) (.slice none 0 0) 0 0)) I (fun w=>by kernel_rfl) (bx 0 I fun wb=>al 0 (.pointer none) I qk fun b8=>stp 0 0 I I I I ?_))))))))));refine WL.perm (hs':=[_,_,_,_,_]++(_::dh::em::hs)) (aaN (l₁:=[_,_,_,_,_])).symm ?_
  have hW0:dq K17 wb db ⟨none,first,[],[],0,0⟩ [pt wb (dp db none first (.slice none 0 0) (.slice none 0 0) 0 0) 192,em,em,em,em]:=
   ⟨none,none,0,none,0,em,em,em,em,rfl,⟨rfl,rfl,rfl⟩,dt.nil _ _,dt.nil _ _⟩
  refine au ?_;refine cl 0 I (Hs wb db _ hW0 D c oD qo hd I) ?_;rintro v25 K25 hs25 ⟨le,m2,rfl,hW2,an,kn,rfl,xN⟩;obtain ⟨l,hl⟩:=be (ca (aU D));rw[<-hl] at xN hlt hnd hnl hR hn0 ⊢;obtain ⟨ob,aL,cL,aO,cO,oH,rH,gL,gO,rfl,hop,hL,hO⟩:=hW2;dsimp only at hop hL hO;refine WL.h 0 (pt wb (dp db ob first (.slice aL 0 cL) (.slice aO 0 cO) (gJ (aU D)) 0) 192) ?_;refine WL.h 5 (pt b8 #[Nr wb] 116) ?_;refine au ?_;refine bQ [5,0] 9 [0,2,4,6,8,10,12,14,16,19] ?_;refine au ?_;obtain ⟨mx,hmx⟩:=be (max (gJ (aU D)) fr);have hmx2:(if ((fr:Nat):Int)>((gJ (aU D):Nat):Int) then ((fr:Nat):Int) else ((gJ (aU D):Nat):Int))=((mx:Nat):Int):=qo
  have hmx3:(dD fr first (aU D)).next=mx:=hmx.symm;have hW0:dD fr first (aU D)=⟨none,first,[],[],mx,0⟩:=by rw[hmx];rfl
  rw[hmx2];refine au ?_;refine ai 0 I fun b39 h39=>fin 0 I (th (ax h39 I (fun e5=>?_) (fun e5=>?_)))
  ·rw[aab (by rw[hmx3];unfold cG;omega)] at hR;refine acI (fin 2 I (acK (rT (WQ.del 0 I (WQ.del 0 I (WQ.del 0 I (WQ.del 0 I (WQ.del 0 I (WQ.del 0 I (WQ.del 1 I ?_))))))))));rw[hR];exact bM I I I ⟨le,[],dh,I,hd.le le,I,I⟩
  have hmxt:mx<=1152921504606846976:=qo
  rw[aaa (by rw[hmx3];unfold cG;omega)] at hR;have hlm:∀ n∈l,n<=2305843009213693952:=fun n hn=>by have:=hlt n hn;omega
  have hsum:∀ j,jG D (l.take j)<=1073741824:=fun j=>by
   grind [yJ]
  have hS0:ig D mx [] ⟨none,first,[],[],mx,0⟩:=⟨rfl,rfl,rfl,Nm,qo,Nm,Nm,Nm⟩;rw[hW0] at hR;obtain ⟨Z,hZ⟩:=be (ga D fr l ⟨none,first,[],[],mx,0⟩ []);rw[<-hZ] at hR
  have hW1:dq K25 wb db ⟨none,first,[],[],mx,0⟩ [pt wb (dp db ob first (.slice aL 0 cL) (.slice aO 0 cO) mx 0) 192,oH,rH,gL,gO]:=
   ⟨ob,aL,cL,aO,cO,oH,rH,gL,gO,rfl,hop,hL,hO⟩
  refine au ?_
  refine loop (σ:=(Nat×Wl×List Nat)×(List PH×(Option Addr×Nat×PH))×PH) (fun s=>[(0,Nr db),(1,.int .u64 (fr:Nat)),(8,Nr b8),(9,.slice an (eq l) kn),(10,.slice s.2.1.2.1 (eq s.1.2.2) s.2.1.2.2.1),(40,.slice an (eq l) kn),(41,.int .i64 (eq l)),(42,.int .i64 s.1.1)]) (fun s=>s.2.2)
   (fun s=>s.2.1.1++(pt b8 #[Nr wb] 116::dh::s.2.1.2.2.2::hs))
   (fun s=>s.1.1<=eq l/\ga D fr (l.drop s.1.1) s.1.2.1 s.1.2.2=Z/\ig D mx (l.take s.1.1) s.1.2.1/\eq s.1.2.2<=s.1.1/\Le K25 s.2.2/\dq s.2.2 wb db s.1.2.1 s.2.1.1/\aZ s.2.1.2.2.2 s.2.1.2.1 (eq s.1.2.2) s.2.1.2.2.1 29 1 (ik s.1.2.2)) (fun s=>eq l-s.1.1)
   ((0,⟨none,first,[],[],mx,0⟩,[]),([_,_,_,_,_],(none,0,em)),K25) ⟨aad _,hZ.symm,hS0,aac _,Le.refl _,hW1,aZ.nil _ _⟩ ⟨rfl,rfl,rfl,rfl,rfl,rfl,rfl,rfl,trivial⟩ rfl rfl ?_
  clear hS0 hW0 hW1 hop hL hO;clear oH rH gL gO;rintro ⟨⟨j,W,g⟩,⟨m,⟨ag,cg,gh⟩⟩,K1⟩ ⟨hj,hw,hS,hgl,le1,hW,og⟩;dsimp only at *;obtain ⟨ob,aL,cL,aO,cO,oH,rH,gL,gO,rfl,hop,hL,hO⟩:=id hW;have hsj:=hsum j;have hr:=hS.recs;have ho:=hS.old;have hla:=hS.last;rw[aam] at ho;refine acI (ai 0 I fun b43 h43=>au ?_);refine ax h43 I (fun e7=>?_) (fun e7=>?_)
  ·have hjl:j<eq l:=qo
   obtain ⟨n,ha⟩:∃ a,l[j]?=some a:=⟨l[j],aai hjl⟩;have hnb:=hlm n (aao ha);have htk:l.take (j+1)=l.take j++[n]:=by rw[aaK,ha];rfl
   rw[aaF hjl,show l[j]=n from by simp_all,E6] at hw;obtain ⟨V,hV⟩:=be (eN D fr n W);have hVb:=GY (D:=D) (fr:=fr) (n:=n) (W:=W) qo;have hVs:=ig.step oD.ok hS (fr:=fr) (n:=n);rw[<-hV] at hw hVb hVs;refine au ?_;refine dR 0 j I I I (xN.le le1) (ri ha) fun a44 hc44=>ld 0 I (.inl I) hc44 (al 0 (.int .u64 0) I qk fun b12=>stp 0 0 I I I I (WL.hs (pt b12 #[.int .u64 (n:Nat)] 29::_) I (au ?_)));refine bQ [0] 5 [0,2,4,6,8] ?_;refine au ?_;refine dC qk 1 (n<fr) I Nm fun b48 h48=>aM qk 2 I (th ?_);refine WC.perm (hs':=[_,_,_,_,_]++(pt b12 #[.int .u64 (n:Nat)] 29::pt b8 #[Nr wb] 116::dh::gh::hs)) (aaN (l₁:=[_,_,_,_,_])).symm ?_
   refine jR (σ:=List PH×PH) (fun _=>[(0,Nr db),(1,.int .u64 (fr:Nat)),(8,Nr b8),(9,.slice an (eq l) kn),(10,.slice ag (eq g) cg),(12,Nr b12),(13,.bool V.2.1),(14,.bool V.2.2),(40,.slice an (eq l) kn),(41,.int .i64 (eq l)),(42,.int .i64 (j:Nat))]) (fun s=>s.2)
    (fun s=>s.1++(pt b12 #[.int .u64 (n:Nat)] 29::pt b8 #[Nr wb] 116::dh::gh::hs)) (fun s=>Le K1 s.2/\dq s.2 wb db V.1 s.1) ?_ ?_
   ·refine acI (dE 1 _ I (kU h48) fun b50 h50=>fin 0 I<|th (ax h50 I (fun e8=>?_) (fun e8=>?_)))
    ·have hVr:V=jl D n W:=by rw[hV];unfold eN;rw[aaa e8]
     refine au ?_;refine cl 2 I (Kt wb db b8 b12 W hW hla qo qo D c oD.ok qo (hd.le (le.trans le1)) n hnb) ?_;rintro v56 K56 hs56 ⟨le2,m5,rfl,hW5,rfl⟩;rw[<-hVr] at hW5 ⊢;exact fin 5 I (fb (m5,K56) ⟨le2,hW5⟩ sb I I)
    have e8:n<fr:=Decidable.not_not.1 e8;have hVr:V=(W,true,true):=by rw[hV];unfold eN;rw[aab e8]
    obtain rfl:b48=true:=h48.2 e8;rw[hVr];refine sk ?_;exact fb ([_,_,_,_,_],K1) ⟨Le.refl _,hW⟩ ⟨I,I,I,I,I,I,I,I,I,I,I,trivial⟩ I I
   clear hW hop hL hO;clear oH rH gL gO;rintro ⟨m,K2⟩ ⟨le2,hW⟩;dsimp only at *;obtain ⟨ob,aL,cL,aO,cO,oH,rH,gL,gO,rfl,hop,hL,hO⟩:=id hW;obtain ⟨g',hg'⟩:=be (if V.2.2=true then g++[n] else g);rw[<-hg'] at hw;have hgl':eq g'<=j+1:=by rw[hg'];split <;> (try simp) <;> omega
   refine jn (σ:=Option Addr×Nat×PH) (fun s=>[(0,Nr db),(1,.int .u64 (fr:Nat)),(8,Nr b8),(9,.slice an (eq l) kn),(10,.slice s.1 (eq g') s.2.1),(13,.bool V.2.1),(40,.slice an (eq l) kn),(41,.int .i64 (eq l)),(42,.int .i64 (j:Nat))])
    (fun s=>pt wb (dp db ob V.1.first (.slice aL (eq V.1.recs) cL) (.slice aO (eq V.1.old) cO) V.1.next V.1.code) 192::oH::rH::gL::gO::pt b12 #[.int .u64 (n:Nat)] 29::pt b8 #[Nr wb] 116::dh::s.2.2::hs)
    (fun s=>aZ s.2.2 s.1 (eq g') s.2.1 29 1 (ik g')) ?_ ?_
   ·refine acI ?_;cases hv:V.2.2 with
    | true=>
     rw[aab hv] at hg';refine au ?_;refine lit 0 #[.int .u64 (n:Nat)] I Nn qk fun b62=>app 0 9 I I og (.inr ⟨0,I⟩) (aZ.ofPt (n:=1) (size:=1) I Nn).isS I Nn (by simp[Value.oneCell']) (by show (eq g+1)*8<=_;omega) (by simp only[maxLen];omega) fun ao63 c63 g63 o63=>fin 1 rfl (WQ.drop ?_);refine jx (ao63,c63,g63) (nP o63 (by rw[hg'];simp) (by rw[hg',AP];rfl)) ⟨rfl,rfl,rfl,rfl,by dsimp only;rw[hg',aah];rfl,rfl,rfl,rfl,rfl,trivial⟩ rfl rfl
    | false=>
     rw[aaa (by rw[hv];simp)] at hg';refine fin 1 I (th (bY I (sk ?_)));refine jx (ag,cg,gh) (by dsimp only;rw[hg'];exact og) ⟨I,I,I,I,by dsimp only;rw[hg'];rfl,rfl,rfl,rfl,rfl,trivial⟩ rfl rfl
   rintro ⟨ag,cg,gh⟩ og;dsimp only at *;cases hv:V.2.1 with
   | false=>
    rw[aab (.inl hv)] at hw;rw[<-hw] at hR;dsimp only at hR;rw[aab rfl] at hR;refine sq (bQ [6,0] 16 [0,2,4,6,8,10,12,14,16,18,20,22,24,26,28,30] ?_);refine aM qk 16 I (th (cU I (acI (fin 2 I (acK (rB (rT (rT (rB (rT (WQ.del 0 I (WQ.del 0 I (WQ.del 0 I (WQ.del 0 I (WQ.del 0 I (WQ.del 0 I (WQ.del 0 I (WQ.del 1 I ?_))))))))))))))))));rw[hR];exact bM I I I ⟨le.trans (le1.trans le2),[],dh,I,hd.le (le.trans (le1.trans le2)),I,I⟩
   | true=>
    refine sq (bQ [6,0] 16 [0,2,4,6,8,10,12,14,16,18,20,22,24,26,28,30] ?_);refine au ?_;refine bA qk 1 I (bL (x:=((eq V.1.recs:Nat):Int)) qo) (bA qk 0 I (bL (x:=((V.1.first+eq V.1.recs:Nat):Int)) (by unfold bn at *;omega)) (dC qk 0 (bn<V.1.first+eq V.1.recs) rfl (by unfold bn;simp;omega) fun b78 h78=>au ?_));refine ax h78 I (fun e10=>?_) (fun e10=>?_)
    ·rw[aab (.inr e10)] at hw;rw[<-hw] at hR;dsimp only at hR;rw[aab rfl] at hR;refine acI (fin 2 I (acK (rB (rT (rT (rB (rT (WQ.del 0 I (WQ.del 0 I (WQ.del 0 I (WQ.del 0 I (WQ.del 0 I (WQ.del 0 I (WQ.del 0 I (WQ.del 1 I ?_)))))))))))))));rw[hR];exact bM I I I ⟨le.trans (le1.trans le2),[],dh,I,hd.le (le.trans (le1.trans le2)),I,I⟩
    rw[aaa (by rw[hv];simp;omega)] at hw;refine sk (acG (WL.del 5 I (ar 0 I (aC (x:=((j+1:Nat):Int)) qo) (fin 1 I ?_))));exact bw (x:=((j,W,g),([],(ag,cg,gh)),K1)) ((j+1,V.1,g'),([_,_,_,_,_],(ag,cg,gh)),K2) ⟨I,I,I,I,I,I,I,I,trivial⟩ I I ⟨aH,hw,by dsimp only;rw[htk];exact hVs qo,hgl',le1.trans le2,hW,og⟩ aH
  obtain rfl:j=eq l:=qo
  rw[aaY] at hw;have hw:(W,g,true)=Z:=hw;rw[<-hw] at hR;dsimp only at hR;rw[aaa Nm] at hR;refine ex (xt (xt (xb (acF (a9 0 5 I I I ?_)))));refine WL.perm (hs':=gh::([_,_,_,_,_,_,_]++hs)) (aaN (l₁:=[_,_,_,_,_,_,_])) (WL.frz fun K3 l1 l2=>?_);have hW3:dq K3 wb db W [pt wb (dp db ob W.first (.slice aL (eq W.recs) cL) (.slice aO (eq W.old) cO) W.next W.code) 192,oH,rH,gL,gO]:=hW.le l1;refine cl 2 I (IH wb db W hW3 D c oD qo (hd.le (le.trans (le1.trans l1))) l g an kn (xN.le (le1.trans l1)) ag cg (og.isS.le l2) qo qo hlm) ?_;rintro v84 K84 hs84 ⟨rfl,dh,rfl,hE,rfl⟩;obtain ⟨Y,hY⟩:=be (wsettle g l D);rw[<-hY] at hE hR ⊢;refine au ?_;refine ai 1 I fun b86 h86=>fin 0 I (th (ax h86 I (fun e16=>?_) (fun e16=>?_)))
  ·rw[aab e16] at hR;refine acI (fin 3 I (acK (rT (WQ.del 0 I (WQ.del 0 I (WQ.del 0 I (WQ.del 0 I (WQ.del 0 I (WQ.del 0 I ?_)))))))));rw[hR];exact bM I I I ⟨le.trans (le1.trans l1),[],dh,I,hE,I,I⟩
  rw[aaa e16] at hR;refine sk (acF (a9 0 5 I I I (fin 2 I (acK (WQ.del 5 I ?_)))));rw[hR];exact bM I I I ⟨le.trans (le1.trans l1),[_,_,_,_,_],dh,I,hE,wb,hW3,I⟩
end
section
def bH:Nat:=1152921504606846976
structure aX where
 idx:Nat
 term:Nat
 vot:List Int
 data:List UInt8
def trm(s:aX)(l:List af)(i:Nat):Nat×Bool:=
 if i=s.idx then (s.term,true) else if i<s.idx\/s.idx+eq l<i then (0,false) else (((l[i-s.idx-1]?).getD af.zero).term,true)
def ei(s:aX)(l:List af)(i:Nat):Option Nat:=if i<=s.idx\/s.idx+eq l<i then none else some (i-s.idx-1)
def cH:Nat->Nat->List af->Int
 | _,_,[]=>0
 | i,t,e::r=>if e.idx≠i+1\/e.term<t then 180 else cH e.idx e.term r
def eA(i t:Nat)(x:List af):Int:=if (x.all fun e=>(gH e).isSome)=true then cH i t x else 181
def jM(s:aX)(l:List af)(t:Nat):Nat->Nat
 | 0=>0
 | i+1=>if s.idx<i+1 then (if (trm s l i).1≠t then i else jM s l t i) else i+1
def o6(s:aX)(l:List af)(i:Nat):Nat:=if s.idx+eq l<i then s.idx+eq l else jM s l (trm s l i).1 i
def skp(s:aX)(l:List af):List af->Bool->List af×Bool
 | [],b=>([],b)
 | e::r,_=>if (trm s l e.idx).2=false\/(trm s l e.idx).1≠e.term then (e::r,(trm s l e.idx).2) else skp s l r true
def eg(s:aX)(l:List af)(up:Nat):List Int×Nat:=
 match l.reverse.find? fun e=>decide (e.kind=2/\e.idx<=up) with
 | some e=>((ft e.data).getD [],e.idx)
 | none=>(s.vot,s.idx)
def gW(s:aX)(l:List af)(frm:Nat)(most:Int):List af:=
 match ei s l frm with
 | none=>[]
 | some k=>(l.drop k).take most.toNat
def dL(s:aX)(l:List af)(t:aX):Bool:=(trm s l t.idx).2 && decide ((trm s l t.idx).1=t.term)
structure Lg where
 w:Wl
 hard:bZ
 head:bZ
 kt:Nat
 kv:Int
 sn:aX
 place:Nat
 fr:Nat
 l:List af
 code:Int
def Lg.last(L:Lg):Nat:=L.sn.idx+eq L.l
def eT(code e:Int):Int:=if code=0 then e else code
def Lg.setHard(L:Lg)(D:Dk)(t:Nat)(v:Int):Lg×Dk×Int:=
 if L.code≠0 then (L,D,L.code)
 else if v < -1\/7<=v then (L,D,181)
 else if t<L.kt then (L,D,180)
 else if (L.hard.save 0 D (aI t++aI (v+1).toNat)).2.2=0 then ({ L with hard:=(L.hard.save 0 D (aI t++aI (v+1).toNat)).1,kt:=t,kv:=v },(L.hard.save 0 D (aI t++aI (v+1).toNat)).2.1,0)
 else ({ L with hard:=(L.hard.save 0 D (aI t++aI (v+1).toNat)).1,code:=(L.hard.save 0 D (aI t++aI (v+1).toNat)).2.2 },(L.hard.save 0 D (aI t++aI (v+1).toNat)).2.1,(L.hard.save 0 D (aI t++aI (v+1).toNat)).2.2)
def Lg.app1:List af->Lg->Dk->Lg×Dk×Int
 | [],L,D=>(L,D,0)
 | e::r,L,D=>
  if (L.w.append e.bytes D).2.2≠0 then ({ L with w:=(L.w.append e.bytes D).1,code:=(L.w.append e.bytes D).2.2 },(L.w.append e.bytes D).2.1,(L.w.append e.bytes D).2.2)
  else app1 r { L with w:=(L.w.append e.bytes D).1,l:=L.l++[e] } (L.w.append e.bytes D).2.1
def Lg.append(L:Lg)(x:List af)(D:Dk):Lg×Dk×Int:=
 if L.code≠0 then (L,D,L.code)
 else if eA L.last (trm L.sn L.l L.last).1 x≠0 then (L,D,eA L.last (trm L.sn L.l L.last).1 x)
 else L.app1 x D
def Lg.sync(L:Lg)(D:Dk):Lg×Dk×Int:=
 if L.code≠0 then (L,D,L.code) else ({ L with w:=(L.w.sync D).1,code:=(L.w.sync D).1.code },(L.w.sync D).2,(L.w.sync D).1.code)
def Lg.merge3(L:Lg)(x:List af)(last:Nat)(D:Dk):Lg×Dk×Nat×Bool×Int:=
 if (L.append x D).2.2≠0 then ((L.append x D).1,(L.append x D).2.1,0,false,(L.append x D).2.2) else ((L.append x D).1,(L.append x D).2.1,last,true,0)
def Lg.cutAt(L:Lg)(i:Nat)(W:Wl):Lg:={ L with w:=W,l:=L.l.take ((ei L.sn L.l i).getD 0) }
def Lg.merge2(L:Lg)(x:List af)(last:Nat)(D:Dk):Lg×Dk×Nat×Bool×Int:=
 match (skp L.sn L.l x true).1 with
 | []=>L.merge3 [] last D
 | e::r=>
  if (skp L.sn L.l x true).2=true then
   (if (L.w.truncate e.idx D).2.2≠0 then ({ L with w:=(L.w.truncate e.idx D).1,code:=(L.w.truncate e.idx D).2.2 },(L.w.truncate e.idx D).2.1,0,false,(L.w.truncate e.idx D).2.2)
    else (L.cutAt e.idx (L.w.truncate e.idx D).1).merge3 (e::r) last (L.w.truncate e.idx D).2.1)
  else L.merge3 (e::r) last D
def Lg.merge1(L:Lg)(i t:Nat)(x:List af)(last:Nat)(D:Dk):Lg×Dk×Nat×Bool×Int:=
 if (trm L.sn L.l i).2=false\/(trm L.sn L.l i).1≠t then (L,D,o6 L.sn L.l i,false,0) else L.merge2 x last D
def Lg.merge(L:Lg)(i t:Nat)(x:List af)(D:Dk):Lg×Dk×Nat×Bool×Int:=
 if L.code≠0 then (L,D,0,false,L.code)
 else if eA i t x≠0 then (L,D,0,false,eA i t x)
 else if i<L.sn.idx then
  (if i+eq x<L.sn.idx then (L,D,i+eq x,true,0)
   else if ((x.drop (L.sn.idx-i)).head?.map fun e=>decide (e.term<L.sn.term))=some true then (L,D,0,false,180)
   else L.merge1 L.sn.idx L.sn.term (x.drop (L.sn.idx-i)) (i+eq x) D)
 else L.merge1 i t x (i+eq x) D
def Lg.fits(L:Lg)(s:aX):Int:=
 if L.code≠0 then L.code
 else if (bU s.vot).isSome=false\/2097152<eq s.data then 181
 else if s.idx<=L.sn.idx\/bH<=s.idx then 180
 else 0
def bu(place:Nat):Nat:=4*place+2
def lgW(place:Nat):Nat->Nat->List UInt8->Dk->Dk×Int
 | 0,_,_,D=>(D,0)
 | f+1,n,b,D=>
  if b=[] then (D,0)
  else if (D.write (bu place) n (b.take 64)).2≠0 then D.write (bu place) n (b.take 64)
  else lgW place f (n+1) (b.drop 64) (D.write (bu place) n (b.take 64)).1
def Lg.say(s:aX)(place fr:Nat):List UInt8:=aI s.idx++(aI s.term++(aI place++(aI (eq s.data)++(aI fr++ob (bU s.vot)))))
def Lg.laid(L:Lg)(s:aX)(fr:Nat)(H:bZ):Lg:=
 { L with head:=H,l:=if dL L.sn L.l s=true then L.l.drop ((ei L.sn L.l s.idx).getD 0+1) else [],place:=L.place+1,fr:=fr,sn:=s }
def Lg.lay3(L:Lg)(s:aX)(fr:Nat)(H:bZ)(D:Dk):Lg×Dk×Int:=
 ({ L.laid s fr H with code:=(D.free (bu L.place)).2 },(D.free (bu L.place)).1,(D.free (bu L.place)).2)
def Lg.lay2(L:Lg)(s:aX)(fr:Nat)(D:Dk):Lg×Dk×Int:=
 if (L.head.save 4 D (Lg.say s (L.place+1) fr)).2.2≠0 then ({ L with head:=(L.head.save 4 D (Lg.say s (L.place+1) fr)).1,code:=(L.head.save 4 D (Lg.say s (L.place+1) fr)).2.2 },(L.head.save 4 D (Lg.say s (L.place+1) fr)).2.1,(L.head.save 4 D (Lg.say s (L.place+1) fr)).2.2)
 else L.lay3 s fr (L.head.save 4 D (Lg.say s (L.place+1) fr)).1 (L.head.save 4 D (Lg.say s (L.place+1) fr)).2.1
def Lg.lay1(L:Lg)(s:aX)(fr:Nat)(D:Dk):Lg×Dk×Int:=
 if (D.sync (bu (L.place+1))).2≠0 then ({ L with code:=(D.sync (bu (L.place+1))).2 },(D.sync (bu (L.place+1))).1,(D.sync (bu (L.place+1))).2)
 else L.lay2 s fr (D.sync (bu (L.place+1))).1
def Lg.lay(L:Lg)(s:aX)(fr:Nat)(D:Dk):Lg×Dk×Int:=
 if (lgW (L.place+1) (eq s.data+1) 0 s.data D).2≠0 then ({ L with code:=(lgW (L.place+1) (eq s.data+1) 0 s.data D).2 },(lgW (L.place+1) (eq s.data+1) 0 s.data D).1,(lgW (L.place+1) (eq s.data+1) 0 s.data D).2)
 else L.lay1 s fr (lgW (L.place+1) (eq s.data+1) 0 s.data D).1
def Lg.save2(L:Lg)(s:aX)(D:Dk):Lg×Dk×Int:=
 if (L.lay s L.fr D).2.2≠0 then L.lay s L.fr D
 else ({ (L.lay s L.fr D).1 with w:=((L.lay s L.fr D).1.w.compact (s.idx+1) (L.lay s L.fr D).2.1).1,code:=((L.lay s L.fr D).1.w.compact (s.idx+1) (L.lay s L.fr D).2.1).2.2 },((L.lay s L.fr D).1.w.compact (s.idx+1) (L.lay s L.fr D).2.1).2.1,((L.lay s L.fr D).1.w.compact (s.idx+1) (L.lay s L.fr D).2.1).2.2)
def Lg.save1(L:Lg)(s:aX)(D:Dk):Lg×Dk×Int:=if (L.sync D).2.2≠0 then L.sync D else (L.sync D).1.save2 s (L.sync D).2.1
def Lg.save(L:Lg)(s:aX)(D:Dk):Lg×Dk×Int:=
 if L.fits s≠0 then (L,D,L.fits s) else if dL L.sn L.l s=false then (L,D,180) else L.save1 s D
def Lg.inst1(L:Lg)(s:aX)(D:Dk):Lg×Dk×Int:=
 if (L.lay s L.w.next D).2.2≠0 then L.lay s L.w.next D
 else ({ (L.lay s L.w.next D).1 with w:=((L.lay s L.w.next D).1.w.reset (s.idx+1) (L.lay s L.w.next D).2.1).1,code:=((L.lay s L.w.next D).1.w.reset (s.idx+1) (L.lay s L.w.next D).2.1).2.2 },((L.lay s L.w.next D).1.w.reset (s.idx+1) (L.lay s L.w.next D).2.1).2.1,((L.lay s L.w.next D).1.w.reset (s.idx+1) (L.lay s L.w.next D).2.1).2.2)
def Lg.install(L:Lg)(s:aX)(D:Dk):Lg×Dk×Int:=
 if L.fits s≠0 then (L,D,L.fits s) else if dL L.sn L.l s=true then L.save s D else L.inst1 s D
end
section
def Ct.at2{f:FuncId}{args:List Value}{a b:PH}{S:Value->PH->PH->PH->Prop}(i j:Nat)(hi:hs[i]?=some a)(hj:(hs.eraseIdx i)[j]?=some b)
  (c:Ct P w0 f args K (a::b::(hs.eraseIdx i).eraseIdx j) (fun v K' hs'=>∃ a' b',hs'=a'::b'::(hs.eraseIdx i).eraseIdx j/\S v K' a' b')):
  Ct P w0 f args K hs (fun v K' hs'=>∃ a' b',hs'=((hs.eraseIdx i).set j b').insertIdx i a'/\S v K' a' b'):=by
 have p1:=gU hs i a hi;have p2:=gU (hs.eraseIdx i) j b hj;refine ⟨c.1,fun w hw=>(c.2 w (hw.perm (p1.trans (p2.cons a)))).mono ?_⟩;rintro e w' ⟨v,K',hs',rfl,⟨a',b',rfl,hS⟩,hw'⟩;refine ⟨v,K',_,I,⟨a',b',I,hS⟩,hw'.perm (((nA (hs.eraseIdx i) j b b' hj).cons a').trans (List.perm_insertIdx _ _ ?_).symm)⟩;rw[aaw,List.length_eraseIdx];have:=(aax.1 hi).1
 split <;> omega
def np{b off:Nat}{c:Array Value}{ty:Nat}{fr:Nat×Nat}(cs:List Value)(h:(c.toList.drop off).take (eq cs)=cs):∀ (j:Nat) v,cs[j]?=some v->cC (pt b c ty fr) ((⟨b,off,none⟩:Addr).add j) v:=by
 refine lx cs fun j v hv=>?_;have hj:=(aax.1 hv).1;rw[<-h,aba hj,abb] at hv;simpa using hv
structure bp (c:Nat) (L:Lg):Prop where
 w:cy c L.w
 hard:L.hard.bd
 head:L.head.bd
 kt:L.kt<=ac
 kv : -1<=L.kv/\L.kv<=6
 idx:L.sn.idx<=bH
 st:L.sn.term<=ac
 vot:eq L.sn.vot<=7
 data:eq L.sn.data<=2097152
 place:L.place<=bH+c
 fr:L.fr<=cG+c
 len:eq L.l<=70000000000+c
 ents:∀ e∈L.l,e.ok/\e.idx<=ac/\e.term<=ac
theorem bp.up{c d:Nat}{L:Lg}(o:bp c L)(h:c<=d):bp d L:=
 ⟨o.w.up h,o.hard,o.head,o.kt,o.kv,o.idx,o.st,o.vot,o.data,by have:=o.place;omega,by have:=o.fr;omega,by have:=o.len;omega,o.ents⟩
def df(wb db hb eb:Nat)(L:Lg)(vS dS lS:Value):Array Value:=
 #[Nr wb,Nr db,Nr hb,Nr eb,.int .u64 L.kt,.int .i64 L.kv,
  .int .u64 L.sn.idx,.int .u64 L.sn.term,vS,dS,.int .u64 L.place,.int .u64 L.fr,lS,.int .i64 L.code]
def fV(K:PH)(wb db:Nat)(W:Wl)(h:PH):Prop:=∃ m,h=cZ m/\gT m/\dq K wb db W m
theorem fV.le{K K':PH}(l:Le K K'){wb db:Nat}{W:Wl}{h:PH}(x:fV K wb db W h):fV K' wb db W h:=let ⟨m,h1,h2,h3⟩:=x;⟨m,h1,h2,h3.le l⟩
def JB{h:PH}(wb db:Nat)(W:Wl)(hW:fV K wb db W h):aj w0 117 [Nr wb] K (h::hs)
  (fun v K' hs'=>K'=K/\hs'=h::hs/\v=.int .u64 W.first):=by
 obtain ⟨m,rfl,d,hm⟩:=hW;refine Ct.bun2 d (JC wb db W hm) ?_;rintro v K' hs' ⟨rfl,rfl,rfl⟩;exact ⟨m,hs,I,fun _=>⟨I,I,I⟩⟩
def KM{h:PH}(wb db:Nat)(W:Wl)(hW:fV K wb db W h):aj w0 200 [Nr wb] K (h::hs)
  (fun v K' hs'=>K'=K/\hs'=h::hs/\v=.int .u64 W.next):=by
 obtain ⟨m,rfl,d,hm⟩:=hW;refine Ct.bun2 d (KN wb db W hm) ?_;rintro v K' hs' ⟨rfl,rfl,rfl⟩;exact ⟨m,hs,I,fun _=>⟨I,I,I⟩⟩
def Ce{h:PH}(wb db:Nat)(W:Wl)(hW:fV K wb db W h)(hb:W.first+eq W.recs<=bn):aj w0 118 [Nr wb] K (h::hs)
  (fun v K' hs'=>K'=K/\hs'=h::hs/\v=.int .u64 (lR (W.first+eq W.recs))):=by
 obtain ⟨m,rfl,d,hm⟩:=hW;refine Ct.bun2 d (pR wb db W hm hb) ?_;rintro v K' hs' ⟨rfl,rfl,rfl⟩;exact ⟨m,hs,I,fun _=>⟨I,I,I⟩⟩
def LJ{h:PH}(wb db:Nat)(W:Wl)(c:Nat)(hc:c<=1000000000)(hb:cy c W)(hW:fV K wb db W h)(i:Nat)(hi:i<18446744073709551616):aj w0 119 [Nr wb,.int .u64 (i:Nat)] K (h::hs)
  (fun v K' hs'=>∃ h',hs'=h'::hs/\h'=h/\Le K K'/\((¬(W.first<=i/\i-W.first<eq W.recs)/\v=.tuple #[.slice none 0 0,.bool false]) \/
   ∃ r ao k,W.first<=i/\W.recs[i-W.first]?=some r/\v=.tuple #[.slice ao (eq r) k,.bool true]/\aw K' ao (eq r) k 1 (bv r))):=by
 obtain ⟨m,rfl,d,hm⟩:=hW;refine Ct.bun2 d (LK wb db W c hc hb hm i hi hb.recl) ?_;rintro v K' hs' ⟨le,rfl,hv⟩;exact ⟨m,hs,I,fun _=>⟨_,I,I,le,hv⟩⟩
def Kl{h dh:PH}(wb db:Nat)(W:Wl)(hW:fV K wb db W h)(D:Dk)(c:Nat)(oD:D.Ok c)(hc:c<=1000000000)(hb:cy c W)(hd:bN K db D dh):
  aj w0 198 [Nr wb] K (h::dh::hs)
   (fun v K' hs'=>∃ h' dh',hs'=h'::dh'::hs/\K'=K/\fV K wb db (W.sync D).1 h'/\bN K db (W.sync D).2 dh'/\v=.int .i64 (W.sync D).1.code):=by
 obtain ⟨m,rfl,d,hm⟩:=hW;refine Ct.bun2 d (vj wb db W hm D c oD hc hb hd) ?_;rintro v K' hs' ⟨rfl,m',dh',rfl,hW',hd',rfl⟩;exact ⟨m',_,I,fun d'=>⟨_,dh',I,I,⟨m',I,d',hW'⟩,hd',I⟩⟩
def H3{h dh hv:PH}(wb db:Nat)(W:Wl)(hW:fV K wb db W h)(D:Dk)(c:Nat)(oD:aP c D)(hc:c<=999999000)(hb:cy c W)(hd:bN K db D dh)(ab:Option Addr)(cb:Nat)(b:List UInt8)(hbl:eq b<1099511627776)(hin:In K hs hv)(x:aw hv ab (eq b) cb 1 (bv b)):
  aj w0 203 [Nr wb,.slice ab (eq b) cb] K (h::dh::hs)
   (fun v K' hs'=>∃ h' dh',hs'=h'::dh'::hs/\Le K K'/\fV K' wb db (W.append b D).1 h'/\bN K' db (W.append b D).2.1 dh'/\v=.int .i64 (W.append b D).2.2):=by
 obtain ⟨m,rfl,d,hm⟩:=hW;refine Ct.bun2 d (H4 wb db W hm D c oD hc hb hd ab cb b hbl hin x) ?_;rintro v K' hs' ⟨le,m',dh',rfl,hW',hd',rfl⟩;exact ⟨m',_,I,fun d'=>⟨_,dh',I,le,⟨m',I,d',hW'⟩,hd',I⟩⟩
def IA{h dh:PH}(wb db:Nat)(W:Wl)(hW:fV K wb db W h)(D:Dk)(c:Nat)(oD:aP c D)(hc:c<=999999000)(hb:cy c W)(hd:bN K db D dh)(i:Nat)(hi:i<18446744073709551616):
  aj w0 197 [Nr wb,.int .u64 (i:Nat)] K (h::dh::hs)
   (fun v K' hs'=>∃ h' dh',hs'=h'::dh'::hs/\Le K K'/\fV K' wb db (W.truncate i D).1 h'/\bN K' db (W.truncate i D).2.1 dh'/\v=.int .i64 (W.truncate i D).2.2):=by
 obtain ⟨m,rfl,d,hm⟩:=hW;refine Ct.bun2 d (IB wb db W hm D c oD hc hb hd i hi) ?_;rintro v K' hs' ⟨le,m',dh',rfl,hW',hd',rfl⟩;exact ⟨m',_,I,fun d'=>⟨_,dh',I,le,⟨m',I,d',hW'⟩,hd',I⟩⟩
def GN{h dh:PH}(wb db:Nat)(W:Wl)(hW:fV K wb db W h)(D:Dk)(c:Nat)(oD:aP c D)(hc:c<=499999000)(hb:cy c W)(hol:eq W.old<=c)(hd:bN K db D dh)(i:Nat)(hi:i<18446744073709551616):
  aj w0 160 [Nr wb,.int .u64 (i:Nat)] K (h::dh::hs)
   (fun v K' hs'=>∃ h' dh',hs'=h'::dh'::hs/\Le K K'/\fV K' wb db (W.compact i D).1 h'/\bN K' db (W.compact i D).2.1 dh'/\v=.int .i64 (W.compact i D).2.2):=by
 obtain ⟨m,rfl,d,hm⟩:=hW;refine Ct.bun2 d (GO wb db W hm D c oD hc hb hol hd i hi) ?_;rintro v K' hs' ⟨le,m',dh',rfl,hW',hd',rfl⟩;exact ⟨m',_,I,fun d'=>⟨_,dh',I,le,⟨m',I,d',hW'⟩,hd',I⟩⟩
def IL{h dh:PH}(wb db:Nat)(W:Wl)(hW:fV K wb db W h)(D:Dk)(c:Nat)(oD:aP c D)(hc:c<=499999000)(hb:cy c W)(hd:bN K db D dh)(first:Nat)(hfi:first<18446744073709551616):
  aj w0 201 [Nr wb,.int .u64 (first:Nat)] K (h::dh::hs)
   (fun v K' hs'=>∃ h' dh',hs'=h'::dh'::hs/\Le K K'/\fV K' wb db (W.reset first D).1 h'/\bN K' db (W.reset first D).2.1 dh'/\v=.int .i64 (W.reset first D).2.2):=by
 obtain ⟨m,rfl,d,hm⟩:=hW;refine Ct.bun2 d (IM wb db W hm D c oD hc hb hd first hfi) ?_;rintro v K' hs' ⟨le,m',dh',rfl,hW',hd',rfl⟩;exact ⟨m',_,I,fun d'=>⟨_,dh',I,le,⟨m',I,d',hW'⟩,hd',I⟩⟩
def dF(K:PH)(lb db:Nat)(L:Lg)(D:Dk)(m:List PH):Prop:=
 ∃ wb hb eb aV cV aD cD aL cL wh hh eh gl dh,m=[pt lb (df wb db hb eb L (.slice aV (eq L.sn.vot) cV) (.slice aD (eq L.sn.data) cD) (.slice aL (eq L.l) cL)) 119,wh,hh,eh,gl,dh] /\
  fV K wb db L.w wh/\iE K hb db 0 L.hard hh/\iE K eb db 4 L.head eh/\dt 4 51 (dB K) gl aL (eq L.l) cL L.l/\bN K db D dh/\aw K aV (eq L.sn.vot) cV 1 (iv L.sn.vot)/\aw K aD (eq L.sn.data) cD 1 (bv L.sn.data)
theorem dF.le{K K':PH}(l:Le K K'){lb db:Nat}{L:Lg}{D:Dk}{m:List PH}(h:dF K lb db L D m):dF K' lb db L D m:=by
 obtain ⟨wb,hb,eb,aV,cV,aD,cD,aL,cL,wh,hh,eh,gl,dh,h1,h2,h3,h4,h5,h6,h7,h8⟩:=h;exact ⟨wb,hb,eb,aV,cV,aD,cD,aL,cL,wh,hh,eh,gl,dh,h1,h2.le l,h3.le l,h4.le l,h5.imp fun _ _ h=>h.le l,h6.le l,h7.le l,h8.le l⟩
def B9{hv:PH}(ao:Option Addr)(cap:Nat)(l:List Int)(hm:In K hs hv)(x:aw hv ao (eq l) cap 1 (iv l))(hl:eq l<1099511627776):
  aj w0 52 [.agg #[.slice ao (eq l) cap]] K hs (fun v K' hs'=>K'=K/\hs'=hs/\v=.bool (bU l).isSome):=by
 refine ent Tryz.func52 ?_;refine acI (bx 0 I fun b1=>fin 1 I (acF (WL.hs (pt b1 #[.slice ao (eq l) cap] 46::hs) I (fh 0 0 I I qk (cl 0 I (qX ao cap l (In.cons hm) x hl) ?_)))));rintro v7 K7 hs7 ⟨rfl,h7,ao7,c7,rfl,rfl,o7⟩;refine au ?_;refine ai 1 I fun b11 h11=>fin 1 I (acK (WQ.drop (WQ.drop ?_)))
 have e:b11=(bU l).isSome:=by
  rw[aaS,h11,lC]
 exact ah I I ⟨I,I,by rw[e]⟩
def pV(n:Nat)(hn:n<=2305843009213693952):aj w0 56 [.int .u64 (n:Nat)] K hs (fun v K' hs'=>K'=K/\hs'=hs/\v=.int .u64 (bu n:Nat)):=by
 refine cB Tryz.func56 ?_;refine ar 1 I (bL (x:=((4*n:Nat):Int)) qo) (ar 0 I (bL (x:=((4*n+2:Nat):Int)) qo) (au ?_));exact ah I I ⟨I,I,I⟩
def j9(lb wb db hb eb:Nat)(L:Lg)(vS dS lS:Value)(e:Int):
  aj w0 57 [Nr lb,.int .i64 e] K (pt lb (df wb db hb eb L vS dS lS) 119::hs)
   (fun v K' hs'=>∃ h',hs'=h'::hs/\K'=K/\h'=pt lb (df wb db hb eb { L with code:=eT L.code e } vS dS lS) 119/\v=.int .i64 (eT L.code e)):=by
 unfold eT;refine cB Tryz.func57 ?_;refine bh 0 I (fun e2=>?_) (fun e2=>?_)
 ·refine au ?_;rw[aab e2];refine au ?_;exact ah I I ⟨_,I,I,I,I⟩
 refine au ?_;rw[aaa e2];refine au ?_;exact ah I I ⟨_,I,I,I,I⟩
def KV{m:List PH}(lb db:Nat)(L:Lg)(D:Dk)(hm:dF K lb db L D m):
  aj w0 42 [Nr lb] K (m++hs) (fun v K' hs'=>K'=K/\hs'=m++hs/\v=.agg #[.int .u64 L.kt,.int .i64 L.kv]):=by
 obtain ⟨wb,hb,eb,aV,cV,aD,cD,aL,cL,wh,hh,eh,gl,dh,rfl,hW,hH,hE,hG,hD,xV,xD⟩:=hm;refine enter Tryz.func42 qk I I I (acI (al 0 (.agg #[.int .u64 0,.int .i64 0]) I qk fun b2=>fin 0 I (acF (fW 3 [.int .u64 L.kt,.int .i64 L.kv] I qk (.inr ⟨1,I⟩) (fun j v hv=>?_) ?_))))
 ·exact np _ I j v hv
 refine bJ 0 0 I I qk I I ?_;exact fin 0 I (acK (jJ 0 1 I I I qk ⟨I,I,I⟩))
end
section
def Dc{a b:Nat}(h:b<=a)(ha:a<18446744073709551616):Value.int .u64 (IntKind.u64.wrap (((a:Nat):Int)-((b:Nat):Int)))=.int .u64 (a-b:Nat):=by
 rw[show ((a:Nat):Int)-((b:Nat):Int)=((a-b:Nat):Int) from qo];exact bL qo
def CJ{a:Nat}(h:1<=a)(ha:a<18446744073709551616):Value.int .u64 (IntKind.u64.wrap (((a:Nat):Int)-1))=.int .u64 (a-1:Nat):=by
 rw[show ((a:Nat):Int)-1=((a-1:Nat):Int) from qo];exact bL qo
def MM(o:Option Nat):Value:=.tuple #[.int .i64 (((o.getD 0:Nat)):Int),.bool o.isSome]
def BZ(s:aX)(l:List af)(i:Nat):trm s l i=if i=s.idx then (s.term,true) else match ei s l i with
  | none=>(0,false)
  | some k=>(((l[k]?).getD af.zero).term,true):=by
 unfold trm ei
 by_cases h:i=s.idx
 ·rw[aab h,aab h]
 rw[aaa h,aaa h]
 by_cases h2:i<s.idx\/s.idx+eq l<i
 ·rw[aab h2,aab qo]
 rw[aaa h2,aaa qo]
def pE{s:aX}{l:List af}{i k:Nat}(h:ei s l i=some k):s.idx<i/\i<=s.idx+eq l/\k=i-s.idx-1/\k<eq l:=by
 unfold ei at h
 split at h
 ·cases h
 cases h;omega
def u5{hv:PH}(ao:Option Addr)(cap:Nat)(b:List Int)(hm:In K hs hv)(x:aw hv ao (eq b) cap 1 (iv b))(hl:eq b<1099511627776):
  aj w0 45 [.slice ao (eq b) cap] K hs
   (fun v K' hs'=>Le K K'/\hs'=hs/\∃ ao' c',v=.slice ao' (eq b) c'/\aw K' ao' (eq b) c' 1 (iv b)):=by
 refine cB Tryz.func45 ?_;refine cb 1 I (fun h1=>?_) (fun h1=>?_)
 ·have hao:ao=none:=by simpa using h1
  subst hao
  have hb0:b=[]:=by
   cases b with
   | nil=>rfl
   | cons c r=>obtain ⟨a,ha,_⟩:=x.2.2 0 _ (by simp[iv];rfl);cases ha
  subst hb0;refine au ?_;exact ah I I ⟨Le.refl _,I,none,0,I,aw.nil _ _ _ _⟩
 refine au ?_;refine lit 0 #[] I Nn qk fun b5=>app 1 0 I I (aZ.ofPt (c:=#[]) (n:=0) Nm (by simp[maxLen])) (In.cons hm) x I Nn (vA _) (by show (0+eq b)*8<=_;omega) (by simp[maxLen];omega) fun ao7 c7 g7 o7=>fin 1 rfl (acK (WQ.frz fun K2 l1 l2=>?_));have e:0+eq b=eq b:=aaI _;rw[e] at o7;exact ah I (by rw[e];rfl) ⟨l1,rfl,ao7,c7,rfl,o7.isS.le l2⟩
def u0{hb:PH}(e:af)(ao:Option Addr)(cap:Nat)(hm:In K hs hb)(x:aw hb ao (eq e.data) cap 1 (bv e.data))(hl:eq e.data<1099511627776):
  aj w0 44 [.agg (e.v ao cap)] K hs (fun v K' hs'=>Le K K'/\hs'=hs/\∃ ao' c',v=.agg (e.v ao' c')/\aw K' ao' (eq e.data) c' 1 (bv e.data)):=by
 refine ent Tryz.func44 ?_;refine acI (bx 0 I fun b1=>al 0 (.agg #[.int .u64 0,.int .u64 0,.int .i64 0,.slice none 0 0]) I qk fun b2=>fin 0 I (acF (WL.hs (pt b2 #[.int .u64 0,.int .u64 0,.int .i64 0,.slice none 0 0] 51::pt b1 (e.v ao cap) 51::hs) I (au ?_))));refine cl 0 I (j4 ao cap e.data (In.cons (In.cons hm)) x hl) ?_;rintro v5 K5 hs5 ⟨rfl,h5,ao5,c5,rfl,rfl,o5⟩;refine stp 1 2 I I I I (WL.hs (h5::pt b2 #[.int .u64 0,.int .u64 0,.int .i64 0,.slice none 0 0] 51::pt b1 (e.v ao5 c5) 51::hs) I (fin 0 I (acF (fh 0 2 I I qk ?_))));refine bJ 0 1 I I qk I I ?_;exact fin 0 I (acK (WQ.frz fun K2 l1 l2=>jJ 0 2 I I I qk ⟨l1,I,ao5,c5,I,o5.isS.le l2⟩))
def cP(s:aX)(aV:Option Addr)(cV:Nat)(aD:Option Addr)(cD:Nat):Array Value:=#[.int .u64 s.idx,.int .u64 s.term,.slice aV (eq s.vot) cV,.slice aD (eq s.data) cD]
def DP(K:PH)(s:aX)(v:Value):Prop:=∃ aV cV aD cD,v=.agg (cP s aV cV aD cD)/\aw K aV (eq s.vot) cV 1 (iv s.vot)/\aw K aD (eq s.data) cD 1 (bv s.data)
def B5{m:List PH}(lb db:Nat)(L:Lg)(D:Dk)(c:Nat)(hb:bp c L)(hm:dF K lb db L D m):
  aj w0 17 [Nr lb] K (m++hs) (fun v K' hs'=>Le K K'/\hs'=m++hs/\DP K' L.sn v):=by
 obtain ⟨wb,hb',eb,aV,cV,aD,cD,aL,cL,wh,hh,eh,gl,dh,rfl,hW,hH,hE,hG,hD,xV,xD⟩:=hm;have hv7:=hb.vot;have kZ:=hb.data;refine ent Tryz.func17 ?_;refine acI (al 0 (.agg #[.int .u64 0,.int .u64 0,.slice none 0 0,.slice none 0 0]) I qk fun b2=>fin 0 I (acF (fW 3 (cP L.sn aV cV aD cD).toList I qk (.inr ⟨1,I⟩) (np _ I) (al 0 (.agg #[.int .u64 0,.int .u64 0,.slice none 0 0,.slice none 0 0]) I qk fun b3=>?_))));refine bJ 0 0 I I qk I I ?_;refine fin 0 I (acF (a9 2 0 I I I (cl 0 I (u5 aV cV L.sn.vot (.inl I) xV qo) ?_)));rintro v11 K11 hs11 ⟨le1,rfl,aV2,cV2,rfl,xV2⟩;refine au ?_;refine cl 0 I (j4 aD cD L.sn.data (.inl I) (xD.le le1) qo) ?_;rintro v16 K16 hs16 ⟨rfl,h16,aD2,cD2,rfl,rfl,oD2⟩;refine stp 1 1 I I I I (WL.hs (h16::pt b3 (cP L.sn aV2 cV2 aD2 cD2) 48::pt b2 #[.int .u64 0,.int .u64 0,.slice none 0 0,.slice none 0 0] 48::_) I (fin 0 I (acF (fh 0 1 I I qk ?_))))
 refine bJ 0 2 I I qk I I ?_;exact fin 0 I (acK (WQ.frz fun K2 l1 l2=>jJ 1 2 I I I qk ⟨le1.trans l1,I,aV2,cV2,aD2,cD2,I,xV2.le l1,oD2.isS.le l2⟩))
def nQ{m:List PH}(lb db:Nat)(L:Lg)(D:Dk)(c:Nat)(hb:bp c L)(hc:c<=1000000000)(hm:dF K lb db L D m):
  aj w0 18 [Nr lb] K (m++hs) (fun v K' hs'=>K'=K/\hs'=m++hs/\v=.int .u64 (L.sn.idx+eq L.l:Nat)):=by
 obtain ⟨wb,hb',eb,aV,cV,aD,cD,aL,cL,wh,hh,eh,gl,dh,rfl,hW,hH,hE,hG,hD,xV,xD⟩:=hm;have h1:=hb.idx;have h2:=hb.len;unfold bH at h1;refine cB Tryz.func18 ?_;refine bG [pt lb (df wb db hb' eb L (.slice aV (eq L.sn.vot) cV) (.slice aD (eq L.sn.data) cD) (.slice aL (eq L.l) cL)) 119] 13 [0,2,4,6,8,10,12,14,16,18,20,22,24] Nm qk qk (au ?_);refine bA qk 1 I (bL (x:=((eq L.l:Nat):Int)) qo) (bA qk 0 I (bL (x:=((L.sn.idx+eq L.l:Nat):Int)) qo) (au ?_));exact ah I I ⟨I,I,I⟩
def qg{w0:World}{K:PH}{m hs:List PH}(lb db:Nat)(L:Lg)(D:Dk)(c:Nat)(hb:bp c L)(hc:c<=1000000000)(hm:dF K lb db L D m)(i:Nat)(hi:i<18446744073709551616):
  aj w0 43 [Nr lb,.int .u64 (i:Nat)] K (m++hs) (fun v K' hs'=>K'=K/\hs'=m++hs/\v=MM (ei L.sn L.l i)):=by
 have hm0:=hm;obtain ⟨wb,hb',eb,aV,cV,aD,cD,aL,cL,wh,hh,eh,gl,dh,rfl,hW,hH,hE,hG,hD,xV,xD⟩:=hm;have h2:=hb.len;refine cB Tryz.func43 ?_;refine ai 0 I fun b12 h12=>?_
 refine' dx (q:=L.sn.idx+eq L.l<i) 1 5 18 [12,13] h12 I I I I I I I (fun _=>?x2) (fun b18 h18=>?_)
 case x2=>
  refine cl 2 I (nQ lb db L D c hb hc hm0) ?_;rintro v16 K16 hs16 ⟨rfl,rfl,rfl⟩;exact ai 0 I fun b17 h17=>fin 1 I (bK (h17.trans qo) I I I)
 refine fin 0 I<|th (ax h18 I (fun e4=>?_) (fun e4=>?_))
 ·refine au ?_;refine bM I I I ⟨I,I,?_⟩;unfold ei;rw[aab qo]
  rfl
 refine au ?_;refine ar 0 I (Dc qo hi) (ar 0 I (CJ qo qo) (ar 0 I (aC qo) (au ?_)));refine bM I I I ⟨I,I,?_⟩;unfold ei;rw[aaa qo]
 rfl
end
section
def DU(o:Nat×Bool):Value:=.tuple #[.int .u64 o.1,.bool o.2]
def uh{gl:PH}{aL:Option Addr}{cL:Nat}{l:List af}(hG:dt 4 51 (dB K) gl aL (eq l) cL l){k:Nat}{e:af}(hk:l[k]?=some e):
  ∃ a ao cap,aL=some a/\aw K ao (eq e.data) cap 1 (bv e.data)/\∀ (j:Nat) v,(e.v ao cap).toList[j]?=some v->cC gl ((a.add (k*4)).add j) v:=by
 have hkl:k<eq l:=(aax.1 hk).1;obtain ⟨a,rfl⟩:=hG.slS.addr qo Nn;obtain ⟨c,⟨ao,cap,rfl,x⟩,_,hc⟩:=hG.slS.cells hk;exact ⟨a,ao,cap,I,x,hc⟩
def mp{m:List PH}(lb db:Nat)(L:Lg)(D:Dk)(c:Nat)(hb:bp c L)(hc:c<=1000000000)(hm:dF K lb db L D m)(i:Nat)(hi:i<18446744073709551616):
  aj w0 89 [Nr lb,.int .u64 (i:Nat)] K (m++hs) (fun v K' hs'=>K'=K/\hs'=m++hs/\v=DU (trm L.sn L.l i)):=by
 have hm0:=hm;obtain ⟨wb,hb',eb,aV,cV,aD,cD,aL,cL,wh,hh,eh,gl,dh,rfl,hW,hH,hE,hG,hD,xV,xD⟩:=hm;have h2:=hb.len;rw[BZ];refine cB Tryz.func89 ?_;refine cl 2 I (qg lb db L D c hb hc hm0 i hi) ?_;rintro v11 K11 hs11 ⟨rfl,rfl,rfl⟩;refine au ?_;refine bh 0 I (fun e2=>?_) (fun e2=>?_)
 ·refine au ?_;rw[aab qo];refine au ?_;exact bM I I I ⟨I,I,I⟩
 refine au ?_;rw[aaa qo];cases hk:ei L.sn L.l i with
 | none=>
  refine au ?_;exact bM I I I ⟨I,I,I⟩
 | some k=>
  obtain ⟨g1,g2,g3,g4⟩:=pE hk;obtain ⟨e,he⟩:∃ e,L.l[k]?=some e:=⟨L.l[k],aai g4⟩;obtain ⟨a,ao,cap,rfl,x,hcell⟩:=uh hG he;refine au ?_;obtain ⟨xs,hxs⟩:=hG.slS.isS;refine fj 1 k I I hxs g4 Nn fun a35 h35=>?_;cases h35;refine ld 1 I (.inr ⟨4,I⟩) (hcell 1 _ I) (au ?_);refine bM I I I ⟨I,I,?_⟩;dsimp only;rw[he]
  rfl
def JH{m:List PH}(lb db:Nat)(L:Lg)(D:Dk)(c:Nat)(hb:bp c L)(hc:c<=1000000000)(hm:dF K lb db L D m)(i:Nat)(hi:i<18446744073709551616):
  aj w0 19 [Nr lb,.int .u64 (i:Nat)] K (m++hs) (fun v K' hs'=>Le K K'/\hs'=m++hs/\∃ e ao cap t,v=.tuple #[.agg (af.v e ao cap),.bool t]/\aw K' ao (eq e.data) cap 1 (bv e.data) /\
   match ei L.sn L.l i with
   | none=>t=false/\e=af.zero
   | some k=>t=true/\L.l[k]?=some e):=by
 have hm0:=hm;obtain ⟨wb,hb',eb,aV,cV,aD,cD,aL,cL,wh,hh,eh,gl,dh,rfl,hW,hH,hE,hG,hD,xV,xD⟩:=hm;have h2:=hb.len;refine enter Tryz.func19 qk I I I (acI (al 0 (.agg #[.int .u64 0,.int .u64 0,.int .i64 0,.slice none 0 0]) I qk fun b4=>?_));refine fin 1 I (acF (WL.perm (aaN (l₁:=[_,_,_,_,_,_])).symm (cl 2 I (qg lb db L D c hb hc hm0 i hi) ?_)));rintro v11 K11 hs11 ⟨rfl,rfl,rfl⟩;cases hk:ei L.sn L.l i with
 | none=>
  refine fin 5 I (acE (fin 2 I (th (cU I ?_))));refine acI (WL.perm (aaN (l₁:=[_,_,_,_,_,_])) (bd 0 (.agg #[.int .u64 0,.int .u64 0,.int .i64 0,.slice none 0 0]) I (fun w=>by kernel_rfl) ?_));refine bJ 0 0 I I qk I I ?_;exact fin 1 I (acK (rT (fU 0 1 I I I I qk ⟨Le.refl _,I,af.zero,none,0,false,I,aw.nil _ _ _ _,I,I⟩)))
 | some k=>
  obtain ⟨g1,g2,g3,g4⟩:=pE hk;obtain ⟨e,he⟩:∃ e,L.l[k]?=some e:=⟨L.l[k],aai g4⟩;obtain ⟨a,ao,cap,rfl,x,hcell⟩:=uh hG he;have hel:=lu (hb.ents e (aao he)).1.2.2;refine fin 5 I (acE (fin 2 I (th (bY I ?_))));refine sk (acF (WL.perm (aaN (l₁:=[_,_,_,_,_,_])) (a9 3 1 I I I ?_)));obtain ⟨xs,hxs⟩:=hG.slS.isS;refine fj 1 k I I hxs g4 Nn fun a35 h35=>?_;cases h35;refine fW 0 (e.v ao cap).toList I qk (.inr ⟨5,I⟩) hcell (cl 0 I (u0 e ao cap (.inl I) x qo) ?_);rintro v24 K24 hs24 ⟨le,rfl,ao2,c2,rfl,x2⟩;refine bJ 0 0 I I qk I I ?_;exact fin 1 I (acK (fU 0 1 I I I I qk ⟨le,I,e,ao2,c2,true,I,x2,I,he⟩))
def vT{hv:PH}{m:List PH}(lb db:Nat)(L:Lg)(D:Dk)(c:Nat)(hb:bp c L)(hc:c<=1000000000)(hm:dF K lb db L D m)(s:aX)(hi:s.idx<18446744073709551616)(aV:Option Addr)(cV:Nat)(aD:Option Addr)(cD:Nat):
  aj w0 158 [Nr lb,.agg (cP s aV cV aD cD)] K (m++hs) (fun v K' hs'=>K'=K/\hs'=m++hs/\v=.bool (dL L.sn L.l s)):=by
 have hm0:=hm;obtain ⟨wb,hb',eb,aV',cV',aD',cD',aL,cL,wh,hh,eh,gl,dh,rfl,hW,hH,hE,hG,hD,xV,xD⟩:=hm;refine ent Tryz.func158 ?_;refine acI (bx 0 I fun b3=>?_);refine WL.hs (pt b3 (cP s aV cV aD cD) 48::([_,_,_,_,_,_]++hs)) I (fin 1 I (acF (a9 2 0 I I I ?_)));refine WL.perm (aaN (l₁:=[_,_,_,_,_,_])).symm (cl 0 I (mp lb db L D c hb hc hm0 s.idx hi) ?_);rintro v11 K11 hs11 ⟨rfl,rfl,rfl⟩;refine WL.perm (aaN (l₁:=[_,_,_,_,_,_])) ?_;unfold dL;obtain ⟨T,hT'⟩:=be (trm L.sn L.l s.idx);rw[<-hT'];obtain ⟨t,b⟩:=T;refine au ?_;cases b with
 | false=>
  exact fin 8 I<|acK<|WQ.drop (ah I I ⟨I,I,I⟩)
 | true=>
  refine au ?_;refine ai 0 I fun b19 h19=>fin 2 I (acK (WQ.drop (ah I I ⟨I,I,?_⟩)));have:b19=decide (t=s.term):=by rw[aaS,h19];simp;omega
  rw[this]
  rfl
def Lm{m:List PH}(lb db:Nat)(L:Lg)(D:Dk)(c:Nat)(hb:bp c L)(hc:c<=1000000000)(hm:dF K lb db L D m)(i:Nat)(hi:i<18446744073709551616):
  aj w0 196 [Nr lb,.int .u64 (i:Nat)] K (m++hs) (fun v K' hs'=>K'=K/\hs'=m++hs/\v=.int .u64 (o6 L.sn L.l i:Nat)):=by
 have hm0:=hm;obtain ⟨wb,hb',eb,aV,cV,aD,cD,aL,cL,wh,hh,eh,gl,dh,rfl,hW,hH,hE,hG,hD,xV,xD⟩:=hm;have h2:=hb.len;unfold o6;refine enter Tryz.func196 qk I I I (acI (fin 1 I (acE (cl 2 I (nQ lb db L D c hb hc hm0) ?_))));rintro v11 K11 hs11 ⟨rfl,rfl,rfl⟩;refine ai 0 I fun b12 h12=>fin 0 I (th (ax h12 I (fun e2=>?_) (fun e2=>?_)))
 ·rw[aab qo];refine acI (cl 1 I (nQ lb db L D c hb hc hm0) ?_);rintro v14 K14 hs14 ⟨rfl,rfl,rfl⟩;exact fin 1 I (acK (rT (ah I I ⟨I,I,I⟩)))
 rw[aaa qo];refine sk (acF (cl 2 I (mp lb db L D c hb hc hm0 i hi) ?_));rintro v18 K18 hs18 ⟨rfl,rfl,rfl⟩;obtain ⟨T,hT'⟩:=be (trm L.sn L.l i);rw[<-hT'];obtain ⟨t,b⟩:=T;obtain ⟨R,hR⟩:=be (jM L.sn L.l t i);dsimp only;rw[<-hR];refine fin 5 I (th (sq (bk ?_)))
 refine loop (σ:=Nat) (fun j=>[(0,Nr lb),(1,.int .u64 (j:Nat)),(5,.int .u64 (t:Nat))]) (fun _=>K18)
  (fun _=>[pt lb (df wb db hb' eb L (.slice aV (eq L.sn.vot) cV) (.slice aD (eq L.sn.data) cD) (.slice aL (eq L.l) cL)) 119,wh,hh,eh,gl,dh]++hs) (fun j=>j<=i/\jM L.sn L.l t j=R) (fun j=>j) i ⟨aac _,hR.symm⟩ ⟨rfl,rfl,rfl,trivial⟩ rfl rfl ?_
 rintro j ⟨hj,hw⟩;refine sq (acI (a9 5 0 I I I (ai 0 I fun b27 h27=>fin 0 I (th (ax h27 I (fun e4=>?_) (fun e4=>?_))))))
 ·obtain ⟨j,rfl⟩:∃ k,j=k+1:=⟨j-1,qo⟩;have hw0:jM L.sn L.l t (j+1)=if (trm L.sn L.l j).1≠t then j else jM L.sn L.l t j:=by rw[jM,aab qo]
  rw[hw0] at hw;refine sk (th (bk (acI (ar 1 I (CJ (a:=j+1) qo qo) ?_))));rw[show j+1-1=j from rfl];refine fin 1 I (acF (cl 2 I (mp lb db L D c hb hc hm0 j qo) ?_));rintro v33 K33 hs33 ⟨rfl,rfl,rfl⟩;obtain ⟨U,hU⟩:=be (trm L.sn L.l j);rw[<-hU] at hw ⊢;obtain ⟨u,b'⟩:=U;dsimp only at hw;refine fin 5 I (acF (ai 2 I fun b38 h38=>fin 0 I (th (ax h38 I (fun e6=>?_) (fun e6=>?_)))))
  ·rw[aab qo] at hw;subst hw;exact ex (xn I (xt (xb (acF (fin 2 I (acK (ah I I ⟨I,I,I⟩)))))))
  rw[aaa qo] at hw;exact sk (bl (bw (x:=j+1) j sb I I ⟨qo,hw⟩ qo))
 have hw0:jM L.sn L.l t j=j:=by
  cases j with
  | zero=>rfl
  | succ j=>rw[jM,aaa qo]
 rw[hw0] at hw;subst hw;exact ex (xt (xt (xb (acF (fin 2 I (acK (ah I I ⟨I,I,I⟩)))))))
end
section
def ke(e:af):Prop:=e.idx<=ac/\e.term<=ac/\eq e.data<1099511627776
def l6{e:af}:(gH e).isSome=true↔e.ok:=by unfold gH;split <;> simp_all
theorem bp.setHard{c:Nat}{L:Lg}(o:bp c L)(D:Dk)(t:Nat)(v:Int)(ht:t<=ac):bp c (L.setHard D t v).1:=by
 unfold Lg.setHard
 split
 ·exact o
 split
 ·exact o
 split
 ·exact o
 have hs:=bZ.save_bd o.hard 0 D (aI t++aI (v+1).toNat)
 split
 ·exact ⟨o.w,hs,o.head,ht,aH,o.idx,o.st,o.vot,o.data,o.place,o.fr,o.len,o.ents⟩
 exact ⟨o.w,hs,o.head,o.kt,o.kv,o.idx,o.st,o.vot,o.data,o.place,o.fr,o.len,o.ents⟩
theorem bp.sync{c:Nat}{L:Lg}(o:bp c L)(D:Dk):bp c (L.sync D).1:=by
 unfold Lg.sync
 split
 ·exact o
 exact ⟨o.w.sync D,o.hard,o.head,o.kt,o.kv,o.idx,o.st,o.vot,o.data,o.place,o.fr,o.len,o.ents⟩
def GH{m:List PH}(lb db:Nat)(L:Lg)(D:Dk)(c:Nat)(hb:bp c L)(hc:c<=1000000000)(hm:dF K lb db L D m)(i:Nat)(hi:i<18446744073709551616)(most:Int)(hmo : -9223372036854775808<=most/\most<=9223372036854775807):
  aj w0 16 [Nr lb,.int .u64 (i:Nat),.int .i64 most] K (m++hs)
   (fun v K' hs'=>Le K K'/\hs'=m++hs/\∃ ao cap,v=.slice ao (eq (gW L.sn L.l i most)) cap/\dn 4 (dB K') K' ao (eq (gW L.sn L.l i most)) cap (gW L.sn L.l i most)):=by
 have hm0:=hm;obtain ⟨wb,hb',eb,aV,cV,aD,cD,aL,cL,wh,hh,eh,gl,dh,rfl,hW,hH,hE,hG,hD,xV,xD⟩:=hm;have h2:=hb.len;refine cB Tryz.func16 ?_;refine cl 2 I (qg lb db L D c hb hc hm0 i hi) ?_;rintro v13 K13 hs13 ⟨rfl,rfl,rfl⟩;unfold gW;cases hk:ei L.sn L.l i with
 | none=>
  refine au ?_
  refine loop (σ:=Unit) (fun _=>[(0,Nr lb),(2,.int .i64 most),(7,.slice none 0 0),(8,.int .i64 0),(9,.bool false)]) (fun _=>K13)
   (fun _=>[pt lb (df wb db hb' eb L (.slice aV (eq L.sn.vot) cV) (.slice aD (eq L.sn.data) cD) (.slice aL (eq L.l) cL)) 119,wh,hh,eh,gl,dh]++hs) (fun _=>True) (fun _=>0) () trivial sb rfl rfl ?_
  rintro ⟨⟩ _;refine au ?_;exact ah I I ⟨Le.refl _,I,none,0,I,dn.nil _ _ _ _⟩
 | some k=>
  obtain ⟨g1,g2,g3,g4⟩:=pE hk;dsimp only;obtain ⟨X,hX⟩:=be ((L.l.drop k).take most.toNat);have hXl:eq X=min most.toNat (eq L.l-k):=by rw[hX,aam,aak]
  rw[<-hX];refine fin 5 I (th (sq (bk (WC.em ?_))))
  refine loop (σ:=Nat×(Option Addr×Nat×PH)×PH) (fun s=>[(0,Nr lb),(2,.int .i64 most),(7,.slice s.2.1.1 s.1 s.2.1.2.1),(8,.int .i64 (k+s.1:Nat)),(9,.bool true)]) (fun s=>s.2.2)
   (fun s=>s.2.1.2.2::([pt lb (df wb db hb' eb L (.slice aV (eq L.sn.vot) cV) (.slice aD (eq L.sn.data) cD) (.slice aL (eq L.l) cL)) 119,wh,hh,eh,gl,dh]++hs)) (fun s=>s.1<=eq X/\Le K13 s.2.2/\dt 4 51 (dB s.2.2) s.2.1.2.2 s.2.1.1 s.1 s.2.1.2.1 (X.take s.1)) (fun s=>eq X-s.1)
   (0,(none,0,em),K13) ⟨aad _,Le.refl _,dt.nil _ _⟩ ⟨rfl,rfl,rfl,rfl,rfl,trivial⟩ rfl rfl ?_
  rintro ⟨j,⟨ao,cap,g⟩,K1⟩ ⟨hj,le1,oG⟩;dsimp only at *;refine au ?_;refine bh 1 I (fun e2=>?_) (fun e2=>?_)
  ·refine ai 5 I fun b30 h30=>fin 1 I<|th (ax h30 I (fun e3=>?_) (fun e3=>?_))
   ·have hjX:j<eq X:=qo
    obtain ⟨e,he⟩:∃ e,X[j]?=some e:=⟨X[j],aai hjX⟩
    have hel:L.l[k+j]?=some e:=by
     rw[hX,aba qo,abb] at he;exact he
    have hed:=lu (hb.ents e (aao hel)).1.2.2;obtain ⟨a,ae,ce,rfl,x,hcell⟩:=uh hG hel;refine au ?_;obtain ⟨xs,hxs⟩:=hG.slS.isS;refine fj 1 (k+j) I I hxs qo Nn fun a38 h38=>?_;cases h38;refine fW 0 (e.v ae ce).toList I qk (.inr ⟨5,I⟩) hcell (cl 0 I (u0 e ae ce (.inl I) (x.le le1) qo) ?_);rintro v40 K40 hs40 ⟨le2,rfl,ao2,c2,rfl,x2⟩;exact lit 0 (e.v ao2 c2) I Nn qk fun b41=>mF 0 1 (e.v ao2 c2).toList e I I I (oG.imp fun _ _ h=>h.le le2) ⟨ao2,c2,I,x2⟩ I (by simp[af.v,Value.oneCell']) I Nn (by show (j+1)*48<=_;omega) (by simp only[maxLen];omega) fun ao42 c42 g42 o42=>fin 1 rfl (acH (WL.drop (ar 1 rfl (aC (x:=((k+(j+1):Nat):Int)) qo) (fin 1 rfl (bl (bw (x:=(j,(ao,cap,g),K1)) (j+1,(ao42,c42,g42),K40) sb rfl rfl ⟨aH,le1.trans le2,by dsimp only;rw[aaK,he];exact o42⟩ aH))))))
   obtain rfl:j=eq X:=qo
   rw[aaE] at oG;exact ex (xt (xt (xb (acF (fin 2 I (acK (WQ.frz fun K2 l1 l2=>ah I I ⟨le1.trans l1,I,ao,cap,I,oG.slS.le l2 fun _ _ h=>h.le l1⟩)))))))
  refine fin 7 I (th (bY I ?_));obtain rfl:j=eq X:=qo
  rw[aaE] at oG;exact ex (xt (xt (xb (acF (fin 2 I (acK (WQ.frz fun K2 l1 l2=>ah I I ⟨le1.trans l1,I,ao,cap,I,oG.slS.le l2 fun _ _ h=>h.le l1⟩)))))))
def z7{w0:World}{K:PH}{hs:List PH}(i t:Nat)(hi:i<=ac)(ht:t<=ac)(ao:Option Addr)(cap:Nat)(x:List af)(xs:dn 4 (dB K) K ao (eq x) cap x)(hx:∀ e∈x,ke e)(hxl:eq x<=1099511627776):
  aj w0 195 [.int .u64 (i:Nat),.int .u64 (t:Nat),.slice ao (eq x) cap] K hs (fun v K' hs'=>K'=K/\hs'=hs/\v=.int .i64 (eA i t x)):=by
 obtain ⟨ys,hys⟩:=xs.isS;refine cB Tryz.func195 ?_;refine loop (σ:=Nat) (fun j=>[(0,.int .u64 (i:Nat)),(1,.int .u64 (t:Nat)),(2,.slice ao (eq x) cap),(13,.slice ao (eq x) cap),(14,.int .i64 (eq x)),(15,.int .i64 (j:Nat))]) (fun _=>K) (fun _=>hs) (fun j=>j<=eq x/\∀ e∈x.take j,e.ok) (fun j=>eq x-j) 0 ⟨aad _,Nm⟩ ⟨I,I,I,I,I,I,trivial⟩ I I ?_;rintro j ⟨hj,hok⟩;refine acI (bh 0 I (fun e2=>?_) (fun e2=>?_))
 ·refine au ?_;have hjx:j<eq x:=qo
  obtain ⟨e,he⟩:∃ e,x[j]?=some e:=⟨x[j],aai hjx⟩;have hem:=aao he;obtain ⟨q1,q2,q3⟩:=hx e hem;obtain ⟨a,rfl⟩:=xs.addr qo Nn;obtain ⟨c,⟨ae,ce,rfl,xe⟩,_,hcell⟩:=xs.cells he;refine au ?_;refine fj 0 j I I hys hjx Nn fun a17 h17=>?_;cases h17;refine fW 0 (e.v ae ce).toList I qk (.inl I) hcell (al 0 (.agg #[.int .u64 0,.int .u64 0,.int .i64 0,.slice none 0 0]) I qk fun b8=>?_);refine bJ 0 0 I I qk I I ?_;refine fin 0 I (acF (fh 0 0 I I qk (cl 0 I (uL e ae ce q1 q2 (.inl I) xe q3) ?_)));rintro v21 K21 hs21 ⟨rfl,h21,ao21,c21,rfl,rfl,o21⟩;refine fin 5 I (acF (WL.drop (WL.drop (ai 1 I fun b25 h25=>fin 0 I (th (ax h25 I (fun e4=>?_) (fun e4=>?_)))))))
  ·have hno:¬e.ok:=fun h=>e4 (lC.2 (l6.2 h));refine au ?_;refine ah I I ⟨I,I,?_⟩;unfold eA;rw[aaa];simp only[aaV,l6];exact fun h=>hno (h e hem)
  have hyes:e.ok:=l6.1 (lC.1 (Decidable.not_not.1 e4));refine sk (acG (ar 0 I (aC (x:=((j+1:Nat):Int)) qo) (fin 1 I (bw (x:=j) (j+1) sb I I ⟨qo,?_⟩ qo))));rw[aaK,he];intro y hy;rcases aaj.1 hy with hy|hy
  ·exact hok y hy
  simp at hy;rw[hy];exact hyes
 refine au ?_;obtain rfl:j=eq x:=qo
 rw[aaE] at hok;have e0:eA i t x=cH i t x:=by unfold eA;rw[aab (by simp only[aaV,l6];exact hok)]
 rw[e0];refine au ?_;obtain ⟨R,hR⟩:=be (cH i t x);rw[<-hR];refine loop (σ:=Nat×Nat×Nat) (fun s=>[(0,.int .u64 s.2.1),(1,.int .u64 s.2.2),(2,.slice ao (eq x) cap),(27,.slice ao (eq x) cap),(28,.int .i64 (eq x)),(29,.int .i64 s.1)]) (fun _=>K) (fun _=>hs) (fun s=>s.1<=eq x/\s.2.1<=ac/\s.2.2<=ac/\cH s.2.1 s.2.2 (x.drop s.1)=R) (fun s=>eq x-s.1) (0,i,t) ⟨aad _,hi,ht,hR.symm⟩ ⟨I,I,I,I,I,I,trivial⟩ I I ?_;clear hi ht e0 hR;clear i t;rintro ⟨j,i,t⟩ ⟨hj,hi,ht,hw⟩;dsimp only at *;refine acI (bh 0 I (fun e6=>?_) (fun e6=>?_))
 ·refine au ?_;have hjx:j<eq x:=qo
  obtain ⟨e,he⟩:∃ e,x[j]?=some e:=⟨x[j],aai hjx⟩;have hem:=aao he;obtain ⟨q1,q2,q3⟩:=hx e hem;have hne:=(hok e hem).1;obtain ⟨a,rfl⟩:=xs.addr qo Nn;obtain ⟨c,⟨ae,ce,rfl,xe⟩,_,hcell⟩:=xs.cells he;rw[aaF hjx,show x[j]=e from by rw[aai hjx] at he;exact aaU he,cH] at hw;refine au ?_;refine fj 0 j I I hys hjx Nn fun a31 h31=>?_;cases h31;refine fW 0 (e.v ae ce).toList I qk (.inl I) hcell (al 0 (.agg #[.int .u64 0,.int .u64 0,.int .i64 0,.slice none 0 0]) I qk fun b12=>?_);refine bJ 0 0 I I qk I I ?_;refine WL.hs (pt b12 (e.v ae ce) 51::hs) I (au ?_);refine ar 1 I (v':=.int .u64 (((i+1) % 18446744073709551616:Nat):Int)) (by rw[<-lV];rfl) (ai 0 rfl fun b37 h37=>?_);unfold ac at hi ht q1 q2
  refine' dx (q:=e.term<t) 1 5 43 [37,38] (h37.trans (show _↔e.idx≠i+1 by omega)) I I I I I I I (fun _=>?x8) (fun b43 h43=>?_)
  case x8=>
   refine au ?_;exact ai 1 I fun b42 h42=>fin 1 I (bK (h42.trans qo) I I I)
  refine fin 0 I<|th (ax h43 I (fun e10=>?_) (fun e10=>?_))
  ·rw[aab e10] at hw;refine acI (WL.drop (au ?_));rw[<-hw];exact ah I I ⟨I,I,I⟩
  rw[aaa e10] at hw;refine sk (th (bQ [0] 6 [0,2,4,6,8,10] ?_));exact bS qk 1 0 I I I (bS qk 1 0 I I I (aM qk 2 I (acG (WL.drop (ar 0 I (aC (x:=((j+1:Nat):Int)) qo) (fin 1 I (bw (x:=(j,i,t)) (j+1,e.idx,e.term) sb I I ⟨aH,q1,q2,hw⟩ aH)))))))
 refine au ?_;obtain rfl:j=eq x:=qo
 rw[aaY] at hw;refine au ?_;rw[<-hw];exact ah I I ⟨I,I,I⟩
end
section
def B6{s h hv:PH}(sb b area:Nat)(S:bZ)(hS:iE K sb b area S s)(hbd:S.bd)(D:Dk)(c:Nat)(o:D.Ok c)(hc:c<=1099511626)(hm:bN K b D h)(ha:area<=18446744073709551615)
  (v:List UInt8) (ao:Option Addr) (cap:Nat) (hl:eq v<1099511627776) (hin:In K hs hv) (x:aw hv ao (eq v) cap 1 (bv v)):
  aj w0 194 [Nr sb,.slice ao (eq v) cap] K (s::h::hs)
   (fun u K' hs'=>∃ s' h',hs'=s'::h'::hs/\Le K K'/\iE K' sb b area (S.save area D v).1 s'/\bN K' b (S.save area D v).2.1 h'/\u=.int .i64 (S.save area D v).2.2):=
 (Ko sb b area S hS hbd D c o hc hm ha v ao cap hl hin x).mono fun u K' hs' ⟨le,s',h',e,h1,h2,h3⟩=>⟨s',h',e,le,h1,h2,h3⟩
def Cx{w0:World}{K hv hd':PH}{m hs:List PH}(lb db:Nat)(L:Lg)(D:Dk)(c:Nat)(hb:bp c L)(hc:c<=1000000000)(hm:dF K lb db L D m)(s:aX)(hi:s.idx<18446744073709551616)(aV:Option Addr)(cV:Nat)(aD:Option Addr)(cD:Nat)(xv:aw K aV (eq s.vot) cV 1 (iv s.vot))(hvl:eq s.vot<1099511627776)(hdl:eq s.data<1099511627776):
  aj w0 157 [Nr lb,.agg (cP s aV cV aD cD)] K (m++hs) (fun v K' hs'=>K'=K/\hs'=m++hs/\v=.int .i64 (L.fits s)):=by
 have hm0:=hm;obtain ⟨wb,hb',eb,aV',cV',aD',cD',aL,cL,wh,hh,eh,gl,dh,rfl,hW,hH,hE,hG,hD,xV,xD⟩:=hm;unfold Lg.fits;refine ent Tryz.func157 ?_;refine acI (bx 0 I fun b3=>?_);refine WL.hs (pt b3 (cP s aV cV aD cD) 48::([_,_,_,_,_,_]++hs)) I (au ?_);refine ai 0 I fun b10 h10=>fin 1 I (th (ax h10 I (fun e2=>?_) (fun e2=>?_)))
 ·rw[aab e2];exact acI (a9 3 1 I I I (fin 1 I (acK (rB (rT (WQ.drop (ah I I ⟨I,I,I⟩)))))))
 rw[aaa e2];refine acI (fW 1 [.slice aV (eq s.vot) cV] I qk (.inr ⟨0,I⟩) (np _ I) (cl 0 I (B9 aV cV s.vot (.inl I) xv hvl) ?_));rintro v18 K18 hs18 ⟨rfl,rfl,rfl⟩;refine dE 0 ((bU s.vot).isSome=false) I (by cases (bU s.vot).isSome <;> simp) fun b19 h19=>?_
 refine' dx (q:=2097152<eq s.data) 1 5 25 [19,20] h19 I I I I I I I (fun _=>?x3) (fun b25 h25=>?_)
 case x3=>
  refine au ?_;exact ai 1 I fun b24 h24=>fin 1 I (bK (h24.trans qo) I I I)
 refine fin 1 I<|th (ax h25 I (fun e5=>?_) (fun e5=>?_))
 ·rw[aab e5];exact acI (fin 1 I (acK (rB (rT (WQ.drop (ah I I ⟨I,I,I⟩))))))
 rw[aaa e5];refine sq (bG [pt b3 (cP s aV cV aD cD) 48,pt lb (df wb db hb' eb L (.slice aV' (eq L.sn.vot) cV') (.slice aD' (eq L.sn.data) cD') (.slice aL (eq L.l) cL)) 119] 14 [0,2,4,6,8,10,12,14,16,18,20,22,24,26] Nm qk qk (au ?_));refine dN qk 0 (s.idx<=L.sn.idx) I Nm (fun h6=>?_) (fun h6=>?_)
 ·rw[aab (.inl h6)];exact aM qk 6 I (th (cU I (acI (fin 1 I (acK (rB (rT (WQ.drop (ah I I ⟨I,I,I⟩)))))))))
 refine au ?_;refine dC qk 0 (bH<=s.idx) I (by unfold bH;simp;omega) fun b38 h38=>au ?_;refine ax h38 I (fun e7=>?_) (fun e7=>?_)
 ·rw[aab (.inr e7)];exact acI (fin 1 I (acK (rB (rT (WQ.drop (ah I I ⟨I,I,I⟩))))))
 rw[aaa qo];exact sk (bl (acF (fin 1 I (acK (WQ.drop (ah I I ⟨I,I,I⟩))))))
def B3{m:List PH}(lb db:Nat)(L:Lg)(D:Dk)(c:Nat)(hb:bp c L)(hc:c<=1000000000)(oD:aP c D)(hm:dF K lb db L D m):
  aj w0 144 [Nr lb] K (m++hs) (fun v K' hs'=>K'=K/\∃ m',hs'=m'++hs/\dF K lb db (L.sync D).1 (L.sync D).2.1 m'/\v=.int .i64 (L.sync D).2.2):=by
 have hm0:=hm;obtain ⟨wb,hb',eb,aV,cV,aD,cD,aL,cL,wh,hh,eh,gl,dh,rfl,hW,hH,hE,hG,hD,xV,xD⟩:=hm;unfold Lg.sync;refine cB Tryz.func144 ?_;refine bh 0 I (fun e2=>?_) (fun e2=>?_)
 ·refine au ?_;rw[aab e2];refine au ?_;exact ah I I ⟨I,_,I,hm0,I⟩
 refine au ?_;rw[aaa e2];have e2:=Decidable.not_not.1 e2;refine au ?_;refine cl 0 I (Ct.at2 1 4 I I (Kl wb db L.w hW D c oD.ok hc hb.w hD)) ?_;rintro v17 K17 hs17 ⟨wh',dh',rfl,rfl,hW',hD',rfl⟩;refine cl 0 I (j9 lb wb db hb' eb L _ _ _ _) ?_;rintro v18 K18 hs18 ⟨_,rfl,rfl,rfl,rfl⟩;have ed:eT L.code (L.w.sync D).1.code=(L.w.sync D).1.code:=by unfold eT;rw[aab e2]
 rw[ed];refine au ?_;exact ah I I ⟨I,[_,_,_,_,_,_],I,⟨wb,hb',eb,aV,cV,aD,cD,aL,cL,wh',hh,eh,gl,dh',I,hW',hH,hE,hG,hD',xV,xD⟩,I⟩
def F5{w0:World}{K:PH}{m hs:List PH}(lb db:Nat)(L:Lg)(D:Dk)(c:Nat)(hb:bp c L)(hc:c<=1000000000)(oD:aP c D)(hm:dF K lb db L D m)(t:Nat)(v:Int)(ht:t<=ac)(hv : -9223372036854775808<=v/\v<=9223372036854775807):
  aj w0 136 [Nr lb,.agg #[.int .u64 (t:Nat),.int .i64 v]] K (m++hs) (fun u K' hs'=>Le K K'/\∃ m',hs'=m'++hs/\dF K' lb db (L.setHard D t v).1 (L.setHard D t v).2.1 m'/\u=.int .i64 (L.setHard D t v).2.2):=by
 have hm0:=hm;obtain ⟨wb,hb',eb,aV,cV,aD,cD,aL,cL,wh,hh,eh,gl,dh,rfl,hW,hH,hE,hG,hD,xV,xD⟩:=hm;unfold Lg.setHard;refine enter Tryz.func136 qk I I I (acI (bx 0 I fun b3=>?_));refine WL.hs (pt b3 #[.int .u64 (t:Nat),.int .i64 v] 112::([_,_,_,_,_,_]++hs)) I (fin 1 I (th (sq (bk (acI (a9 3 1 I I I (ai 0 I fun b11 h11=>fin 1 I (th (ax h11 I (fun e2=>?_) (fun e2=>?_))))))))))
 ·rw[aab e2];exact acI (a9 3 1 I I I (fin 1 I (acK (rB (rT (WQ.drop (ah I I ⟨Le.refl _,_,I,hm0,I⟩)))))))
 rw[aaa e2];have e2:=Decidable.not_not.1 e2;refine acI (a9 1 0 I I I (ai 0 I fun b19 h19=>?_))
 refine' dx (q:=7<=v) 1 4 24 [19,20] h19 I I I I I I I (fun _=>?x4) (fun b24 h24=>?_)
 case x4=>
  exact a9 1 0 I I I (ai 0 I fun b23 h23=>fin 1 I<|bK (h23.trans qo) I I I)
 refine fin 1 I<|th (ax h24 I (fun e6=>?_) (fun e6=>?_))
 ·rw[aab e6];exact acI (fin 1 I (acK (rB (rT (WQ.drop (ah I I ⟨Le.refl _,_,I,hm0,I⟩))))))
 rw[aaa e6];refine sq (bG [pt b3 #[.int .u64 (t:Nat),.int .i64 v] 112,pt lb (df wb db hb' eb L (.slice aV (eq L.sn.vot) cV) (.slice aD (eq L.sn.data) cD) (.slice aL (eq L.l) cL)) 119] 9 [0,2,4,6,8,10,12,14,16] Nm qk qk (bS qk 1 0 I I I (bS qk 4 1 I I I (dC qk 0 (t<L.kt) I Nm fun b33 h33=>aM qk 1 I (th (ax h33 I (fun e7=>?_) (fun e7=>?_)))))))
 ·rw[aab e7];exact acI (fin 1 I (acK (rB (rT (WQ.drop (ah I I ⟨Le.refl _,_,I,hm0,I⟩))))))
 rw[aaa e7];obtain ⟨u,rfl⟩:∃ u:Nat,v=((u:Nat):Int)-1:=⟨(v+1).toNat,qo⟩;have eu:(((u:Nat):Int)-1+1).toNat=u:=qo
 rw[eu]
 have hul:eq (aI t++aI u)<=20:=by
  unfold ac at ht;have h1:=dH (n:=t) qo;have h2:=dH (n:=u) qo;rw[aah];omega
 obtain ⟨R,hR⟩:=be (L.hard.save 0 D (aI t++aI u));unfold ac at ht;refine sk (bl (th (WC.em (sq (bG [pt b3 #[.int .u64 (t:Nat),.int .i64 (((u:Nat):Int)-1)] 112] 9 [0,2,6,8,10,12,5,15,16] Nm qk qk (bS qk 1 0 I I I (bS qk 1 0 I I I (bA qk 0 I (v':=.int .i64 (u:Nat)) (by rw[show ((u:Nat):Int)-1+1=((u:Nat):Int) from qo];exact aC qo) (bA qk 0 I (bL qo) (aJ qk 0 I (cl 0 I (jE none 0 [] t (aZ.nil _ _) qo Nn) ?_)))))))))));rintro v36 K36 hs36 ⟨h36,rfl,rfl,ao36,c36,rfl,o36⟩;rw[abd] at o36 ⊢;refine ba Nm I (aJ qk 0 I (cl 0 I (jE ao36 c36 (aI t) u o36 qo (by have:=dH (n:=t) qo;omega)) ?_));rintro v41 K41 hs41 ⟨h41,rfl,rfl,ao41,c41,rfl,o41⟩;refine ba Nm I (aM qk 1 I (acE (a9 4 2 I I I (cl 1 I (Ct.at2 4 6 I I (B6 hb' db 0 L.hard hH hb.hard D c oD.ok qo hD qo (aI t++aI u) ao41 c41 qo (.inr ⟨0,I⟩) o41.isS)) ?_))))
 rintro v48 K48 hs48 ⟨hh',dh',rfl,le,hH',hD',rfl⟩;rw[<-hR] at hH' hD' ⊢;refine cl 0 I (Ct.at 2 I (j9 lb wb db hb' eb L _ _ _ _)) ?_;rintro v49 K49 hs49 ⟨_,rfl,rfl,rfl,rfl⟩;have ed:eT L.code R.2.2=R.2.2:=by unfold eT;rw[aab e2]
 rw[ed];refine ai 0 I fun b50 h50=>fin 0 I (th (ax h50 I (fun e9=>?_) (fun e9=>?_)))
 ·rw[aab e9];refine rg (fh 1 1 I I qk (kq 2 2 I I qk (by simp[df]) (fun v hv=>by simp at hv;rcases hv with rfl|rfl <;> rfl) (fin 0 rfl (acF (a9 3 2 rfl rfl rfl (fin 1 rfl (acK (WQ.drop (WQ.drop ?_)))))))));refine ah I I ⟨le,[_,_,_,_,_,_],I,⟨wb,hb',eb,aV,cV,aD,cD,aL,cL,wh,hh',eh,gl,dh',?_,hW.le le,hH',hE.le le,hG.imp fun _ _ h=>h.le le,hD',xV.le le,xD.le le⟩,?_⟩
  ·rw[e9,<-e2];rfl
  show Value.int .i64 R.2.2=_;rw[e9]
 rw[aaa e9];refine sk (acF (a9 3 2 I I I (fin 1 I (acK (WQ.drop (WQ.drop ?_))))));exact ah I I ⟨le,[_,_,_,_,_,_],I,⟨wb,hb',eb,aV,cV,aD,cD,aL,cL,wh,hh',eh,gl,dh',I,hW.le le,hH',hE.le le,hG.imp fun _ _ h=>h.le le,hD',xV.le le,xD.le le⟩,I⟩
end
section
def nJ{n:Nat}{l:Sl}{o:Oper}{t:Nat}{x:Operand}{i:Nat}{v u:Value}(hop:o.op=.field t x i)(hx:ev l x=some v)(hr:∀ w,(Instr.field t v i).run P w=.ok u w):∀ A w,Ag n l A->(execOp A.eval o).run P w=.ok (.value u) w:=by
 intro A w ha;simp only[execOp,hop,ha.ev hx];rw[Sem.run_bind,hr]
 rfl
section
variable {P:Program} {w0:World} {fn:Func} {R:Value->PH->List PH->Prop} {n:Nat} {l:Sl} {K:PH} {hs:List PH}
def Ca{T:bg}[hT:bc P T](i j:Nat){t ty b ty' u tu b2 ty2:Nat}{k:UK}{x:Value}{c:Array Value}{fr fr2:Nat×Nat}(hr:fn.results=#[.cell t ty,.cell u tu])(hv:look l t=some (Nr b))(hu:look l u=some (Nr b2))(hi:hs[i]?=some (pt b c ty' fr))(hj:hs[j]?=some (pt b2 #[x] ty2 fr2))
  (hm:iA P ty c.size=true) (hk:asc T.kinds tu=some k) (h1:k.one=true):∀ a w,Ag n l a->a7 w0 w K hs->(results fn a.tmps).run P w=.ok (.tuple #[.agg c,x]) w:=by
 intro a w ha hw;have h2:=tg (P:=P) (w:=w) (t:=ty) (a:=⟨b,0,none⟩) (cs:=c.toList) (by simpa using hm) rfl (fun j v hv=>hw.cell (.inr ⟨i,hi⟩) (lx c.toList (fun j v h=>by simpa using h) j v hv));have e:c.toList.toArray=c:=by simp
 rw[e] at h2
 have h3:(loadVar tu ⟨b2,0,none⟩).run P w=.ok x w:=by
  have:=nh (P:=P) (w:=w) hk h1 (a:=⟨b2,0,none⟩) (v:=x) (hw.cell (.inr ⟨j,hj⟩) (cC.pt rfl));simpa[Instr.loadAt,Instr.sureAddr] using this
 simp[results,hr,ha.slot t _ hv,ha.slot u _ hu,asAddr,h2,h3]
end
section
variable {P:Program} {w0:World} {fn:Func} {R:Value->PH->List PH->Prop} {n:Nat} {l:Sl} {K:PH} {hs hs':List PH} {v:Value}
def nX{e:Exit}(D m:Nat)(hh:hs=hs'++[fp D])(he:e=.ret\/e=.normal)(hres:∀ a w,Ag n l a->a7 w0 w K hs'->(results fn a.tmps).run P w=.ok v w)(h:R v K (hs'.drop m)):cW [kY D] w0 (bodyPostM (fz none) 0 P fn (fg w0 R)) e n l K hs:=by
 subst hh;intro a w ha hw;have h1:a7 w0 (w.putObj D (.deferred none)) K hs':=(hw.putLast (.deferred none)).dropLast;have h2:=run_takeDeferred (P:=P) (hw.last);rcases he with rfl|rfl <;> exact ⟨Nm,.inl ⟨D,_,rfl,h2,v,hres a _ ha h1,v,K,hs'.drop m,rfl,h,h1.dropN m⟩⟩
end
def mD(l:List (List Value)):List (List Value):=(l.zipIdx.map fun x=>[.int .i64 x.2,.agg x.1.toArray]).reverse
def ul(l:List (List Value)):eq (mD l)=eq l:=by simp[mD]
def zn{l:List (List Value)}{i:Nat}(h:i<eq l):(mD l)[i]?=some [.int .i64 (eq l-1-i:Nat),.agg (l[eq l-1-i]'qo).toArray]:=by
 unfold mD;rw[List.getElem?_reverse (by simpa using h)];simp only[aaO,List.length_zipIdx];rw[aby,List.getElem?_zipIdx,aai (show eq l-1-i<eq l by omega)]
 simp
def CH(size:Nat)(b:Nat)(ao:Option Addr)(c:Nat)(l:List (List Value))(K:PH)(hs:List PH):Prop:=
 (∃ h,In K hs h/\cC h ⟨b,0,none⟩ (.slice ao (eq l) c))/\∃ h,In K hs h/\dn size (fun c x=>c=x) h ao (eq l) c l
theorem dY.refl:∀ l:List (List Value),dY (fun c x=>c=x) l l
 | []=>trivial
 | _::r=>⟨rfl,dY.refl r⟩
def GE{α:Type}{p:α->Bool}{l:List α}{i:Nat}{e:α}(h0:(l.take i).find? p=none)(he:l[i]?=some e)(hp:p e=true):l.find? p=some e:=by
 have hi:=(aax.1 he).1
 have:l=l.take i++(e::l.drop (i+1)):=by
  have h2:l.drop i=e::l.drop (i+1):=by rw[aaF hi,show l[i]=e from by rw[aai hi] at he;exact aaU he]
  rw[<-h2,aaA]
 rw[this,List.find?_append,h0];simp[hp]
def Lp(ao:Option Addr)(n c:Nat):aj w0 156 [.slice ao n c] K hs
  (fun v K' hs'=>K'=K/\∃ b,hs'=pt b #[.slice ao n c] 30::hs/\v=.func (.func 205) #[] #[Nr b]):=by
 exact enter Tryz.func156 qk I I I<|acI (bx 0 I fun b1=>fin 1 I<|acF (fin 2 I<|acK<|ah I I ⟨I,b1,I,I⟩))
def Lo(b:Nat)(ao:Option Addr)(c:Nat)(l:List (List Value))(hl:eq l<=1099511627776):wJ Tryz.prog w0 205 [Nr b] (mD l) (CH 4 b ao c l):=by
 intro L St Sp hRd hY K hs h0;refine mu Tryz.func205 qk I I I ?_;obtain ⟨⟨h1,m1,c1⟩,_⟩:=hRd 0 K hs h0;refine cI (ey (ld 0 I m1 c1 (ar 1 I (v':=.int .i64 ((eq l:Int)-1-((0:Nat):Int))) (by rw[aC qo];simp) (fin 1 rfl (dc (da (jy (rW (σ:=Nat×PH×List PH) (fun s=>[(0,.func (.yield L) #[] #[]),(1,Nr b),(3,.int .i64 ((eq l:Int)-1-((s.1:Nat):Int)))]) (fun s=>s.2.1) (fun s=>s.2.2) (fun s=>s.1<=eq l/\St s.1 s.2.1 s.2.2) (fun s=>eq l-s.1) (0,K,hs) ⟨aad _,h0⟩ ⟨rfl,rfl,rfl,trivial⟩ rfl rfl ?_))))))));rintro ⟨i,K,hs⟩ ⟨hi,hst⟩;dsimp only at *;obtain ⟨⟨h1,m1,c1⟩,h2,m2,c2⟩:=hRd i K hs hst;refine cI (cI (ey (ai 1 I fun b8 h8=>fin 0 I (dc (da (oc h8 I (fun e2=>?_) (fun e2=>?_)))))))
 ·have hil:i<eq l:=qo
  obtain ⟨a,rfl⟩:=c2.addr qo Nn;obtain ⟨vs,xs⟩:=c2.isS;obtain ⟨cs,hc,hcl,hcell⟩:=c2.cells (i:=eq l-1-i) (x:=l[eq l-1-i]'qo) (aai _);refine kX (da (cI (jy (cI (wN (gQ.cut 6 (ld 2 I m1 c1 (fj 1 (eq l-1-i) I (show _=((eq l-1-i:Nat):Int) by omega) xs qo Nn fun a15 ha=>?_))))))));cases ha;refine fW 0 cs I (by rw[hcl];kernel_rfl) m2 hcell (fin 0 rfl (wD ?_))
  have hv:(mD l)[i]?=some [.int .i64 ((eq l:Int)-1-((i:Nat):Int)),.agg cs.toArray]:=by
   rw[zn hil,hc,show ((eq l-1-i:Nat):Int)=(eq l:Int)-1-((i:Nat):Int) from qo]
  refine wL I (hY i _ K hs hv hst) ?_;rintro v17 K17 hs17 (⟨rfl,hn⟩|⟨rfl,hp⟩)
  ·exact gQ.fin (fin 1 I (dc (da (qd I (kX (kx (da (ey (ar 1 I (v':=.int .i64 ((eq l:Int)-1-((i+1:Nat):Int))) (by rw[aC qo];congr 1;omega) (fin 1 rfl (dc (rR (x:=(i,K,hs)) (i+1,K17,hs17) sb rfl rfl ⟨aH,hn⟩ aH))))))))))))
  exact gQ.fin<|fin 1 I (dc<|da (qc I<|jQ (oK<|oJ (oJ<|oK (vK I (.inr hp))))))
 refine sX (mT (mT (sQ ?_)));obtain rfl:i=eq l:=qo
 exact vW I (.inl (by rw[ul];exact hst))
def sN(up:Nat)(e:af):Bool:=decide (e.kind=2/\e.idx<=up)
def HP{w0:World}{K:PH}{m hs:List PH}(lb db:Nat)(L:Lg)(D:Dk)(c:Nat)(hb:bp c L)(hc:c<=1000000000)(hm:dF K lb db L D m)(up:Nat)(hup:up<=ac):
  aj w0 90 [Nr lb,.int .u64 (up:Nat)] K (m++hs)
   (fun v K' hs'=>Le K K'/\hs'=m++hs/\∃ ao cap,v=.tuple #[.agg #[.slice ao (eq (eg L.sn L.l up).1) cap],.int .u64 (((eg L.sn L.l up).2:Nat):Int)]/\aw K' ao (eq (eg L.sn L.l up).1) cap 1 (iv (eg L.sn L.l up).1)):=by
 have hm0:=hm;obtain ⟨wb,hb',eb,aV,cV,aD,cD,aL,cL,wh,hh,eh,gl,dh,rfl,hW,hH,hE,hG,hD,xV,xD⟩:=hm;have h2:=hb.len;have hG0:=hG;obtain ⟨css,hn,oz,hal,hlen⟩:=hG;have hcl:eq css=eq L.l:=hal.len;have hSl:dn 4 (fun c x=>c=x) gl aL (eq css) cL css:=⟨css,rfl,by rw[hcl];exact oz.isS,dY.refl css,hlen⟩;obtain ⟨A,hA⟩:=be (df wb db hb' eb L (.slice aV (eq L.sn.vot) cV) (.slice aD (eq L.sn.data) cD) (.slice aL (eq L.l) cL));have hA8:A[12]?=some (.slice aL (eq css) cL):=by rw[hA,hcl];rfl
 have hA6:A[6]?=some (.int .u64 L.sn.idx):=by rw[hA];rfl
 rw[<-hA] at hm0 ⊢;refine mu Tryz.func90 qk I I I (cI (ey (bx 0 I fun b3=>al 0 (.agg #[.slice none 0 0]) I qk fun b4=>al 0 (.int .u64 0) I qk fun b5=>fin 0 I (dc (da (cI (cI (ey (a9 3 3 I I hA8 (cl 0 I (Lp aL (eq css) cL) ?_))))))))));rintro v14 K14 hs14 ⟨rfl,b1,rfl,rfl⟩;refine fin 0 I (dc (da (jy (WX.frz fun K1 le1 l1=>WX.perm (hs':=(pt b5 #[.int .u64 0] 29::pt b4 #[.slice none 0 0] 46::pt b3 #[.int .u64 (up:Nat)] 29::pt lb A 119::wh::hh::eh::gl::dh::hs)) (List.Perm.refl _) ?_))))
 refine DS [Nr b1] (mD css) (CH 4 b1 aL cL css) I (Lo b1 aL cL css qo) qk (fun vs hv=>?_) I
  (fun i K' hs'=>K'=K1/\hs'=pt b5 #[.int .u64 0] 29::pt b4 #[.slice none 0 0] 46::pt b3 #[.int .u64 (up:Nat)] 29::pt lb A 119::wh::hh::eh::gl::dh::hs/\(L.l.reverse.take i).find? (sN up)=none)
  (fun c K' hs'=>c=.ret/\Le K1 K'/\∃ ao cap x,hs'=pt b5 #[.int .u64 (((eg L.sn L.l up).2:Nat):Int)] 29::pt b4 #[.slice ao (eq (eg L.sn L.l up).1) cap] 46::x::pt lb A 119::wh::hh::eh::gl::dh::hs/\aw K' ao (eq (eg L.sn L.l up).1) cap 1 (iv (eg L.sn L.l up).1))
  ⟨rfl,rfl,Nm⟩ (fun i K' hs' t u h=>by obtain ⟨rfl,rfl,_⟩:=h;exact ⟨⟨K',.inl I,(cC.pt I).le l1⟩,gl,.inr ⟨7,I⟩,hSl⟩) ?_ ?_ ?_
 ·obtain ⟨y,_,rfl⟩:=aap.1 (List.mem_reverse.1 hv)
  rfl
 ·rintro LL i vs K' hs' t u hvs ⟨rfl,rfl,hno⟩;have hi:i<eq css:=by have:=(aax.1 hvs).1;rw[ul] at this;exact this
  rw[zn hi] at hvs;cases hvs;have hi2:eq css-1-i<eq L.l:=qo
  obtain ⟨e,he⟩:∃ e,L.l[eq css-1-i]?=some e:=⟨L.l[eq css-1-i],aai hi2⟩;obtain ⟨d,hd,ao,cap,hdv,xe⟩:=hal.get he
  have hcs:css[eq css-1-i]'qo=(e.v ao cap).toList:=by
   rw[aai qo] at hd;rw[<-hdv];exact aaU hd
  rw[hcs,Array.toArray_toList]
  have her:L.l.reverse[i]?=some e:=by
   rw[List.getElem?_reverse qo,<-hcl];exact he
  have hem:=hb.ents e (aao he);have hel:=lu hem.1.2.2;refine ey (al 0 (.agg #[.int .u64 0,.int .u64 0,.int .i64 0,.slice none 0 0]) I qk fun b7=>?_);refine bJ 0 0 I I qk I I ?_;refine fin 0 I (dc (wG (hs':=pt b7 (e.v ao cap) 51::pt b5 #[.int .u64 0] 29::pt b4 #[.slice none 0 0] 46::pt b3 #[.int .u64 (up:Nat)] 29::pt lb A 119::wh::hh::eh::gl::dh::hs) I fun u=>jy (cI (ey (a9 1 0 I I I (ai 0 I fun b19 h19=>?_))))))
  refine' dU (q:=e.idx<=up) 1 5 25 [19,20] h19 I I I I I I I (fun _=>?x2) (fun b25 h25=>?_)
  case x2=>
   exact a9 1 0 I I I<|a9 0 3 I I I (ai 0 I fun b24 h24=>fin 1 I<|bK (h24.trans qo) I I I)
  refine fin 0 I<|dc (da<|oc h25 I (fun e4=>?_) (fun e4=>?_))
  ·have hcfg:eg L.sn L.l up=((ft e.data).getD [],e.idx):=by
    unfold eg;have:L.l.reverse.find? (fun e=>decide (e.kind=2/\e.idx<=up))=some e:=GE hno her (by simp[sN,e4.1,e4.2]);rw[this]
   refine cI (ey (a9 1 0 I I I (cl 0 I (q8 ao cap e.data (.inl I) (xe.le le1) qo) ?_)));rintro v29 K29 hs29 ⟨rfl,h29,ao29,c29,rfl,rfl,o29⟩;refine WL.frz fun K2 le2 l2=>al 3 (.agg #[.slice none 0 0]) I qk fun b8=>?_;refine bJ 0 0 I I qk I I ?_;refine WL.hs (pt b8 #[.slice ao29 (eq ((ft e.data).getD [])) c29] 46::pt b7 (e.v ao cap) 51::pt b5 #[.int .u64 0] 29::pt b4 #[.slice none 0 0] 46::pt b3 #[.int .u64 (up:Nat)] 29::pt lb A 119::wh::hh::eh::gl::dh::(hs++[t,u])) I (fin 1 I (dc (da (cI (n5 [pt b8 #[.slice ao29 (eq ((ft e.data).getD [])) c29] 46,pt b7 (e.v ao cap) 51] 5 [0,2,4,7,9] Nm qk qk (kT qk 0 0 I qk I qk (bS qk 1 1 I I I (aJ qk 0 I ?_))))))));refine bJ 0 3 I I qk I I ?_;refine ba Nm I (aJ qk 0 I (stp 0 2 I I I I (ba Nm I (aM qk 0 I (dc (da (jQ (oK (cW.drop (cW.drop (Ds (hs':=pt b5 #[.int .u64 e.idx] 29::pt b4 #[.slice ao29 (eq ((ft e.data).getD [])) c29] 46::pt b3 #[.int .u64 (up:Nat)] 29::pt lb A 119::wh::hh::eh::gl::dh::hs) I ?_)))))))))))
   rw[hcfg];exact ⟨I,le2,ao29,c29,_,I,o29.isS.le l2⟩
  refine kX (kx (cW.drop (wx (hs':=pt b5 #[.int .u64 0] 29::pt b4 #[.slice none 0 0] 46::pt b3 #[.int .u64 (up:Nat)] 29::pt lb A 119::wh::hh::eh::gl::dh::hs) I (⟨I,I,?_⟩))));rw[aaK,her,List.find?_append,hno];simp only[abK,List.find?_cons,List.find?_nil,Option.none_or];rw[show sN up e=false from by unfold sN;simp only[decide_eq_false_iff_not];omega]
 ·rintro DD K' hs' ⟨rfl,rfl,hno⟩;rw[ul,aav (by simp;omega)] at hno
  have hcfg:eg L.sn L.l up=(L.sn.vot,L.sn.idx):=by
   unfold eg;have:L.l.reverse.find? (fun e=>decide (e.kind=2/\e.idx<=up))=none:=hno;rw[this]
  refine kx (da (cI (n5 [pt lb A 119] 10 [0,6,8,10,12,14,3,4,17,19] Nm qk qk (bS qk 5 0 I I hA6 (aJ qk 0 I ?_)))));refine WL.perm (hs':=[pt lb A 119,wh,hh,eh,gl,dh]++(pt b5 #[.int .u64 0] 29::pt b4 #[.slice none 0 0] 46::pt b3 #[.int .u64 (up:Nat)] 29::(hs++[fp DD]))) (aal [_,_,_] [_,_,_,_,_,_] _) (cl 0 I (B5 lb db L D c hb (hm0.le le1)) ?_);rintro v36 K36 hs36 ⟨le3,rfl,aV2,cV2,aD2,cD2,rfl,xV2,xD2⟩;refine WL.perm (hs':=pt b5 #[.int .u64 0] 29::pt b4 #[.slice none 0 0] 46::pt b3 #[.int .u64 (up:Nat)] 29::pt lb A 119::wh::hh::eh::gl::dh::(hs++[fp DD])) (aal [_,_,_,_,_,_] [_,_,_] _) (eK Nm le3 (qf qk 0 (v:=.agg #[.slice aV2 (eq L.sn.vot) cV2]) I (fun A' w ha _=>?_) ?_))
  ·exact nJ (t:=48) (x:=.tmp 36) (i:=2) (v:=.agg (cP L.sn aV2 cV2 aD2 cD2)) I I (fun w=>by kernel_rfl) A' w ha
  refine aJ qk 0 I ?_;refine bJ 0 1 I I qk I I ?_;refine ba Nm I (aJ qk 0 I (stp 0 0 I I I I (ba Nm I (aM qk 0 I (dc (da (jQ (nX DD 3 (hs':=pt b5 #[.int .u64 L.sn.idx] 29::pt b4 #[.slice aV2 (eq L.sn.vot) cV2] 46::pt b3 #[.int .u64 (up:Nat)] 29::pt lb A 119::wh::hh::eh::gl::dh::hs) I (.inl I) (Ca 1 0 I I I I I qk I I) ?_))))))));rw[hcfg];exact ⟨le1.trans le3,I,aV2,cV2,I,xV2⟩
 rintro DD c' K' hs' ⟨rfl,le2,ao,cap,x,rfl,xs⟩;exact jQ (nX DD 3 (hs':=pt b5 #[.int .u64 (((eg L.sn L.l up).2:Nat):Int)] 29::pt b4 #[.slice ao (eq (eg L.sn L.l up).1) cap] 46::x::pt lb A 119::wh::hh::eh::gl::dh::hs) I (.inl I) (Ca 1 0 I I I I I qk I I) (⟨le1.trans le2,I,ao,cap,I,xs⟩))
end
section
def qO(e:af)(r:List af)(L:Lg)(D:Dk):Lg.app1 (e::r) L D =
  if (L.w.append e.bytes D).2.2≠0 then ({ L with w:=(L.w.append e.bytes D).1,code:=(L.w.append e.bytes D).2.2 },(L.w.append e.bytes D).2.1,(L.w.append e.bytes D).2.2)
  else Lg.app1 r { L with w:=(L.w.append e.bytes D).1,l:=L.l++[e] } (L.w.append e.bytes D).2.1:=rfl
def ic(e:af):Prop:=e.ok/\e.idx<=ac/\e.term<=ac
def bp.w1{c:Nat}{L:Lg}(o:bp c L)(b:List UInt8)(D:Dk)(k:Int):bp (c+12) { L with w:=(L.w.append b D).1,code:=k }:=
 ⟨o.w.append b D,o.hard,o.head,o.kt,o.kv,o.idx,o.st,o.vot,o.data,by have:=o.place;dsimp only;omega,by have:=o.fr;dsimp only;omega,by have:=o.len;dsimp only;omega,o.ents⟩
def bp.w2{c:Nat}{L:Lg}(o:bp c L)(b:List UInt8)(D:Dk)(e:af)(he:ic e):bp (c+12) { L with w:=(L.w.append b D).1,l:=L.l++[e] }:=
 ⟨o.w.append b D,o.hard,o.head,o.kt,o.kv,o.idx,o.st,o.vot,o.data,by have:=o.place;dsimp only;omega,by have:=o.fr;dsimp only;omega,by have:=o.len;dsimp only;rw[aah];simp only[aan,aaT];omega,fun y hy=>by
  rcases aaj.1 hy with hy|hy
  ·exact o.ents y hy
  simp at hy;rw[hy];exact he⟩
theorem bp.app1:∀ (x:List af) (L:Lg) (D:Dk) (c:Nat),bp c L->aP c D->(∀ e∈x,ic e)->c+12*eq x<=999999990->bp (c+12*eq x) (Lg.app1 x L D).1/\aP (c+12*eq x) (Lg.app1 x L D).2.1
 | [],L,D,c,o,d,_,_=>⟨o,d⟩
 | e::r,L,D,c,o,d,hx,hc=>by
  simp only[aan] at hc;rw[qO]
  split
  ·exact ⟨(o.w1 e.bytes D _).up (by simp only[aan];omega),(d.append o.w qo _).up (by simp only[aan];omega)⟩
  have:=bp.app1 r _ _ (c+12) (o.w2 e.bytes D e (hx e Nm)) (d.append o.w qo e.bytes) (fun y hy=>hx y (by simp[hy])) qo;rw[show c+12+12*eq r=c+12*eq (e::r) from by simp only[aan];omega] at this;exact this
def mq{i t:Nat}{x:List af}(h:eA i t x=0):∀ e∈x,e.ok:=by
 unfold eA at h
 split at h
 ·rename_i h1;simp only[aaV,l6] at h1;exact h1
 cases h
def yX{e:af}(h:e.ok):gH e=some e.bytes:=aab h
def AC{m:List PH}(lb db:Nat)(L:Lg)(D:Dk)(c:Nat)(hb:bp c L)(oD:aP c D)(hm:dF K lb db L D m)(ao:Option Addr)(cap:Nat)(x:List af)(xs:dn 4 (dB K) K ao (eq x) cap x)(hx:∀ e∈x,ke e)(hc:c+12*eq x<=999999000):
  aj w0 153 [Nr lb,.slice ao (eq x) cap] K (m++hs) (fun u K' hs'=>Le K K'/\∃ m',hs'=m'++hs/\dF K' lb db (L.append x D).1 (L.append x D).2.1 m'/\u=.int .i64 (L.append x D).2.2):=by
 have hm0:=hm;obtain ⟨wb,hb',eb,aV,cV,aD,cD,aL,cL,wh,hh,eh,gl,dh,rfl,hW,hH,hE,hG,hD,xV,xD⟩:=hm;unfold Lg.append;have hidx:=hb.idx;have hlen:=hb.len;unfold bH at hidx;refine cB Tryz.func153 ?_;refine ai 0 I fun b16 h16=>fin 0 I (th (ax h16 I (fun e2=>?_) (fun e2=>?_)))
 ·rw[aab e2];refine au ?_;exact ah I I ⟨Le.refl _,_,I,hm0,I⟩
 rw[aaa e2];have hcode:=Decidable.not_not.1 e2;refine sk (acF (cl 2 I (nQ lb db L D c hb qo hm0) ?_));rintro v24 K24 hs24 ⟨rfl,rfl,rfl⟩;refine cl 0 I (mp lb db L D c hb qo hm0 _ qo) ?_;rintro v25 K25 hs25 ⟨rfl,rfl,rfl⟩
 have ht:(trm L.sn L.l (L.sn.idx+eq L.l)).1<=ac:=by
  unfold trm
  split
  ·exact hb.st
  split
  ·exact aad _
  cases hg:L.l[L.sn.idx+eq L.l-L.sn.idx-1]? with
  | none=>exact aad _
  | some e=>exact (hb.ents e (aao hg)).2.2
 refine au ?_;refine cl 1 I (nQ lb db L D c hb qo hm0) ?_;rintro v29 K29 hs29 ⟨rfl,rfl,rfl⟩;refine cl 2 I (z7 _ _ (by unfold ac;omega) ht ao cap x xs hx qo) ?_;rintro v32 K32 hs32 ⟨rfl,rfl,rfl⟩;have el:L.last=L.sn.idx+eq L.l:=rfl;rw[el];refine au ?_;refine ai 1 I fun b34 h34=>fin 0 I (th (ax h34 I (fun e4=>?_) (fun e4=>?_)))
 ·rw[aab e4];refine au ?_;exact ah I I ⟨Le.refl _,_,I,hm0,I⟩
 rw[aaa e4];have hok:=mq (Decidable.not_not.1 e4);obtain ⟨R,hR⟩:=be (Lg.app1 x L D);rw[<-hR];obtain ⟨ys,hys⟩:=xs.isS;refine au ?_
 refine loop (σ:=(Nat×Lg×Dk)×List PH×PH) (fun s=>[(0,Nr lb),(36,.slice ao (eq x) cap),(37,.int .i64 (eq x)),(38,.int .i64 s.1.1)]) (fun s=>s.2.2) (fun s=>s.2.1++hs)
  (fun s=>s.1.1<=eq x/\Lg.app1 (x.drop s.1.1) s.1.2.1 s.1.2.2=R/\bp (c+12*s.1.1) s.1.2.1/\aP (c+12*s.1.1) s.1.2.2/\s.1.2.1.code=0/\Le K32 s.2.2/\dF s.2.2 lb db s.1.2.1 s.1.2.2 s.2.1) (fun s=>eq x-s.1.1)
  ((0,L,D),[_,_,_,_,_,_],K32) ⟨aad _,hR.symm,hb,oD,hcode,Le.refl _,hm0⟩ ⟨rfl,rfl,rfl,rfl,trivial⟩ rfl rfl ?_
 clear hm0 hW hH hE hG hD xV xD hR hcode h16 h34 e4 e2 ht;clear hidx hlen hb oD;clear el L D;clear wh hh eh gl dh;rintro ⟨⟨j,L,D⟩,m,K1⟩ ⟨hj,hw,hb,oD,hcode,le1,hm⟩;dsimp only at *;obtain ⟨wb,hb',eb,aV,cV,aD,cD,aL,cL,wh,hh,eh,gl,dh,rfl,hW,hH,hE,hG,hD,xV,xD⟩:=id hm;refine acI (bh 0 I (fun e6=>?_) (fun e6=>?_))
 ·refine au ?_;have hjx:j<eq x:=qo
  obtain ⟨e,he⟩:∃ e,x[j]?=some e:=⟨x[j],aai hjx⟩;have hem:=aao he;obtain ⟨q1,q2,q3⟩:=hx e hem;have hoke:=hok e hem;obtain ⟨a,rfl⟩:=xs.addr qo Nn;obtain ⟨cc,⟨ae,ce,rfl,xe⟩,_,hcell⟩:=xs.cells he;rw[aaF hjx,show x[j]=e from by rw[aai hjx] at he;exact aaU he,qO] at hw;obtain ⟨V,hV⟩:=be (L.w.append e.bytes D);have hb1:=hb.w1 e.bytes D V.2.2;have hb2:=hb.w2 e.bytes D e ⟨hoke,q1,q2⟩;have oD1:=oD.append hb.w qo e.bytes;have hll:=hb.len;rw[<-hV] at hb1 hb2 oD1 hw;refine au ?_;refine fj 0 j I I (hys.le le1) hjx Nn fun a40 h40=>?_;cases h40;refine fW 0 (e.v ae ce).toList I qk (.inl I) (fun j v hv=>(hcell j v hv).le le1) (al 0 (.agg #[.int .u64 0,.int .u64 0,.int .i64 0,.slice none 0 0]) I qk fun b9=>?_);refine bJ 0 0 I I qk I I ?_;refine fin 0 I (acF (fh 0 0 I I qk (cl 0 I (uL e ae ce q1 q2 (.inl I) (xe.le le1) q3) ?_)))
  rintro v44 K44 hs44 ⟨rfl,h44,ao44,c44,rfl,rfl,o44⟩;rw[yX hoke] at o44 ⊢;have o44:aZ h44 ao44 (eq e.bytes) c44 5 1 (bv e.bytes):=o44;have hel:=e.bytes_length hoke q1 q2;refine au ?_;refine cl 1 I (Ct.at2 3 6 I I (H3 wb db L.w hW D (c+12*j) oD qo hb.w hD ao44 c44 e.bytes qo (.inr ⟨0,I⟩) o44.isS)) ?_;rintro v53 K53 hs53 ⟨wh',dh',rfl,le2,hW',hD',rfl⟩;rw[<-hV] at hW' hD' ⊢;refine cl 0 I (Ct.at 2 I (j9 lb wb db hb' eb L _ _ _ _)) ?_;rintro v54 K54 hs54 ⟨_,rfl,rfl,rfl,rfl⟩;have ed:eT L.code V.2.2=V.2.2:=by unfold eT;rw[aab hcode]
  rw[ed];refine ai 0 I fun b55 h55=>fin 0 I (th (ax h55 I (fun e8=>?_) (fun e8=>?_)))
  ·rw[aab e8] at hw;refine acI (a9 3 2 I I I (fin 1 I (acK (rT (rB (rT (rT (rB (rT (WQ.drop (WQ.drop ?_)))))))))));rw[<-hw];exact ah I I ⟨le1.trans le2,[_,_,_,_,_,_],I,⟨wb,hb',eb,aV,cV,aD,cD,aL,cL,wh',hh,eh,gl,dh',I,hW',hH.le le2,hE.le le2,hG.imp fun _ _ h=>h.le le2,hD',xV.le le2,xD.le le2⟩,I⟩
  have e8:=Decidable.not_not.1 e8;rw[aaa (by rw[e8];simp)] at hw;have eL:({ L with code:=V.2.2 }:Lg)=L:=by rw[e8,<-hcode]
  rw[eL];refine sk (th (bG [pt lb (df wb db hb' eb L (.slice aV (eq L.sn.vot) cV) (.slice aD (eq L.sn.data) cD) (.slice aL (eq L.l) cL)) 119,pt b9 (e.v ae ce) 51] 11 [0,2,4,6,8,10,13,15,17,18,20,23] Nm qk qk (bP qk 4 0 I qk I I (kT qk 0 1 I qk I qk (aJ qk 0 I (cl 0 I (u0 e ae ce (.inl I) (xe.le (le1.trans le2)) q3) ?_))))));rintro v66 K66 hs66 ⟨le3,rfl,ao2,c2,rfl,x2⟩;refine eK Nm le3 (au ?_);refine lit 0 (e.v ao2 c2) I Nn qk fun b67=>ba Nm I (aJ qk 0 I (mF 0 7 (e.v ao2 c2).toList e I I I (hG.imp fun _ _ h=>h.le (le2.trans le3)) ⟨ao2,c2,I,x2⟩ I (by simp[af.v,Value.oneCell']) I Nn (by show (eq L.l+1)*48<=_;omega) (by simp only[maxLen];omega) fun ao68 c68 g68 o68=>ba Nm rfl (aJ qk 2 rfl (stp 0 3 rfl rfl rfl rfl (ci (.inl qk) (aM qk 0 rfl (acG (WL.drop (WL.drop (WL.drop (ar 0 rfl (aC (x:=((j+1:Nat):Int)) qo) (fin 1 rfl ?_))))))))))))
  have le23:=le2.trans le3;exact bw (x:=((j,L,D),[],em)) ((j+1,{ L with w:=V.1,l:=L.l++[e] },V.2.1),[_,_,_,_,_,_],K66) ⟨I,I,I,I,trivial⟩ I I ⟨aH,hw,hb2.up aH,oD1.up aH,hcode,le1.trans le23,⟨wb,hb',eb,aV,cV,aD,cD,ao68,c68,wh',hh,eh,g68,dh',by rw[aah];rfl,hW'.le le3,hH.le le23,hE.le le23,by rw[aah];exact o68,hD'.le le3,xV.le le23,xD.le le23⟩⟩ aH
 refine au ?_;obtain rfl:j=eq x:=qo
 rw[aaY] at hw;have hw:(L,D,(0:Int))=R:=hw;refine au ?_;rw[<-hw];exact ah I I ⟨le1,[_,_,_,_,_,_],I,hm,I⟩
end
section
theorem kG:∀ (x:List af) (i t:Nat),cH i t x=0->∀ j e,x[j]?=some e->e.idx=i+j+1
 | [],_,_,_,j,e,h=>by simp at h
 | a::r,i,t,h,j,e,he=>by
  rw[cH] at h
  split at h
  ·cases h
  rename_i h1;have ha:a.idx=i+1:=qo
  cases j with
  | zero=>simp at he;subst he;omega
  | succ j=>
   have:=kG r _ _ h j e (by simpa using he);omega
def lw{i t:Nat}{x:List af}(h:eA i t x=0):cH i t x=0:=by
 grind [eA]
theorem mh(s:aX)(l:List af):∀ (x:List af) (b:Bool),(skp s l x b).1 <:+ x
 | [],b=>abh _
 | e::r,b=>by
  unfold skp
  split
  ·exact abh _
  exact (mh s l r true).trans<|List.suffix_cons e r
def pH(s:aX)(l:List af)(e:af)(r:List af)(b:Bool):skp s l (e::r) b=if (trm s l e.idx).2=false\/(trm s l e.idx).1≠e.term then (e::r,(trm s l e.idx).2) else skp s l r true:=rfl
def I6(s:aX)(l:List af)(i:Nat):(ei s l i).getD 0<=eq l:=by
 grind [ei]
def bp.wc{c d:Nat}{L:Lg}(o:bp c L){W:Wl}(h:cy d W)(hcd:c<=d)(k:Int):bp d { L with w:=W,code:=k }:=
 ⟨h,o.hard,o.head,o.kt,o.kv,o.idx,o.st,o.vot,o.data,by have:=o.place;dsimp only;omega,by have:=o.fr;dsimp only;omega,by have:=o.len;dsimp only;omega,o.ents⟩
theorem bp.cutAt{c:Nat}{L:Lg}(o:bp c L)(i:Nat)(D:Dk):bp (c+1) (L.cutAt i (L.w.truncate i D).1):=
 ⟨o.w.truncate i D,o.hard,o.head,o.kt,o.kv,o.idx,o.st,o.vot,o.data,by have:=o.place;unfold Lg.cutAt;dsimp only;omega,by have:=o.fr;unfold Lg.cutAt;dsimp only;omega,by have:=o.len;grind [Lg.cutAt],fun y hy=>o.ents y (aaW hy)⟩
theorem bp.append{c:Nat}{L:Lg}(o:bp c L){D:Dk}(d:aP c D)(x:List af)(hx:∀ e∈x,e.idx<=ac/\e.term<=ac)(hc:c+12*eq x<=999999990):bp (c+12*eq x) (L.append x D).1/\aP (c+12*eq x) (L.append x D).2.1:=by
 unfold Lg.append
 split
 ·exact ⟨o.up qo,d.up qo⟩
 split
 ·exact ⟨o.up qo,d.up qo⟩
 rename_i h;have hok:=mq (Decidable.not_not.1 h);exact bp.app1 x L D c o d (fun e he=>⟨hok e he,hx e he⟩) hc
theorem bp.merge3{c:Nat}{L:Lg}(o:bp c L){D:Dk}(d:aP c D)(x:List af)(last:Nat)(hx:∀ e∈x,e.idx<=ac/\e.term<=ac)(hc:c+12*eq x<=999999990):bp (c+12*eq x) (L.merge3 x last D).1/\aP (c+12*eq x) (L.merge3 x last D).2.1:=by
 have:=o.append d x hx hc;unfold Lg.merge3
 split <;> exact this
theorem bp.merge2{c:Nat}{L:Lg}(o:bp c L){D:Dk}(d:aP c D)(x:List af)(last:Nat)(hx:∀ e∈x,e.idx<=ac/\e.term<=ac)(hc:c+2+12*eq x<=999999990):bp (c+2+12*eq x) (L.merge2 x last D).1/\aP (c+2+12*eq x) (L.merge2 x last D).2.1:=by
 have hsuf:=mh L.sn L.l x true;have hmem:∀ e∈(skp L.sn L.l x true).1,e.idx<=ac/\e.term<=ac:=fun e he=>hx e (hsuf.subset he);have hlen:=hsuf.length_le;unfold Lg.merge2
 split
 ·have:=o.merge3 d [] last Nm (by simp;omega);exact ⟨this.1.up (by simp;omega),this.2.up (by simp;omega)⟩
 rename_i e r h;rw[h] at hmem hlen;have hie:e.idx<18446744073709551616:=by grind [ac]
 have kZ:=d.truncate o.w qo e.idx hie
 split
 ·split
  ·exact ⟨(o.wc (o.w.truncate e.idx D) qo _).up qo,kZ.up qo⟩
  have:=((o.cutAt e.idx D).up (show c+1<=c+2 by omega)).merge3 kZ (e::r) last hmem qo;exact ⟨this.1.up qo,this.2.up qo⟩
 have:=o.merge3 d (e::r) last hmem qo;exact ⟨this.1.up qo,this.2.up qo⟩
theorem bp.merge1{c:Nat}{L:Lg}(o:bp c L){D:Dk}(d:aP c D)(i t:Nat)(x:List af)(last:Nat)(hx:∀ e∈x,e.idx<=ac/\e.term<=ac)(hc:c+2+12*eq x<=999999990):bp (c+2+12*eq x) (L.merge1 i t x last D).1/\aP (c+2+12*eq x) (L.merge1 i t x last D).2.1:=by
 unfold Lg.merge1
 split
 ·exact ⟨o.up qo,d.up qo⟩
 exact o.merge2 d x last hx hc
theorem bp.merge{c:Nat}{L:Lg}(o:bp c L){D:Dk}(d:aP c D)(i t:Nat)(x:List af)(hx:∀ e∈x,e.idx<=ac/\e.term<=ac)(hc:c+2+12*eq x<=999999990):bp (c+2+12*eq x) (L.merge i t x D).1/\aP (c+2+12*eq x) (L.merge i t x D).2.1:=by
 have h0:bp (c+2+12*eq x) L/\aP (c+2+12*eq x) D:=⟨o.up qo,d.up qo⟩;unfold Lg.merge
 split
 ·exact h0
 split
 ·exact h0
 split
 ·split
  ·exact h0
  split
  ·exact h0
  have:=o.merge1 d L.sn.idx L.sn.term (x.drop (L.sn.idx-i)) (i+eq x) (fun e he=>hx e (aaM he)) (by rw[aak];omega);exact ⟨this.1.up (by rw[aak];omega),this.2.up (by rw[aak];omega)⟩
 exact o.merge1 d i t x _ hx hc
def trm_le{c:Nat}{L:Lg}(hb:bp c L)(i:Nat):(trm L.sn L.l i).1<=ac:=by
 unfold trm
 split
 ·exact hb.st
 split
 ·omega
 cases hg:L.l[i-L.sn.idx-1]? with
 | none=>exact aad _
 | some e=>exact (hb.ents e (aao hg)).2.2
end
section
def DV(r:Nat×Bool×Int):Value:=.tuple #[.int .u64 r.1,.bool r.2.1,.int .i64 r.2.2]
def tQ{L:Lg}{x:List af}{B:Bool}{last:Nat}{D:Dk}(h:skp L.sn L.l x true=([],B)):L.merge2 x last D=L.merge3 [] last D:=by
 unfold Lg.merge2
 split
 ·rfl
 rename_i h2;rw[h] at h2;cases h2
def tq{L:Lg}{x:List af}{e:af}{r:List af}{B:Bool}{last:Nat}{D:Dk}(h:skp L.sn L.l x true=(e::r,B)):L.merge2 x last D=if B=true then
    (if (L.w.truncate e.idx D).2.2≠0 then ({ L with w:=(L.w.truncate e.idx D).1,code:=(L.w.truncate e.idx D).2.2 },(L.w.truncate e.idx D).2.1,0,false,(L.w.truncate e.idx D).2.2)
     else (L.cutAt e.idx (L.w.truncate e.idx D).1).merge3 (e::r) last (L.w.truncate e.idx D).2.1)
   else L.merge3 (e::r) last D:=by
 unfold Lg.merge2
 split
 ·rename_i h2;rw[h] at h2;cases h2
 rename_i e' r' h2;rw[h] at h2 ⊢;cases h2
 rfl
def IZ{w0:World}{K:PH}{m hs:List PH}(lb db:Nat)(L:Lg)(D:Dk)(c:Nat)(hb:bp c L)(oD:aP c D)(hm:dF K lb db L D m)(i t:Nat)(hi:i<=ac)(ht:t<=ac)(ao:Option Addr)(cap:Nat)(x:List af)(xs:dn 4 (dB K) K ao (eq x) cap x)(hx:∀ e∈x,ke e)(hc:c+2+12*eq x<=999999000):
  aj w0 143 [Nr lb,.int .u64 (i:Nat),.int .u64 (t:Nat),.slice ao (eq x) cap] K (m++hs)
   (fun u K' hs'=>Le K K'/\∃ m',hs'=m'++hs/\dF K' lb db (L.merge i t x D).1 (L.merge i t x D).2.1 m'/\u=DV (L.merge i t x D).2.2):=by
 have hm0:=hm;obtain ⟨wb,hb',eb,aV,cV,aD,cD,aL,cL,wh,hh,eh,gl,dh,rfl,hW,hH,hE,hG,hD,xV,xD⟩:=hm;have hidx:=hb.idx;have hlen:=hb.len;unfold bH at hidx;obtain ⟨R,hR⟩:=be (L.merge i t x D);rw[<-hR];unfold Lg.merge at hR;refine enter Tryz.func143 qk I I I (acI (fin 3 I (acE (a9 3 0 I I I (ai 0 I fun b21 h21=>fin 0 I (th (ax h21 I (fun e2=>?_) (fun e2=>?_))))))))
 ·rw[aab e2] at hR;refine sq (bG [pt lb (df wb db hb' eb L (.slice aV (eq L.sn.vot) cV) (.slice aD (eq L.sn.data) cD) (.slice aL (eq L.l) cL)) 119] 7 [0,2,4,6,8,10,12] Nm qk qk (bS qk 3 0 I I I (aM qk 3 I (acK (rT ?_)))));rw[hR];exact eJ I I I I ⟨Le.refl _,[_,_,_,_,_,_],I,hm0,I⟩
 rw[aaa e2] at hR;have hcode:=Decidable.not_not.1 e2;refine sk (acF (cl 3 I (z7 i t hi ht ao cap x xs hx qo) ?_));rintro v29 K29 hs29 ⟨rfl,rfl,rfl⟩;refine fin 1 I (acE (ai 1 I fun b31 h31=>fin 0 I (th (ax h31 I (fun e4=>?_) (fun e4=>?_)))))
 ·rw[aab e4] at hR;refine acI (fin 4 I (acK (rT ?_)));rw[hR];exact eJ I I I I ⟨Le.refl _,[_,_,_,_,_,_],I,hm0,I⟩
 rw[aaa e4] at hR;have hfol:=lw (Decidable.not_not.1 e4)
 have hlast:i+eq x<=ac:=by
  rcases abx (eq x) with h|h
  ·omega
  obtain ⟨e,he⟩:∃ e,x[eq x-1]?=some e:=⟨x[eq x-1],aai qo⟩;have h1:=kG x i t hfol _ e he;have h2:=(hx e (aao he)).1;omega
 obtain ⟨last,hla⟩:=be (i+eq x);rw[<-hla] at hR hlast;unfold ac at hi ht hlast;refine sk (acF (ar 3 I (bL (x:=((eq x:Nat):Int)) qo) (ar 0 I (v':=.int .u64 (last:Nat)) (by rw[show ((i:Nat):Int)+((eq x:Nat):Int)=((last:Nat):Int) from qo];exact bL qo) ?_)))
 refine fin 1 I (th (jn (σ:=(Nat×Nat×List af)×(Option Addr×Nat)) (fun s=>[(0,Nr lb),(1,.int .u64 s.1.1),(2,.int .u64 s.1.2.1),(3,.slice s.2.1 (eq s.1.2.2) s.2.2),(12,.int .u64 (last:Nat))])
  (fun _=>[pt lb (df wb db hb' eb L (.slice aV (eq L.sn.vot) cV) (.slice aD (eq L.sn.data) cD) (.slice aL (eq L.l) cL)) 119,wh,hh,eh,gl,dh]++hs)
  (fun s=>L.merge1 s.1.1 s.1.2.1 s.1.2.2 last D=R/\s.1.1<=18446744073709551615/\dn 4 (dB K29) K29 s.2.1 (eq s.1.2.2) s.2.2 s.1.2.2/\(∀ e∈s.1.2.2,ke e)/\eq s.1.2.2<=eq x) ?_ ?_))
 ·refine acI (a9 5 0 I I I (ai 0 I fun b44 h44=>fin 0 I<|th (ax h44 I (fun e6=>?_) (fun e6=>?_))))
  ·rw[aab qo] at hR;refine sq (acI (a9 5 0 I I I (ai 0 I fun b51 h51=>fin 0 I (th (ax h51 I (fun e8=>?_) (fun e8=>?_))))))
   ·rw[aab qo] at hR;refine acI (fin 4 I (acK (rT (jr ?_))));rw[hR];exact eJ I I I I ⟨Le.refl _,[_,_,_,_,_,_],I,hm0,I⟩
   rw[aaa qo] at hR;obtain ⟨y,hy⟩:=be (x.drop (L.sn.idx-i));have hyl:eq y=eq x-(L.sn.idx-i):=by rw[hy,aak]
   have ysl:=xs.cut (L.sn.idx-i) qo;rw[<-hyl,<-hy] at ysl;rw[<-hy] at hR;have hyx:∀ e∈y,ke e:=fun e he=>hx e (by rw[hy] at he;exact aaM he);have hcap:eq x<=cap:=by obtain ⟨_,hh⟩:=xs.isS;exact hh.2.1
   refine sk (acF (a9 5 0 I I I (ar 1 I (Dc qo qo) (mV 0 (L.sn.idx-i) (eq y) I I (by show ((eq x:Nat):Int)=_;omega) qo (fin 1 rfl (th (sq (bG [pt lb (df wb db hb' eb L (.slice aV (eq L.sn.vot) cV) (.slice aD (eq L.sn.data) cD) (.slice aL (eq L.l) cL)) 119] 12 [0,2,4,6,8,10,12,14,16,18,20,22] Nm qk qk (bS qk 4 0 rfl rfl rfl (bS qk 4 0 rfl rfl rfl (aM qk 2 rfl (acF ?_))))))))))));cases y with
   | nil=>
    rw[aaa Nm] at hR;exact bh 2 I (fun h=>absurd h Nm) (fun _=>fin 8 I (th (bY I (sk (jx ((L.sn.idx,L.sn.term,[]),(_,_)) ⟨hR.symm,aH,ysl,Nm,aad _⟩ ⟨rfl,rfl,rfl,rfl,rfl,trivial⟩ rfl rfl)))))
   | cons e r=>
    obtain ⟨zs,hzs⟩:=ysl.isS;obtain ⟨a,ha⟩:=ysl.addr Nm Nn;have ysl2:=ysl;rw[ha] at ysl2 hzs ⊢;obtain ⟨cc,⟨ae,ce,rfl,xe⟩,_,hcell⟩:=ysl2.cells (i:=0) (x:=e) rfl;refine bh 2 I (fun _=>fj 2 0 I I hzs Nm Nn fun a77 h77=>?_) (fun h=>absurd (show ((0:Int)<((eq (e::r):Nat):Int)) by simp) h);cases h77;refine ld 1 I (.inl I) (hcell 1 _ I) (ai 1 I fun b81 h81=>fin 1 I (th (ax h81 I (fun e12=>?_) (fun e12=>?_))))
    ·rw[aab (by simp;omega)] at hR;refine acI (fin 3 I (acK (jr ?_)));rw[hR];exact eJ I I I I ⟨Le.refl _,[_,_,_,_,_,_],I,hm0,I⟩
    rw[aaa (by simp;omega)] at hR;exact sk (jx ((L.sn.idx,L.sn.term,e::r),(_,_)) ⟨hR.symm,aH,ysl2,hyx,aH⟩ sb rfl rfl)
  rw[aaa qo] at hR;exact sk (jx ((i,t,x),(ao,cap)) ⟨hR.symm,hi,xs,hx,aac _⟩ ⟨I,I,I,I,I,trivial⟩ I I)
 clear hR hfol hla hi ht xs hx e4;clear h31;rintro ⟨⟨i,t,y⟩,⟨ao,cap⟩⟩ ⟨hR,hi,xs,hx,hyl⟩;dsimp only at *;unfold Lg.merge1 at hR;refine acI (cl 2 I (mp lb db L D c hb qo hm0 i qo) ?_);rintro v86 K86 hs86 ⟨rfl,rfl,rfl⟩;obtain ⟨T,hTT⟩:=be (trm L.sn L.l i);rw[<-hTT] at hR ⊢;obtain ⟨u,b⟩:=T;dsimp only at hR;refine fin 5 I (acE (dE 1 (b=false) I (by cases b <;> simp) fun b90 h90=>?_))
 refine' dx (q:=u≠t) 1 4 95 [90,91] h90 I I I I I I I (fun _=>?x13) (fun b95 h95=>?_)
 case x13=>
  exact ai 2 I fun b94 h94=>fin 1 I<|bK (h94.trans qo) I I I
 refine fin 0 I<|th (ax h95 I (fun e15=>?_) (fun e15=>?_))
 ·rw[aab e15] at hR;refine acI (cl 2 I (Lm lb db L D c hb qo hm0 i qo) ?_);rintro v98 K98 hs98 ⟨rfl,rfl,rfl⟩;refine fin 3 I (acK (rT ?_));rw[<-hR];exact eJ I I I I ⟨Le.refl _,[_,_,_,_,_,_],I,hm0,I⟩
 rw[aaa e15] at hR;obtain ⟨X,B,hXB⟩:∃ X B,skp L.sn L.l y true=(X,B):=⟨_,_,rfl⟩;have hXs:X <:+ y:=by have:=mh L.sn L.l y true;rw[hXB] at this;exact this
 have hXl:=hXs.length_le;have hXe:∀ e∈X,ke e:=fun e he=>hx e (hXs.subset he);obtain rfl:b=true:=by cases b with|true=>rfl|false=>exact absurd (.inl rfl) e15
 refine sk (th (jn (σ:=Option Addr×Nat) (fun s=>[(0,Nr lb),(3,.slice s.1 (eq X) s.2),(12,.int .u64 (last:Nat)),(14,.bool B)])
  (fun _=>[pt lb (df wb db hb' eb L (.slice aV (eq L.sn.vot) cV) (.slice aD (eq L.sn.data) cD) (.slice aL (eq L.l) cL)) 119,wh,hh,eh,gl,dh]++hs)
  (fun s=>dn 4 (dB K86) K86 s.1 (eq X) s.2 X) ?_ ?_))
 ·refine bk ?_
  refine loop (σ:=(List af×Bool)×(Option Addr×Nat)) (fun s=>[(0,Nr lb),(3,.slice s.2.1 (eq s.1.1) s.2.2),(12,.int .u64 (last:Nat)),(14,.bool s.1.2)]) (fun _=>K86)
   (fun _=>[pt lb (df wb db hb' eb L (.slice aV (eq L.sn.vot) cV) (.slice aD (eq L.sn.data) cD) (.slice aL (eq L.l) cL)) 119,wh,hh,eh,gl,dh]++hs)
   (fun s=>skp L.sn L.l s.1.1 s.1.2=(X,B)/\dn 4 (dB K86) K86 s.2.1 (eq s.1.1) s.2.2 s.1.1/\(∀ e∈s.1.1,ke e)/\eq s.1.1<=eq y) (fun s=>eq s.1.1)
   ((y,true),(ao,cap)) ⟨hXB,xs,hx,aac _⟩ ⟨rfl,rfl,rfl,rfl,trivial⟩ rfl rfl ?_
  rintro ⟨⟨z,B0⟩,⟨az,cz⟩⟩ ⟨hz,zs,hze,hzl⟩;dsimp only at *;refine sq (acI ?_);cases z with
  | nil=>
   have hz:(([],B0):List af×Bool)=(X,B):=hz;cases hz;exact bh 2 I (fun h=>absurd h Nm) (fun _=>fin 0 I (th (bY I (ex (xt (xt (xb (jx (az,cz) zs sb I I))))))))
  | cons e r=>
   rw[pH] at hz;obtain ⟨ws,hws⟩:=zs.isS;obtain ⟨a,rfl⟩:=zs.addr Nm Nn;obtain ⟨cc,⟨ae,ce,rfl,xe⟩,_,hcell⟩:=zs.cells (i:=0) (x:=e) rfl;obtain ⟨q1,q2,q3⟩:=hze e Nm;unfold ac at q1 q2;refine bh 2 I (fun _=>fin 0 I (th (cU I (sk (th (bk (acI (fj 2 0 I I hws Nm Nn fun a105 h105=>?_)))))))) (fun h=>absurd (show ((0:Int)<((eq (e::r):Nat):Int)) by simp) h);cases h105;refine ld 1 I (.inl I) (hcell 0 _ I) (cl 0 I (mp lb db L D c hb qo hm0 e.idx qo) ?_);rintro v108 K108 hs108 ⟨rfl,rfl,rfl⟩;obtain ⟨V,hV⟩:=be (trm L.sn L.l e.idx);rw[<-hV] at hz ⊢;obtain ⟨v,b'⟩:=V;dsimp only at hz;refine fin 5 I (acE (dE 1 (b'=false) I (by cases b' <;> simp) fun b112 h112=>?_))
   refine' dx (q:=v≠e.term) 1 7 120 [112,113] h112 I I I I I I I (fun _=>?x18) (fun b120 h120=>?_)
   case x18=>
    refine fj 2 0 I I hws Nm Nn fun a116 h116=>?_;cases h116;exact ld 1 I (.inl I) (hcell 1 _ I) (ai 0 I fun b119 h119=>fin 1 I (bK (h119.trans qo) I I I))
   refine fin 0 I<|th (ax h120 I (fun e20=>?_) (fun e20=>?_))
   ·rw[aab e20] at hz;cases hz;exact ex (xt (xn I (xt (xb (jx (_,cz) zs ⟨I,I,I,I,trivial⟩ I I)))))
   rw[aaa e20] at hz;obtain rfl:b'=true:=by cases b' with|true=>rfl|false=>exact absurd (.inl rfl) e20
   refine sk (acH ?_);have hcz:eq (e::r)<=cz:=hws.2.1;refine mV 1 1 (eq r) I I (by show ((eq (e::r):Nat):Int)=_;simp;omega) (by simp at hcz;omega) (fin 1 rfl (bl ?_));have zs2:=zs.cut 1 Nm;exact bw (x:=((e::r,B0),(none,0))) ((r,true),(_,_)) ⟨I,I,I,I,trivial⟩ I I ⟨hz,zs2,fun y hy=>hze y (by simp[hy]),by dsimp only;simp only[aan] at hzl;omega⟩ Nm
 clear xs;rintro ⟨az,cz⟩ zs;dsimp only at *;have hR3:∀ (L':Lg) (D':Dk),bp (c+2) L'->aP (c+2) D'->True:=fun _ _ _ _=>trivial
 refine jR (σ:=(Lg×Dk)×List PH×PH) (fun _=>[(0,Nr lb),(3,.slice az (eq X) cz),(12,.int .u64 (last:Nat))]) (fun s=>s.2.2) (fun s=>s.2.1++hs)
  (fun s=>s.1.1.merge3 X last s.1.2=R/\bp (c+2) s.1.1/\aP (c+2) s.1.2/\Le K86 s.2.2/\dF s.2.2 lb db s.1.1 s.1.2 s.2.1) ?_ ?_
 ·refine acI ?_;cases X with
  | nil=>
   rw[tQ hXB] at hR;refine bh 2 I (fun h=>absurd h Nm) (fun _=>fin 3 I (th (bY I (sk ?_))));exact fb ((L,D),[_,_,_,_,_,_],_) ⟨hR,hb.up qo,oD.up qo,Le.refl _,hm0⟩ ⟨I,I,I,trivial⟩ I I
  | cons e r=>
   rw[tq hXB] at hR;obtain ⟨q1,q2,q3⟩:=hXe e Nm;have q1':=q1;unfold ac at q1 q2;refine bh 2 I (fun _=>?_) (fun h=>absurd (show ((0:Int)<((eq (e::r):Nat):Int)) by simp) h);cases B with
   | false=>
    rw[aaa Nm] at hR;refine fin 3 I (th (bY I (sk ?_)));exact fb ((L,D),[_,_,_,_,_,_],_) ⟨hR,hb.up qo,oD.up qo,Le.refl _,hm0⟩ ⟨I,I,I,trivial⟩ I I
   | true=>
    rw[aab rfl] at hR;obtain ⟨ws,hws⟩:=zs.isS;obtain ⟨a,rfl⟩:=zs.addr Nm Nn;obtain ⟨cc,⟨ae,ce,rfl,xe⟩,_,hcell⟩:=zs.cells (i:=0) (x:=e) rfl;obtain ⟨V,hV⟩:=be (L.w.truncate e.idx D);have hbc:=hb.cutAt e.idx D;have hdc:=oD.truncate hb.w qo e.idx qo;rw[<-hV] at hR hbc hdc;refine fin 3 I (th (cU I (sq (sq (bG [pt lb (df wb db hb' eb L (.slice aV (eq L.sn.vot) cV) (.slice aD (eq L.sn.data) cD) (.slice aL (eq L.l) cL)) 119] 9 [0,2,4,6,8,10,12,14,16,19,21,22] Nm qk qk (bP qk 4 0 I qk I I (bt qk 1 0 I I Nm (DB qk 1 I qk (.inl I) (hcell 0 _ I) (aJ qk 0 I (cl 0 I (Ct.at2 1 4 I I (IA wb db L.w hW D c oD qo hb.w hD e.idx qo)) ?_))))))))));rintro v138 K138 hs138 ⟨wh',dh',rfl,le2,hW',hD',rfl⟩;rw[<-hV] at hW' hD' ⊢;refine ci (.inl qk) (aJ qk 0 I (cl 0 I (j9 lb wb db hb' eb L _ _ _ _) ?_))
    rintro v139 K139 hs139 ⟨_,rfl,rfl,rfl,rfl⟩;have ed:eT L.code V.2.2=V.2.2:=by unfold eT;rw[aab hcode]
    rw[ed];refine ci (.inl qk) (dC qk 0 (V.2.2≠0) I Nm fun b140 h140=>aM qk 0 I (th (ax h140 I (fun e24=>?_) (fun e24=>?_))))
    ·rw[aab e24] at hR;refine sq (bG [pt lb (df wb db hb' eb { L with code:=V.2.2 } (.slice aV (eq L.sn.vot) cV) (.slice aD (eq L.sn.data) cD) (.slice aL (eq L.l) cL)) 119] 7 [0,2,4,6,8,10,12] Nm qk qk (bS qk 3 0 I I I (aM qk 3 I (acK (rT (MW ?_))))));rw[<-hR];exact eJ I I I I ⟨le2,[_,_,_,_,_,_],I,⟨wb,hb',eb,aV,cV,aD,cD,aL,cL,wh',hh,eh,gl,dh',I,hW',hH.le le2,hE.le le2,hG.imp fun _ _ h=>h.le le2,hD',xV.le le2,xD.le le2⟩,I⟩
    have e24:=Decidable.not_not.1 e24;rw[aaa (by rw[e24];simp)] at hR;have eL:({ L with code:=V.2.2 }:Lg)=L:=by rw[e24,<-hcode]
    rw[eL]
    have hm2:dF K139 lb db { L with w:=V.1 } V.2.1 [pt lb (df wb db hb' eb L (.slice aV (eq L.sn.vot) cV) (.slice aD (eq L.sn.data) cD) (.slice aL (eq L.l) cL)) 119,wh',hh,eh,gl,dh']:=
     ⟨wb,hb',eb,aV,cV,aD,cD,aL,cL,wh',hh,eh,gl,dh',rfl,hW',hH.le le2,hE.le le2,hG.imp fun _ _ h=>h.le le2,hD',xV.le le2,xD.le le2⟩
    have hbw:bp (c+1) { L with w:=V.1 }:=by have:=hb.wc (hb.w.truncate e.idx D) (aau c) L.code;rw[<-hV] at this;exact this
    refine sk (acF (fj 2 0 I I (hws.le le2) Nm Nn fun a148 h148=>?_));cases h148;refine ld 1 I (.inl I) ((hcell 0 _ I).le le2) (cl 0 I (qg lb db { L with w:=V.1 } V.2.1 (c+1) hbw qo hm2 e.idx qo) ?_);rintro v151 K151 hs151 ⟨rfl,rfl,rfl⟩;have hkl:=I6 L.sn L.l e.idx;obtain ⟨k,hk⟩:=be ((ei L.sn L.l e.idx).getD 0);have hcG:=hG.caps;refine fin 5 I (acH (a9 4 0 I I I ?_));rw[<-hk] at hkl;refine mV 1 0 k I I (by show (((ei L.sn L.l e.idx).getD 0:Nat):Int)=_;rw[<-hk];simp) qo (stp 2 0 rfl rfl rfl rfl ?_);obtain ⟨gl3,hg3,hG3⟩:=hG.cut 0 k qo;refine fin 0 I (WQ.loss 4 gl3 I hg3 ?_);have hln:eq (L.l.take k)=k:=by rw[aam];omega
    refine fb ((L.cutAt e.idx V.1,V.2.1),[_,_,_,_,_,_],_) ⟨hR,hbc.up qo,hdc,le2,⟨wb,hb',eb,aV,cV,aD,cD,dm aL cL 0 4,cL-0,wh',hh,eh,gl3,dh',?_,hW',hH.le le2,hE.le le2,?_,hD',xV.le le2,xD.le le2⟩⟩ ⟨I,I,I,trivial⟩ I I
    ·unfold Lg.cutAt;dsimp only;rw[<-hk,hln];rfl
    unfold Lg.cutAt;dsimp only;rw[<-hk,hln];have:=hG3.imp (R':=dB K151) fun _ _ h=>h.le le2
    rwa [abs] at this
 clear hR;rintro ⟨⟨L',D'⟩,m',K'⟩ ⟨hR,hb2,oD2,le2,hm2⟩;dsimp only at *;unfold Lg.merge3 at hR;refine acI (cl 2 I (AC lb db L' D' (c+2) hb2 oD2 hm2 az cz X (zs.le le2 fun _ _ h=>h.le le2) hXe qo) ?_);rintro v165 K165 hs165 ⟨le3,m3,rfl,hm3,rfl⟩;refine fin 1 I (acE (ai 1 I fun b167 h167=>fin 0 I (th (ax h167 I (fun e26=>?_) (fun e26=>?_)))))
 ·rw[aab e26] at hR;refine acI (fin 4 I (acK (rT ?_)));rw[<-hR];exact eJ I I I I ⟨le2.trans le3,m3,I,hm3,I⟩
 rw[aaa e26] at hR;refine sk (acF (fin 4 I (acK ?_)));rw[<-hR];exact eJ I I I I ⟨le2.trans le3,m3,I,hm3,I⟩
end
section
def sM(ao:Option Addr)(n i:Nat):List Value:=[.slice (dm ao (64*i+min 64 (n-64*i)) (64*i) 1) (min 64 (n-64*i)) (min 64 (n-64*i))]
def chk(ao:Option Addr)(n:Nat):List (List Value):=(List.range ((n+63) / 64)).map (sM ao n)
theorem u6(ao:Option Addr)(n:Nat):eq (chk ao n)=(n+63) / 64:=by simp[chk]
def BL(ao:Option Addr){n i:Nat}(h:i<(n+63) / 64):(chk ao n)[i]?=some (sM ao n i):=by simp[chk,h]
def aw.sub3{h:PH}{ao:Option Addr}{n cap:Nat}{xs:List Value}(x:aw h ao n cap 1 xs)(L N:Nat)(hN:L+N<=n):aw h (dm ao (L+N) L 1) N N 1 ((xs.drop L).take N):=by
 have hl:eq xs=n:=by have:=x.1;omega
 rcases abx N with h0|h0
 ·subst h0;rw[abI];exact aw.nil _ _ _ _
 refine ⟨by rw[aam,aak];omega,aac _,fun j v hv=>?_⟩;have hj:j<N:=by have:=(aax.1 hv).1;rw[aam] at this;omega
 rw[aba hj,abb] at hv;obtain ⟨a,rfl,hc⟩:=x.2.2 _ v hv;refine ⟨a.add (L*1),by rw[dm,aaa qo];rfl,?_⟩;rw[Deep.add_add,aaf];exact hc
section joinx
variable {P:Program} {w0:World} {Q:Exit->Act->World->Prop} {n:Nat} {l:Sl} {K:PH} {hs:List PH} {r:Option Nat} {ds:List Deferred}
def JZ(ds:List Deferred)(w0:World){σ:Type}(F:σ->Sl)(HK:σ->PH)(H:σ->List PH)(J:σ->Prop)(n:Nat)(Q:Exit->Act->World->Prop):Exit->Act->World->Prop
 | .normal,a',w=>∃ s a,J s/\a'=wd ds a/\Ag n (F s) a/\a7 w0 w (HK s) (H s)
 | e,a,w=>Q e a w
def MX{σ:Type}{x y:Code}(F:σ->Sl)(HK:σ->PH)(H:σ->List PH)(J:σ->Prop)(h1:WX P w0 r ds x (JZ ds w0 F HK H J n Q) n l K hs)(h2:∀ s,J s->WX P w0 r ds y Q n (F s) (HK s) (H s)):WX P w0 r ds (.seq x y) Q n l K hs:=
 cI fun a w ha hw=>wpIn_mono (h1 a w ha hw) (fun e a w h=>by
  cases e with
  | normal=>obtain ⟨s,a1,hJ,rfl,ha,hw⟩:=h;exact h2 s hJ a1 w ha hw
  | _=>exact h)
def D5{σ:Type}{F:σ->Sl}{HK:σ->PH}{H:σ->List PH}{J:σ->Prop}(s:σ)(hJ:J s)(hF:jz l (F s))(hK:K=HK s)(hH:hs=H s):cW ds w0 (JZ ds w0 F HK H J n Q) .normal n l K hs:=
 fun a w ha hw=>⟨s,a,hJ,rfl,ha.sub hF,by rw[<-hK,<-hH];exact hw⟩
end joinx
theorem Az{K:PH}:∀ {css:List (List Value)} {l:List af},dY (dB K) css l->∀ u∈css.flatten,u.oneCell'=true
 | [],[],_,u,hu=>by simp at hu
 | c::css,x::l,h,u,hu=>by
  rw[abc,aaj] at hu;rcases hu with hu|hu
  ·obtain ⟨ao,cap,rfl,_⟩:=h.1;simp[af.v] at hu;rcases hu with rfl|rfl|rfl|rfl <;> rfl
  exact Az h.2 u hu
 | _::_,[],h,_,_=>h.elim
 | [],_::_,h,_,_=>h.elim
def Lh(ao:Option Addr)(n c:Nat):aj w0 206 [.slice ao n c,.int .i64 64] K hs
  (fun v K' hs'=>Le K K'/\hs'=hs/\∃ b2 b3,v=.func (.func 248) #[] #[Nr b2,Nr b3]/\cC K' ⟨b2,0,none⟩ (.slice ao n c)/\cC K' ⟨b3,0,none⟩ (.int .i64 64)):=by
 refine ent Tryz.func206 ?_;refine acI (bx 0 I fun b2=>bx 0 I fun b3=>au ?_);exact bh 0 I (fun h=>absurd h Nn) (fun _=>fin 0 I (th (bY I (sk (acF (fin 2 I (acK (WQ.frz fun K1 l1 l2=>WQ.frz fun K2 l3 l4=>ah I I ⟨l1.trans l3,I,b2,b3,I,(cC.pt I).le l4,((cC.pt I).le l2).le l3⟩))))))))
def Lf(b2 b3:Nat)(ao:Option Addr)(n c:Nat)(hn:n<=1099511627776)(hnc:n<=c):wJ Tryz.prog w0 248 [Nr b2,Nr b3] (chk ao n)
  (fun K _=>cC K ⟨b2,0,none⟩ (.slice ao n c)/\cC K ⟨b3,0,none⟩ (.int .i64 64)):=by
 intro L St Sp hRd hY K hs h0;refine Dz Tryz.func248 ?_;refine au ?_;refine rW (σ:=Nat×PH×List PH) (fun s=>[(0,.func (.yield L) #[] #[]),(1,Nr b2),(2,Nr b3),(4,.int .i64 (64*s.1:Nat))]) (fun s=>s.2.1) (fun s=>s.2.2) (fun s=>s.1<=(n+63) / 64/\St s.1 s.2.1 s.2.2) (fun s=>(n+63) / 64-s.1) (0,K,hs) ⟨aad _,h0⟩ ⟨I,I,I,I,trivial⟩ I I ?_;rintro ⟨i,K,hs⟩ ⟨hi,hst⟩;dsimp only at *;obtain ⟨c1,c2⟩:=hRd i K hs hst;refine cI (cI (ey (ld 1 I (.inl I) c1 (bh 1 I (fun e2=>?_) (fun e2=>?_)))))
 ·refine au ?_;have hil:i<(n+63) / 64:=qo
  obtain ⟨N,hN⟩:=be (min 64 (n-64*i));refine au ?_;refine n5 [] 7 [0,2,4,6,8,10,12] Nm qk qk (jS qk 0 I (.inl I) c2 (jS qk 0 I (.inl I) c1 (mK qk 1 (64*i) (n-64*i) I I I (by show ((n:Nat):Int)=_;omega) qo ?_)))
  refine bA qk 1 I (v':=.int .i64 (N:Nat)) (by
   congr 1
   rw[hN]
   split <;> omega) ?_
  refine aM qk 1 I<|dc (da<|cI (wN<|gQ.cut 10 (ld 1 I (.inl I) c1<|ar 3 I (aC (x:=((64*i+N:Nat):Int)) qo) (ar 2 I (aC (x:=((64*i+N:Nat):Int)) qo)<|wu 0 (64*i) N (64*i+N) I I I I (aac _) qo (fin 0 I<|wD ?_)))))
  have hv:(chk ao n)[i]?=some [.slice (dm ao (64*i+N) (64*i) 1) N (64*i+N-64*i)]:=by
   rw[BL ao hil,sM,<-hN,abR]
  refine wL I (hY i _ K hs hv hst) ?_;rintro v17 K17 hs17 (⟨rfl,hn'⟩|⟨rfl,hp⟩)
  ·refine gQ.fin (au ?_);obtain ⟨c1',c2'⟩:=hRd (i+1) K17 hs17 hn';exact ld 1 I (.inl I) c2' (ar 0 I (v':=.int .i64 ((64*(i+1):Nat):Int)) (by rw[aC qo];congr 1) (fin 1 rfl (dc (rR (x:=(i,K,hs)) (i+1,K17,hs17) sb rfl rfl ⟨aH,hn'⟩ aH))))
  refine gQ.fin (au ?_);exact vK I (.inr hp)
 refine au ?_;obtain rfl:i=(n+63) / 64:=qo
 exact vW I (.inl (by rw[u6];exact hst))
def JP{hv:PH}(ao:Option Addr)(n c:Nat)(l:List af)(hm:In K hs hv)(x:dn 4 (dB K) hv ao n c l)(hl:n<=1000000000000):aj w0 208 [.slice ao n c] K hs
  (fun v K' hs'=>K'=K/\∃ h' ao' c',hs'=h'::hs/\v=.slice ao' n c'/\dt 4 51 (dB K) h' ao' n c' l):=by
 cases ao with
 | none=>
  obtain rfl:n=0:=by
   rcases abx n with h|h
   ·exact h
   obtain ⟨a,ha⟩:=x.addr h Nn;cases ha
  have hl0:l=[]:=aaZ x.len.symm;subst hl0;refine cB Tryz.func208 ?_;exact dE 1 True I Nm fun b4 h4=>fin 0 I (th (ax h4 I (fun e2=>acI (fin 1 I (acK (rT (WQ.em (ah I I ⟨I,em,none,0,I,I,dt.nil _ _⟩)))))) (fun e2=>absurd trivial e2)))
 | some a=>
  obtain rfl:=x.len;obtain ⟨css,hn,hS,hal,hcl⟩:=x;refine cB Tryz.func208 ?_;refine dE 1 False I Nm fun b4 h4=>fin 0 I (th (ax h4 I (fun e2=>e2.elim) (fun e2=>sk (acF (lit 0 #[] I Nn qk fun b5=>app 1 0 I I (aZ.ofPt (c:=#[]) (n:=0) Nm (by simp[maxLen])) (In.cons hm) hS I Nn (Az hal) (by show (0+eq l)*48<=_;omega) (by simp[maxLen];omega) fun ao7 c7 g7 o7=>au ?_)))));have e:0+eq l=eq l:=aaI _;rw[e] at o7;exact ah I (by rw[e];rfl) ⟨rfl,g7,ao7,c7,rfl,rfl,css,rfl,.inl (by simpa using o7),hal,hcl⟩
end
section
def rJ{fn:Func}{n:Nat}{l:Sl}{T:bg}[hT:bc P T](j:Nat){u tu b2 ty2:Nat}{k:UK}{x:Value}{fr2:Nat×Nat}(hr:fn.results=#[.cell u tu])(hu:look l u=some (Nr b2))(hj:hs[j]?=some (pt b2 #[x] ty2 fr2))
  (hk:asc T.kinds tu=some k) (h1:k.one=true):∀ a w,Ag n l a->a7 w0 w K hs->(results fn a.tmps).run P w=.ok x w:=by
 intro a w ha hw
 have h3:(loadVar tu ⟨b2,0,none⟩).run P w=.ok x w:=by
  have:=nh (P:=P) (w:=w) hk h1 (a:=⟨b2,0,none⟩) (v:=x) (hw.cell (.inr ⟨j,hj⟩) (cC.pt rfl))
  simp_all [Instr.loadAt,Instr.sureAddr]
 simp[results,hr,ha.slot u _ hu,asAddr,h3]
def pL(place f n:Nat)(b:List UInt8)(D:Dk):lgW place (f+1) n b D=if b=[] then (D,0)
  else if (D.write (bu place) n (b.take 64)).2≠0 then D.write (bu place) n (b.take 64)
  else lgW place f (n+1) (b.drop 64) (D.write (bu place) n (b.take 64)).1:=rfl
def CS{m:List PH}(lb db:Nat)(L:Lg)(D:Dk)(c:Nat)(hb:bp c L)(hc:c<=999000000)(oD:aP c D)(hm:dF K lb db L D m)(hcode:L.code=0)(s:aX)(hsi:s.idx<=bH)(hlt:L.sn.idx<s.idx)(hst:s.term<=ac)(hsd:eq s.data<=2097152)(hsv:eq s.vot<=1000)
  (aS:Option Addr) (cS:Nat) (aT:Option Addr) (cT:Nat) (xS:aw K aS (eq s.vot) cS 1 (iv s.vot)) (xT:aw K aT (eq s.data) cT 1 (bv s.data)) (fr:Nat) (hfr:fr<18446744073709551616):
  aj w0 159 [Nr lb,.agg (cP s aS cS aT cT),.int .u64 (fr:Nat)] K (m++hs)
   (fun u K' hs'=>Le K K'/\∃ m',hs'=m'++hs/\dF K' lb db (L.lay s fr D).1 (L.lay s fr D).2.1 m'/\u=.int .i64 (L.lay s fr D).2.2):=by
 have hm0:=hm;obtain ⟨wb,hb',eb,aV,cV,aD,cD,aL,cL,wh,hh,eh,gl,dh,rfl,hW,hH,hE,hG,hD,xV,xD⟩:=hm;have hpl:=hb.place;have hlen:=hb.len;have hidx:=hb.idx;unfold bH at hpl hidx hsi;obtain ⟨pl,hplE⟩:=be (L.place+1);obtain ⟨R0,hR0⟩:=be (lgW pl (eq s.data+1) 0 s.data D);obtain ⟨R,hR⟩:=be (L.lay s fr D);rw[<-hR];unfold Lg.lay at hR;rw[<-hplE,<-hR0] at hR;have hcapT:eq s.data<=cT:=xT.2.1;refine Dz Tryz.func159 ?_;refine cI (ey (bx 0 I fun b3=>bx 0 I fun b4=>al 0 (.int .i64 0) I qk fun b6=>au ?_));refine ar 1 I (v':=.int .u64 (pl:Nat)) (by grind [bL]) (al 0 (.int .u64 0) I qk fun b8=>au ?_);refine al 0 (.int .i64 0) I qk fun b9=>stp 0 0 I I I I (WL.h 0 (pt b9 #[.int .i64 0] 3) ?_);refine WL.h 1 (pt b8 #[.int .u64 (pl:Nat)] 29) ?_;refine WL.h 2 (pt b6 #[.int .i64 0] 37) ?_;refine WL.h 3 (pt b4 (cP s aS cS aT cT) 48) ?_
 refine WL.h 4 (pt b3 #[Nr lb] 24) ?_;refine au ?_;refine cl 0 I (Lh aT (eq s.data) cT) ?_;rintro v26 K1 hs26 ⟨le1,rfl,d2,d3,rfl,k2,k3⟩;refine au ?_
 refine DS [Nr d2,Nr d3] (chk aT (eq s.data)) (fun K _=>cC K ⟨d2,0,none⟩ (.slice aT (eq s.data) cT)/\cC K ⟨d3,0,none⟩ (.int .i64 64)) I (Lf d2 d3 aT (eq s.data) cT qo hcapT) qk (fun vs hv=>?_) I
  (fun i K' hs'=>Le K1 K'/\∃ D' dh',hs'=pt b9 #[.int .i64 (i:Nat)] 3::pt b8 #[.int .u64 (pl:Nat)] 29::pt b6 #[.int .i64 0] 37::pt b4 (cP s aS cS aT cT) 48::pt b3 #[Nr lb] 24::pt lb (df wb db hb' eb L (.slice aV (eq L.sn.vot) cV) (.slice aD (eq L.sn.data) cD) (.slice aL (eq L.l) cL)) 119::wh::hh::eh::gl::dh'::hs /\
   lgW pl (eq s.data+1-i) i (s.data.drop (64*i)) D'=R0/\aP (c+i) D'/\bN K' db D' dh')
  (fun cc K' hs'=>cc=.ret/\Le K1 K'/\R0.2≠0/\∃ x dh',hs'=x::pt b8 #[.int .u64 (pl:Nat)] 29::pt b6 #[.int .i64 R0.2] 37::pt b4 (cP s aS cS aT cT) 48::pt b3 #[Nr lb] 24::pt lb (df wb db hb' eb { L with code:=R0.2 } (.slice aV (eq L.sn.vot) cV) (.slice aD (eq L.sn.data) cD) (.slice aL (eq L.l) cL)) 119::wh::hh::eh::gl::dh'::hs/\bN K' db R0.1 dh')
  ⟨Le.refl _,D,dh,rfl,hR0.symm,oD,hD.le le1⟩ (fun i K' hs' t u h=>⟨k2.le h.1,k3.le h.1⟩) ?_ ?_ ?_
 ·obtain ⟨y,_,rfl⟩:=aap.1 hv
  rfl
 ·rintro LL i vs K' hs' t u hvs ⟨le2,D',dh',rfl,hw,oD',hD'⟩;have hi:i<(eq s.data+63) / 64:=by grind [u6]
  rw[BL aT hi] at hvs;cases hvs;obtain ⟨b,hbE⟩:=be ((s.data.drop (64*i)).take 64);have hbl:eq b=min 64 (eq s.data-64*i):=by rw[hbE,aam,aak]
  have hb0:s.data.drop (64*i)≠[]:=fun h=>by grind
  have xb:aw K' (dm aT (64*i+eq b) (64*i) 1) (eq b) (eq b) 1 (bv b):=by
   have:=(xT.le (le1.trans le2)).sub3 (64*i) (eq b) qo
   have e:((bv s.data).drop (64*i)).take (eq b)=bv b:=by
    rw[hbE];simp[bv]
   rwa [e] at this
  obtain ⟨f,hf⟩:∃ f,eq s.data+1-i=f+1:=⟨eq s.data-i,qo⟩;obtain ⟨E,hE'⟩:=be (D'.write (bu pl) i b);have oE:=oD'.write (bu pl) i b (by unfold bu;omega);rw[hf,pL,aaa hb0,<-hbE,<-hE'] at hw;rw[<-hE'] at oE;rw[sM,<-hbl];refine au ?_;refine wG (hs':=pt b9 #[.int .i64 (i:Nat)] 3::pt b8 #[.int .u64 (pl:Nat)] 29::pt b6 #[.int .i64 0] 37::pt b4 (cP s aS cS aT cT) 48::pt b3 #[Nr lb] 24::pt lb (df wb db hb' eb L (.slice aV (eq L.sn.vot) cV) (.slice aD (eq L.sn.data) cD) (.slice aL (eq L.l) cL)) 119::wh::hh::eh::gl::dh'::hs) I fun u=>jy (cI (cI (n4 [4,5,1,0] 10 [0,2,4,6,8,10,14,16,13,19,21,22] ?_)));refine dk [] qk 0 0 I qk I I (dk [9,4,3,2] qk 0 0 I qk I I (dk [9] qk 2 1 I qk I I (dk [9,6] qk 0 2 I qk I I (dk [9] qk 0 3 I qk I I (aJ qk 1 I (cl 0 I (pV pl qo) ?_))))))
  rintro v34 K34 hs34 ⟨rfl,rfl,rfl⟩;refine ba Nm I (aJ qk 0 I (cl 0 I (Ct.at 10 I (u9 db D' (c+i) oD'.ok qo hD' (bu pl) i (by unfold bu;omega) _ (eq b) b (.inl rfl) xb)) ?_));rintro v37 K37 hs37 ⟨dh2,rfl,le3,hD2,rfl⟩;rw[<-hE'] at hD2 ⊢;refine eK Nm le3 (au ?_);refine cl 0 I (Ct.at 5 I (j9 lb wb db hb' eb L _ _ _ _)) ?_;rintro v38 K38 hs38 ⟨_,rfl,rfl,rfl,rfl⟩;have ed:eT L.code E.2=E.2:=by unfold eT;omega
  rw[ed];refine au ?_;refine dC qk 0 (E.2≠0) I Nm fun b39 h39=>au ?_;refine oc h39 I (fun e1=>?_) (fun e1=>?_)
  ·rw[aab e1] at hw;refine au ?_;refine Ds (hs':=pt b9 #[.int .i64 (i:Nat)] 3::pt b8 #[.int .u64 (pl:Nat)] 29::pt b6 #[.int .i64 E.2] 37::pt b4 (cP s aS cS aT cT) 48::pt b3 #[Nr lb] 24::pt lb (df wb db hb' eb { L with code:=E.2 } (.slice aV (eq L.sn.vot) cV) (.slice aD (eq L.sn.data) cD) (.slice aL (eq L.l) cL)) 119::wh::hh::eh::gl::dh2::hs) I ?_;rw[<-hw];exact ⟨I,le2.trans le3,e1,_,dh2,I,hD2⟩
  have e1:=Decidable.not_not.1 e1;rw[aaa (by rw[e1];simp)] at hw;have eL:({ L with code:=E.2 }:Lg)=L:=by rw[e1,<-hcode]
  rw[eL];refine au ?_;refine ar 0 I (aC (x:=((i+1:Nat):Int)) qo) (stp 0 0 I I I I (fin 0 I (dc (kx (wx (hs':=pt b9 #[.int .i64 (i+1:Nat)] 3::pt b8 #[.int .u64 (pl:Nat)] 29::pt b6 #[.int .i64 0] 37::pt b4 (cP s aS cS aT cT) 48::pt b3 #[Nr lb] 24::pt lb (df wb db hb' eb L (.slice aV (eq L.sn.vot) cV) (.slice aD (eq L.sn.data) cD) (.slice aL (eq L.l) cL)) 119::wh::hh::eh::gl::dh2::hs) I (⟨le2.trans le3,E.1,dh2,I,?_,oE,hD2⟩))))))
  grind [List.drop_drop]
 ·rintro DD K2 hs' ⟨le2,D',dh',rfl,hw,oD1,hD'⟩;rw[u6] at hw oD1;have fD:s.data.drop (64*((eq s.data+63) / 64))=[]:=List.drop_eq_nil_of_le qo;obtain ⟨f,hf⟩:∃ f,eq s.data+1-(eq s.data+63) / 64=f+1:=⟨eq s.data-(eq s.data+63) / 64,qo⟩;rw[fD,hf,pL,aab rfl] at hw;rw[<-hw] at hR;rw[aaa Nm] at hR;dsimp only at hR;unfold Lg.lay1 at hR;rw[<-hplE] at hR;have le12:=le1.trans le2;obtain ⟨c1,hc1⟩:=be (c+(eq s.data+63) / 64);rw[<-hc1] at oD1;have hc1b:c1<=c+32768:=qo
  obtain ⟨E,hEE⟩:=be (D'.sync (bu pl));have oE:=oD1.sync (bu pl);rw[<-hEE] at hR oE;refine kx (da (WX.perm (hs':=pt b9 #[.int .i64 ((eq (chk aT (eq s.data)):Nat):Int)] 3::pt b8 #[.int .u64 (pl:Nat)] 29::pt b6 #[.int .i64 0] 37::pt b4 (cP s aS cS aT cT) 48::pt b3 #[Nr lb] 24::pt lb (df wb db hb' eb L (.slice aV (eq L.sn.vot) cV) (.slice aD (eq L.sn.data) cD) (.slice aL (eq L.l) cL)) 119::wh::hh::eh::gl::dh'::(hs++[fp DD])) (List.Perm.refl _) (WX.drop (cI (cI (n4 [3,4,0] 8 [0,2,4,6,8,10,13,15,17,18] ?_))))));refine dk [] qk 0 0 I qk I I (dk [7,4,3,2] qk 0 0 I qk I I (dk [7] qk 2 1 I qk I I (dk [7,6] qk 0 2 I qk I I (aJ qk 0 I (cl 0 I (pV pl qo) ?_)))));rintro v52 K52 hs52 ⟨rfl,rfl,rfl⟩;refine ba Nm I (aJ qk 0 I (cl 0 I (Ct.at 9 I (rU db D' c1 oD1.ok qo hD' (bu pl))) ?_))
  rintro v53 K53 hs53 ⟨dh2,rfl,rfl,hD2,rfl⟩;rw[<-hEE] at hD2 ⊢;refine ba Nm I (aJ qk 0 I (cl 0 I (Ct.at 4 I (j9 lb wb db hb' eb L _ _ _ _)) ?_));rintro v54 K54 hs54 ⟨_,rfl,rfl,rfl,rfl⟩;have ed:eT L.code E.2=E.2:=by unfold eT;omega
  rw[ed];refine ci (.inl qk) (dC qk 0 (E.2≠0) I Nm fun b55 h55=>aM qk 0 I (dc (da (oc h55 I (fun e2=>?_) (fun e2=>?_)))))
  ·rw[aab e2] at hR;refine cI (ey (a9 0 3 I I I (a9 2 4 I I I (stp 0 1 I I I I (fin 0 I (dc (da (jQ (oJ (nX DD 4 (hs':=pt b8 #[.int .u64 (pl:Nat)] 29::pt b6 #[.int .i64 E.2] 37::pt b4 (cP s aS cS aT cT) 48::pt b3 #[Nr lb] 24::pt lb (df wb db hb' eb { L with code:=E.2 } (.slice aV (eq L.sn.vot) cV) (.slice aD (eq L.sn.data) cD) (.slice aL (eq L.l) cL)) 119::wh::hh::eh::gl::dh2::hs) I (.inl I) (rJ 1 I I I I I) ?_))))))))));rw[hR];exact ⟨le12,[_,_,_,_,_,_],I,⟨wb,hb',eb,aV,cV,aD,cD,aL,cL,wh,hh,eh,gl,dh2,I,hW.le le12,hH.le le12,hE.le le12,hG.imp fun _ _ h=>h.le le12,hD2,xV.le le12,xD.le le12⟩,I⟩
  have e2:=Decidable.not_not.1 e2;rw[aaa (by rw[e2];simp)] at hR;have eL:({ L with code:=E.2 }:Lg)=L:=by rw[e2,<-hcode]
  rw[eL];clear eL;obtain ⟨E,Ee⟩:=E;dsimp only at hR hD2 oE;clear ed h55;clear hw;refine kX (da (cI (ey (fW 1 [.slice aS (eq s.vot) cS] I qk (.inr ⟨2,I⟩) (np _ I) (cl 0 I (qX aS cS s.vot (.inl I) (xS.le le12) qo) ?_)))));rintro v63 K63 hs63 ⟨rfl,h63,ao63,c63,rfl,rfl,o63⟩;unfold Lg.lay2 at hR;rw[<-hplE] at hR;obtain ⟨ns,hns⟩:∃ ns:List Nat,ns=[s.idx,s.term,pl,eq s.data,fr]:=⟨_,rfl⟩;have hnsl:eq ns=5:=by rw[hns];rfl
  have hnsb:∀ n∈ns,n<18446744073709551616:=by
   grind [ac]
  have hfl:∀ j,eq ((ns.take j).flatMap aI)<=10*5:=fun j=>by
   have:∀ l:List Nat,(∀ n∈l,n<18446744073709551616)->eq (l.flatMap aI)<=10*eq l:=fun l=>by
    induction l with
    | nil=>simp
    | cons a l ih=>
     intro h;have h1:=dH (h a Nm)
     grind
   grind
  refine fin 5 I<|dc (da<|cI (ey<|fin 1 I (dc<|da (cI<|cI (ey<|a9 1 3 I I I (a9 1 3 I I I<|a9 0 1 I I I (a9 1 3 I I I<|ar 1 I (bL (x:=((eq s.data:Nat):Int)) qo) (lit 1 #[.int .u64 s.idx,.int .u64 s.term,.int .u64 (pl:Nat),.int .u64 (eq s.data),.int .u64 (fr:Nat)] I Nn qk fun b76=>fin 2 I<|dc (da<|jy (WX.em ?_))))))))))
  refine rW (σ:=Nat×(Option Addr×Nat×PH)) (fun x=>[(2,.int .u64 (fr:Nat)),(3,Nr b3),(4,Nr b4),(6,Nr b6),(7,.int .u64 L.place),(8,Nr b8),(11,.slice ao63 (eq (ob (bU s.vot))) c63),(13,.slice x.2.1 (eq ((ns.take x.1).flatMap aI)) x.2.2.1),(76,.slice (some ⟨b76,0,none⟩) 5 5),(77,.int .i64 5),(78,.int .i64 x.1)]) (fun _=>K63)
   (fun x=>x.2.2.2::pt b76 #[.int .u64 s.idx,.int .u64 s.term,.int .u64 (pl:Nat),.int .u64 (eq s.data),.int .u64 (fr:Nat)] 29::h63::pt b8 #[.int .u64 (pl:Nat)] 29::pt b6 #[.int .i64 0] 37::pt b4 (cP s aS cS aT cT) 48::pt b3 #[Nr lb] 24::pt lb (df wb db hb' eb L (.slice aV (eq L.sn.vot) cV) (.slice aD (eq L.sn.data) cD) (.slice aL (eq L.l) cL)) 119::wh::hh::eh::gl::dh2::(hs++[fp DD]))
   (fun x=>x.1<=5/\aZ x.2.2.2 x.2.1 (eq ((ns.take x.1).flatMap aI)) x.2.2.1 5 1 (bv ((ns.take x.1).flatMap aI))) (fun x=>5-x.1) (0,(none,0,em)) ⟨qo,aZ.nil _ _⟩ ⟨rfl,rfl,rfl,rfl,rfl,rfl,rfl,rfl,rfl,rfl,rfl,trivial⟩ rfl rfl ?_
  rintro ⟨j,⟨ag,cg,g⟩⟩ ⟨hj,og⟩;dsimp only at *;have hflj:=hfl j;refine cI (ey (ai 0 I fun b79 h79=>fin 0 I (dc (da (cI (oc h79 I (fun e4=>?_) (fun e4=>?_)))))))
  ·have hj5:j<5:=qo
   obtain ⟨n,hn⟩:∃ n,ns[j]?=some n:=⟨ns[j],aai qo⟩;have hnb:=hnsb n (aao hn);have x76:aw (pt b76 #[.int .u64 s.idx,.int .u64 s.term,.int .u64 (pl:Nat),.int .u64 (eq s.data),.int .u64 (fr:Nat)] 29) (some ⟨b76,0,none⟩) 5 5 1 (ik ns):=by rw[hns];exact (aZ.ofPt (n:=5) (size:=1) I Nn).isS
   refine kX (da (cI (jy (cI (ey (dR 0 j I I I x76 (ri hn) fun a80 hc80=>ld 0 I (.inr ⟨1,I⟩) hc80 (fin 1 I (dc (da (ey (cl 2 I (jE ag cg _ n og hnb qo) ?_)))))))))));rintro v84 K84 hs84 ⟨h84,rfl,rfl,ao84,c84,rfl,o84⟩;have etk:(ns.take (j+1)).flatMap aI=(ns.take j).flatMap aI++aI n:=by rw[aaK,hn];simp
   rw[<-etk] at o84 ⊢;exact fin 1 I (dc (kx (da (ey (ar 0 I (aC (x:=((j+1:Nat):Int)) qo) (fin 1 I (dc (rR (x:=(j,(ag,cg,g))) (j+1,(ao84,c84,h84)) sb I I ⟨qo,o84⟩ aH))))))))
  obtain rfl:j=5:=qo
  have ens:(ns.take 5).flatMap aI=aI s.idx++(aI s.term++(aI pl++(aI (eq s.data)++aI fr))):=by rw[hns];simp
  obtain ⟨bb,hbb⟩:=be ((ns.take 5).flatMap aI);have esay:bb++ob (bU s.vot)=Lg.say s pl fr:=by simp_all [Lg.say]
  rw[<-hbb] at og hflj ⊢
  have hcl:eq (ob (bU s.vot))<=1:=by
   unfold bU
   split
   all_goals simp[ob]
  obtain ⟨F,hF⟩:=be (L.head.save 4 E (Lg.say s pl fr));have oF:=oE.save L.head 4 qo (Lg.say s pl fr);have hsl:eq (Lg.say s pl fr)<=51:=by rw[<-esay,aah];omega
  have hHb:=bZ.save_bd hb.head 4 E (Lg.say s pl fr);rw[<-hF] at oF hR hHb;refine sX (mT (mT (sQ (da (cI (cI (n5 [pt b3 #[Nr lb] 24,pt lb (df wb db hb' eb L (.slice aV (eq L.sn.vot) cV) (.slice aD (eq L.sn.data) cD) (.slice aL (eq L.l) cL)) 119] 9 [0,2,4,6,8,10,12,15,17,19,20] Nm qk qk (dk [] qk 0 0 I qk I I (dk [8,4,3,2] qk 0 0 I qk I I (dk [8] qk 2 1 I qk I I (aJ qk 2 I (app 0 0 I I og (.inr ⟨2,I⟩) o63.isS I Nn (fM _) (by grind) (by simp only[maxLen];omega) fun ao93 c93 g93 o93=>?_))))))))))));have o93':aZ g93 ao93 (eq (Lg.say s pl fr)) c93 5 1 (bv (Lg.say s pl fr)):=nP o93 (by rw[<-esay,aah]) (by rw[<-esay,jD]);have elen:eq bb+eq (ob (bU s.vot))=eq (Lg.say s pl fr):=by rw[<-esay,aah]
  rw[elen];refine ba Nm I (aJ qk 0 I (cl 0 I (Ct.at2 10 11 I I (B6 eb db 4 L.head (hE.le le12) hb.head E (c1+1) oE.ok qo hD2 qo (Lg.say s pl fr) ao93 c93 qo (.inr ⟨0,I⟩) o93'.isS)) ?_));rintro v94 K3 hs94 ⟨eh3,dh3,rfl,le3,hE3,hD3,rfl⟩;rw[<-hF] at hE3 hD3 ⊢;have le13:=le12.trans le3;refine eK Nm le3 (aJ qk 0 I (cl 0 I (Ct.at 7 I (j9 lb wb db hb' eb L _ _ _ _)) ?_));rintro v95 K95 hs95 ⟨_,rfl,rfl,rfl,rfl⟩;have ed:eT L.code F.2.2=F.2.2:=by unfold eT;omega
  rw[ed];refine ci (.inl qk) (dC qk 0 (F.2.2≠0) I Nm fun b96 h96=>aM qk 0 I (dc (da (WX.drop (WX.drop (WX.drop (oc h96 I (fun e5=>?_) (fun e5=>?_))))))))
  ·rw[aab e5] at hR;refine cI (ey (a9 0 3 I I I (a9 2 4 I I I (stp 0 1 I I I I (fin 0 I (dc (da (jQ (oJ (nX DD 4 (hs':=pt b8 #[.int .u64 (pl:Nat)] 29::pt b6 #[.int .i64 F.2.2] 37::pt b4 (cP s aS cS aT cT) 48::pt b3 #[Nr lb] 24::pt lb (df wb db hb' eb { L with code:=F.2.2 } (.slice aV (eq L.sn.vot) cV) (.slice aD (eq L.sn.data) cD) (.slice aL (eq L.l) cL)) 119::wh::hh::eh3::gl::dh3::hs) I (.inl I) (rJ 1 I I I I I) ?_))))))))));rw[hR];exact ⟨le13,[_,_,_,_,_,_],I,⟨wb,hb',eb,aV,cV,aD,cD,aL,cL,wh,hh,eh3,gl,dh3,I,hW.le le13,hH.le le13,hE3,hG.imp fun _ _ h=>h.le le13,hD3,xV.le le13,xD.le le13⟩,I⟩
  have e5:=Decidable.not_not.1 e5;rw[aaa (by rw[e5];simp)] at hR;have eL:({ L with code:=F.2.2 }:Lg)=L:=by rw[e5,<-hcode]
  rw[eL];clear eL ed h96;obtain ⟨H,D3,F2⟩:=F;dsimp only at hR oF hHb hE3 hD3 e5;subst e5;unfold Lg.lay3 at hR;have hbH:bp c { L with head:=H }:=⟨hb.w,hb.hard,hHb,hb.kt,hb.kv,hb.idx,hb.st,hb.vot,hb.data,hb.place,hb.fr,hb.len,hb.ents⟩
  have hmH:dF K95 lb db { L with head:=H } D3 [pt lb (df wb db hb' eb L (.slice aV (eq L.sn.vot) cV) (.slice aD (eq L.sn.data) cD) (.slice aL (eq L.l) cL)) 119,wh,hh,eh3,gl,dh3]:=
   ⟨wb,hb',eb,aV,cV,aD,cD,aL,cL,wh,hh,eh3,gl,dh3,rfl,hW.le le13,hH.le le13,hE3,hG.imp fun _ _ h=>h.le le13,hD3,xV.le le13,xD.le le13⟩
  have hG3:=hG.imp (R':=dB K95) fun _ _ h=>h.le le13;refine kX (da (WX.perm (hs':=[pt lb (df wb db hb' eb L (.slice aV (eq L.sn.vot) cV) (.slice aD (eq L.sn.data) cD) (.slice aL (eq L.l) cL)) 119,wh,hh,eh3,gl,dh3]++(pt b8 #[.int .u64 (pl:Nat)] 29::pt b6 #[.int .i64 0] 37::pt b4 (cP s aS cS aT cT) 48::pt b3 #[Nr lb] 24::(hs++[fp DD]))) (aal [_,_,_,_] [_,_,_,_,_,_] (hs++[fp DD])) (cI (ey (a9 0 9 I I I (a9 1 8 I I I (cl 0 I (qg lb db { L with head:=H } D3 c hbH qo hmH s.idx qo) ?_)))))));rintro v105 K105 hs105 ⟨rfl,rfl,rfl⟩;obtain ⟨NL,hNL⟩:=be (if dL L.sn L.l s=true then L.l.drop ((ei L.sn L.l s.idx).getD 0+1) else []);have hNl:eq NL<=eq L.l:=by rw[hNL];split <;> simp
  refine fin 5 I (dc (da (MX (σ:=Option Addr×Nat×PH) (fun _=>[(2,.int .u64 (fr:Nat)),(3,Nr b3),(4,Nr b4),(6,Nr b6),(7,.int .u64 L.place),(8,Nr b8)]) (fun _=>K105)
   (fun x=>pt lb (df wb db hb' eb L (.slice aV (eq L.sn.vot) cV) (.slice aD (eq L.sn.data) cD) (.slice x.1 (eq NL) x.2.1)) 119::wh::hh::eh3::x.2.2::dh3::pt b8 #[.int .u64 (pl:Nat)] 29::pt b6 #[.int .i64 0] 37::pt b4 (cP s aS cS aT cT) 48::pt b3 #[Nr lb] 24::(hs++[fp DD])) (fun x=>dt 4 51 (dB K105) x.2.2 x.1 (eq NL) x.2.1 NL) ?_ ?_)))
  ·refine cI (ey (a9 0 9 I I I (fh 0 8 I I qk (cl 0 I (vT (hv:=K105) lb db { L with head:=H } D3 c hbH qo hmH s qo aS cS aT cT) ?_))));rintro v110 K110 hs110 ⟨rfl,rfl,rfl⟩;refine fin 0 I (dc (da ?_));cases hhas:dL L.sn L.l s with
   | true=>
    rw[aab hhas] at hNL
    obtain ⟨k,hk,hkl⟩:∃ k,ei L.sn L.l s.idx=some k/\k<eq L.l:=by
     unfold dL at hhas;rw[BZ,aaa qo] at hhas;cases h:ei L.sn L.l s.idx with
     | none=>rw[h] at hhas;simp at hhas
     | some k=>exact ⟨k,rfl,(pE h).2.2.2⟩
    have hk0:(ei L.sn L.l s.idx).getD 0=k:=by rw[hk];rfl
    rw[hk0] at hNL;have hNL2:eq NL=eq L.l-(k+1):=by rw[hNL,aak]
    have hcap:=hG3.caps;have xcut:=hG3.slS.cut (k+1) qo;rw[<-hNL,<-hNL2] at xcut;refine qc I (n4 [9,0] 11 [0,2,4,6,8,10,12,14,17,18,20,23] ?_);refine bP qk 0 0 I qk I I (bP qk 0 0 I qk I I (bP qk 2 1 I qk I I (bA qk 1 I (v':=.int .i64 (k+1:Nat)) (by grind [aC]) (mK qk 0 (k+1) (eq NL) I I I (by show ((eq L.l:Nat):Int)=_;omega) qo (aJ qk 0 rfl (cl 0 rfl (JP _ (eq NL) _ NL (.inr ⟨4,rfl⟩) xcut qo) ?_))))));rintro v119 K119 hs119 ⟨rfl,h119,ao119,c119,rfl,rfl,o119⟩;refine ba Nm I (aJ qk 2 I (stp 0 1 I I I I ?_));exact WL.perm (hs':=[_,_,_,_]++(h119::_)) (aaN (l₁:=[_,_,_,_])).symm (ci (.inl qk) (aM qk 0 I (dc (cW.perm (gU _ 5 gl I) (cW.drop (D5 (ao119,c119,h119) o119 ⟨I,I,I,I,I,I,trivial⟩ I I))))))
   | false=>
    rw[aaa (by rw[hhas];simp)] at hNL;refine qd I (ey (a9 0 9 I I I (stp 2 0 I I I I (WL.loss 4 em I (.inr I) (fin 0 I (dc ?_))))));exact D5 (none,0,em) (by rw[hNL];exact dt.nil _ _) ⟨I,I,I,I,I,I,trivial⟩ I (by rw[hNL];rfl)
  rintro ⟨aN,cN,gN⟩ oN;dsimp only at *;have eLd:L.laid s fr H={ L with head:=H,l:=NL,place:=pl,fr:=fr,sn:=s }:=by unfold Lg.laid;rw[<-hNL,<-hplE]
  obtain ⟨G,hGE⟩:=be (D3.free (bu L.place));rw[eLd,<-hGE] at hR;refine cI (n5 [pt b3 #[Nr lb] 24,pt b8 #[.int .u64 (pl:Nat)] 29] 10 [0,2,4,6,8,10,13,14,16,19] Nm qk qk (bP qk 0 0 I qk I I (bP qk 0 0 I qk I I (bP qk 0 1 I qk I I (aJ qk 3 I (stp 0 0 I I I I (ba Nm I (aJ qk 2 I (stp 0 0 I I I I (ba Nm I (aM qk 0 I (dc (da (cI (ey (a9 0 9 I I I (fh 0 8 I I qk (kq 2 0 I I qk (by simp[df,cP]) (fun v hv=>by simp[cP] at hv;rcases hv with rfl|rfl|rfl|rfl <;> rfl) (WL.h 0 (pt lb (df wb db hb' eb { L with head:=H,l:=NL,place:=pl,fr:=fr,sn:=s } (.slice aS (eq s.vot) cS) (.slice aT (eq s.data) cT) (.slice aN (eq NL) cN)) 119) ?_)))))))))))))))))))
  refine fin 0 I (dc (da (cI (n4 [9,8] 9 [0,2,4,6,9,10,12,14,16,19] ?_))));refine bP qk 0 0 I qk I I (bP qk 2 1 I qk I I (aJ qk 0 I (cl 0 I (u5 aS cS s.vot (.inl I) (xS.le le13) qo) ?_)));rintro v141 K4 hs141 ⟨dg,rfl,aV2,cV2,rfl,xV2⟩;refine eK Nm dg (aJ qk 4 I (stp 0 0 I I I I (ba Nm I (aM qk 0 I (dc (da (cI (n4 [9,8] 7 [0,2,4,7,8,10,12,15] ?_))))))));refine bP qk 0 0 I qk I I (bP qk 1 1 I qk I I (aJ qk 0 I ?_));have le14:=le13.trans dg;refine cl 0 I (j4 aT cT s.data (.inl I) (xT.le le14) qo) ?_;rintro v149 K149 hs149 ⟨rfl,h149,aD2,cD2,rfl,rfl,oD2⟩;refine WL.frz fun K5 le5 l5=>?_;have xD2:=oD2.isS.le l5;refine eK Nm le5 (aJ qk 3 I (stp 0 0 I I I I (ba Nm I (aM qk 0 I (dc (da (WX.perm (hs':=pt lb (df wb db hb' eb { L with head:=H,l:=NL,place:=pl,fr:=fr,sn:=s } (.slice aV2 (eq s.vot) cV2) (.slice aD2 (eq s.data) cD2) (.slice aN (eq NL) cN)) 119::wh::hh::eh3::gN::dh3::pt b8 #[.int .u64 (pl:Nat)] 29::pt b6 #[.int .i64 0] 37::pt b4 (cP s aS cS aT cT) 48::pt b3 #[Nr lb] 24::(hs++[fp DD])) (List.Perm.refl _) (cI (n4 [9,0] 8 [0,2,4,6,8,10,13,15,17,19] ?_)))))))))
  refine dk [] qk 0 0 I qk I I (dk [7,4,3,2] qk 0 0 I qk I I (dk [7] qk 2 1 I qk I I (aJ qk 1 I (cl 0 I (pV L.place qo) ?_))));rintro v159 K159 hs159 ⟨rfl,rfl,rfl⟩;refine ba Nm I (aJ qk 0 I ?_);have le45:=dg.trans le5;refine cl 0 I (Ct.at 5 I (p7 db D3 (c1+1+2) oF.ok qo (hD3.le le45) (bu L.place))) ?_;rintro v160 K160 hs160 ⟨dh4,rfl,rfl,hD4,rfl⟩;rw[<-hGE] at hD4 ⊢;refine ba Nm I (aJ qk 0 I (cl 0 I (j9 lb wb db hb' eb { L with head:=H,l:=NL,place:=pl,fr:=fr,sn:=s } _ _ _ _) ?_));rintro v161 K161 hs161 ⟨_,rfl,rfl,rfl,rfl⟩;have ed:eT L.code G.2=G.2:=by unfold eT;omega
  rw[ed];refine ci (.inl qk) (aJ qk 0 I (stp 0 7 I I I I (ci (.inl qk) (aM qk 0 I (dc (da (jQ ?_)))))));refine cW.perm (hs':=[pt b8 #[.int .u64 (pl:Nat)] 29,pt b6 #[.int .i64 G.2] 37,pt b4 (cP s aS cS aT cT) 48,pt b3 #[Nr lb] 24]++([pt lb (df wb db hb' eb { L with head:=H,l:=NL,place:=pl,fr:=fr,sn:=s,code:=G.2 } (.slice aV2 (eq s.vot) cV2) (.slice aD2 (eq s.data) cD2) (.slice aN (eq NL) cN)) 119,wh,hh,eh3,gN,dh4]++(hs++[fp DD]))) (aal [_,_,_,_,_,_] [_,_,_,_] (hs++[fp DD])) (nX DD 4 (hs':=pt b8 #[.int .u64 (pl:Nat)] 29::pt b6 #[.int .i64 G.2] 37::pt b4 (cP s aS cS aT cT) 48::pt b3 #[Nr lb] 24::pt lb (df wb db hb' eb { L with head:=H,l:=NL,place:=pl,fr:=fr,sn:=s,code:=G.2 } (.slice aV2 (eq s.vot) cV2) (.slice aD2 (eq s.data) cD2) (.slice aN (eq NL) cN)) 119::wh::hh::eh3::gN::dh4::hs) I (.inl I) (rJ 1 I I I I I) ?_)
  rw[hR];exact ⟨le13.trans le45,[_,_,_,_,_,_],I,⟨wb,hb',eb,aV2,cV2,aD2,cD2,aN,cN,wh,hh,eh3,gN,dh4,I,(hW.le le13).le le45,(hH.le le13).le le45,hE3.le le45,oN.imp fun _ _ h=>h.le le45,hD4,xV2.le le5,xD2⟩,I⟩
 rintro DD c' K' hs' ⟨rfl,le2,e0,x,dh',rfl,hD'⟩;rw[aab e0] at hR;refine jQ (nX DD 5 (hs':=x::pt b8 #[.int .u64 (pl:Nat)] 29::pt b6 #[.int .i64 R0.2] 37::pt b4 (cP s aS cS aT cT) 48::pt b3 #[Nr lb] 24::pt lb (df wb db hb' eb { L with code:=R0.2 } (.slice aV (eq L.sn.vot) cV) (.slice aD (eq L.sn.data) cD) (.slice aL (eq L.l) cL)) 119::wh::hh::eh::gl::dh'::hs) I (.inl I) (rJ 2 I I I I I) ?_);have le:=le1.trans le2;rw[hR];exact ⟨le,[_,_,_,_,_,_],I,⟨wb,hb',eb,aV,cV,aD,cD,aL,cL,wh,hh,eh,gl,dh',I,hW.le le,hH.le le,hE.le le,hG.imp fun _ _ h=>h.le le,hD',xV.le le,xD.le le⟩,I⟩
end
section
def qx{l:List Int}(h:(bU l).isSome=true):eq l<=7:=by
 unfold bU at h
 split at h
 ·rename_i h1;have:=pq l (-1) h1.2 qo qo;omega
 simp at h
theorem aP.lgW(place:Nat)(hp:bu place<=18446744073709551615):∀ (f n:Nat) (b:List UInt8) (D:Dk) (c:Nat),aP c D->aP (c+(eq b+63) / 64) (lgW place f n b D).1
 | 0,_,_,D,c,o=>o.up qo
 | f+1,n,b,D,c,o=>by
  rw[pL]
  split
  ·exact o.up qo
  rename_i hb;have hbl:0<eq b:=by grind
  have h1:=o.write (bu place) n (b.take 64) qo
  split
  ·exact h1.up qo
  have:=aP.lgW place hp f (n+1) (b.drop 64) _ _ h1
  grind
def zW(L:Lg)(s:aX)(fr:Nat)(D:Dk):(L.lay s fr D).1.code=(L.lay s fr D).2.2:=by
 unfold Lg.lay
 split
 ·rfl
 unfold Lg.lay1
 split
 ·rfl
 unfold Lg.lay2
 split
 all_goals rfl
structure m7 (s:aX):Prop where
 idx:s.idx<=bH
 term:s.term<=ac
 vot:eq s.vot<=7
 data:eq s.data<=2097152
theorem bp.lay{c:Nat}{L:Lg}(o:bp c L)(s:aX)(hs:m7 s)(fr:Nat)(hfr:fr<=cG+(c+1))(D:Dk):bp (c+1) (L.lay s fr D).1:=by
 have hc:∀ k,bp (c+1) { L with code:=k }:=fun k=>o.wc (W:=L.w) (o.w.up (aau c)) (aau c) k;unfold Lg.lay
 split
 ·exact hc _
 unfold Lg.lay1
 split
 ·exact hc _
 unfold Lg.lay2;have hH:=bZ.save_bd o.head 4 ((lgW (L.place+1) (eq s.data+1) 0 s.data D).1.sync (bu (L.place+1))).1 (Lg.say s (L.place+1) fr)
 split
 ·exact ⟨o.w.up (aau c),o.hard,hH,o.kt,o.kv,o.idx,o.st,o.vot,o.data,by have:=o.place;dsimp only;omega,by have:=o.fr;dsimp only;omega,by have:=o.len;dsimp only;omega,o.ents⟩
 unfold Lg.lay3 Lg.laid;refine ⟨o.w.up (aau c),o.hard,hH,o.kt,o.kv,hs.idx,hs.term,hs.vot,hs.data,by have:=o.place;dsimp only;omega,hfr,?_,?_⟩
 ·have:=o.len
  grind
 dsimp only
 split
 ·exact fun e he=>o.ents e<|aaM he
 simp
def aP.layL{c:Nat}{D:Dk}(d:aP c D){L:Lg}(o:bp c L)(hc:c<=999000000)(s:aX)(hs:m7 s)(fr:Nat):aP (c+((eq s.data+63) / 64+4)) (L.lay s fr D).2.1:=by
 have hp:=o.place;unfold bH at hp;have h1:=aP.lgW (L.place+1) (by unfold bu;omega) (eq s.data+1) 0 s.data D c d;unfold Lg.lay
 split
 ·exact h1.up qo
 unfold Lg.lay1;have h2:=h1.sync (bu (L.place+1))
 split
 ·exact h2.up qo
 unfold Lg.lay2;have h3:=h2.save L.head 4 qo (Lg.say s (L.place+1) fr)
 split
 ·exact h3.up qo
 unfold Lg.lay3;exact (h3.free (bu L.place)).up qo
def aP.syncL{c:Nat}{D:Dk}(d:aP c D)(L:Lg):aP (c+1) (L.sync D).2.1:=by
 unfold Lg.sync
 split
 ·exact d.up qo
 exact d.syncW L.w
def sync_code(L:Lg)(D:Dk):(L.sync D).1.code=(L.sync D).2.2:=by
 unfold Lg.sync
 split <;> rfl
def ID(L:Lg)(D:Dk):(L.sync D).1.sn=L.sn/\(L.sync D).1.l=L.l/\(L.sync D).1.fr=L.fr:=by
 unfold Lg.sync
 split <;> exact ⟨rfl,rfl,rfl⟩
def B7{m:List PH}(lb db:Nat)(L:Lg)(D:Dk)(c:Nat)(hb:bp c L)(hc:c<=499900000)(oD:aP c D)(hm:dF K lb db L D m)(s:aX)(hsi:s.idx<18446744073709551616)(hst:s.term<=ac)(hvl:eq s.vot<1099511627776)(hdl:eq s.data<1099511627776)
  (aS:Option Addr) (cS:Nat) (aT:Option Addr) (cT:Nat) (xS:aw K aS (eq s.vot) cS 1 (iv s.vot)) (xT:aw K aT (eq s.data) cT 1 (bv s.data)):
  aj w0 91 [Nr lb,.agg (cP s aS cS aT cT)] K (m++hs)
   (fun u K' hs'=>Le K K'/\∃ m',hs'=m'++hs/\dF K' lb db (L.save s D).1 (L.save s D).2.1 m'/\u=.int .i64 (L.save s D).2.2):=by
 have hm0:=hm;obtain ⟨wb,hb',eb,aV,cV,aD,cD,aL,cL,wh,hh,eh,gl,dh,rfl,hW,hH,hE,hG,hD,xV,xD⟩:=hm;obtain ⟨R,hR⟩:=be (L.save s D);rw[<-hR];unfold Lg.save at hR;refine ent Tryz.func91 ?_;refine acI (bx 0 I fun b3=>?_);refine WL.hs (pt b3 (cP s aS cS aT cT) 48::([_,_,_,_,_,_]++hs)) I ?_;refine WL.perm (aaN (l₁:=[_,_,_,_,_,_])).symm (fin 1 I (acF (fh 1 6 I I qk (cl 0 I (Cx (hv:=K) (hd':=K) lb db L D c hb qo hm0 s hsi aS cS aT cT xS hvl hdl) ?_))));rintro v8 K8 hs8 ⟨rfl,rfl,rfl⟩;refine fin 1 I (th ?_)
 by_cases hf:L.fits s=0
 ·rw[aaa (by rw[hf];simp)] at hR;have hfit:=hf;unfold Lg.fits at hfit
  have hcode:L.code=0:=by
   omega
  rw[aaa qo] at hfit
  have hps:(bU s.vot).isSome=true/\eq s.data<=2097152:=by
   grind
  rw[aaa (by rw[hps.1];simp;exact hps.2)] at hfit
  have hix:L.sn.idx<s.idx/\s.idx<bH:=by
   omega
  have hsB:m7 s:=⟨qo,hst,qx hps.1,hps.2⟩;rw[hf];refine sq (acI (bh 1 I (fun _=>fh 2 6 I I qk (cl 0 I (vT (hv:=K8) lb db L D c hb qo hm0 s hsi aS cS aT cT) ?_)) (fun h=>absurd I h)));rintro v14 K14 hs14 ⟨rfl,rfl,rfl⟩;cases hhas:dL L.sn L.l s with
  | false=>
   rw[aab hhas] at hR;refine fin 2 I (th (cU I (rg (fin 1 I (acE (fin 2 I (th (cU I (acI (fin 2 I (acK (rT (WQ.del 6 I ?_)))))))))))));rw[hR];exact ah I I ⟨Le.refl _,[_,_,_,_,_,_],I,hm0,I⟩
  | true=>
   rw[aaa (by rw[hhas];simp)] at hR;refine fin 2 I (th (bY I (sk (acE (fin 2 I (th (bY I (sk (th ?_)))))))));unfold Lg.save1 at hR;obtain ⟨Y,hY⟩:=be (L.sync D);have hYb:=hb.sync D;have hYd:=oD.syncL L;have hYc:=sync_code L D;obtain ⟨hYs,hYl,hYf⟩:=ID L D;rw[<-hY] at hR hYb hYd hYc hYs hYl hYf;refine sq (sq (bG [pt b3 (cP s aS cS aT cT) 48] 10 [0,3,4,6,8,10,12,14,16,18,21,22,24] Nm qk qk (au ?_)));refine cl 0 I (B3 lb db L D c hb qo oD hm0) ?_;rintro v21 K21 hs21 ⟨rfl,m2,rfl,hm2,rfl⟩;rw[<-hY] at hm2 ⊢;obtain ⟨L2,D2,C2⟩:=Y;dsimp only at hm2 hR hYb hYd hYc hYs hYl hYf;obtain ⟨wb2,hb2',eb2,aV2,cV2,aD2,cD2,aL2,cL2,wh2,hh2,eh2,gl2,dh2,rfl,hW2,hH2,hE2,hG2,hD2,xV2,xD2⟩:=id hm2;refine mM [pt b3 (cP s aS cS aT cT) 48,pt lb (df wb2 db hb2' eb2 L2 (.slice aV2 (eq L2.sn.vot) cV2) (.slice aD2 (eq L2.sn.data) cD2) (.slice aL2 (eq L2.l) cL2)) 119] Nm Nm I (dN qk 0 (C2≠0) I Nm (fun h6=>?_) (fun h6=>?_))
   ·rw[aab h6] at hR;refine aJ qk 7 I (WL.pures 1 I (ci (.inl qk) (aM qk 2 I (th (cU I (acI (a9 3 0 I I I (fin 1 I (acK (rT (WQ.del 6 I ?_)))))))))));rw[hR];exact ah I I ⟨Le.refl _,[_,_,_,_,_,_],I,hm2,by rw[<-hYc];rfl⟩
   have h6:=Decidable.not_not.1 h6;subst h6;rw[aaa Nm] at hR;unfold Lg.save2 at hR;have hfr:=hYb.fr;obtain ⟨Z,hZ⟩:=be (L2.lay s L2.fr D2);have hZb:=hYb.lay s hsB L2.fr qo D2;have hZd:=hYd.layL (hYb.up (aau c)) qo s hsB L2.fr;have hZc:=zW L2 s L2.fr D2;have hdl2:=hsB.data;rw[<-hZ] at hR hZb hZd hZc;refine kT qk 2 0 I qk I qk (bP qk 3 1 I qk I I (aJ qk 0 I ?_));unfold cG at hfr;refine cl 0 I (CS lb db L2 D2 (c+1) (hYb.up (aau c)) qo hYd hm2 hYc s qo (by rw[hYs];exact hix.1) hst hps.2 (by have:=hsB.vot;omega) aS cS aT cT xS xT L2.fr qo) ?_;rintro v30 K30 hs30 ⟨le,m3,rfl,hm3,rfl⟩;rw[<-hZ] at hm3 ⊢;obtain ⟨L3,D3,C3⟩:=Z;dsimp only at hm3 hR hZb hZd hZc;obtain ⟨wb3,hb3',eb3,aV3,cV3,aD3,cD3,aL3,cL3,wh3,hh3,eh3,gl3,dh3,rfl,hW3,hH3,hE3,hG3,hD3,xV3,xD3⟩:=id hm3
   refine au ?_;refine dC qk 0 (C3≠0) I Nm fun b31 h31=>au ?_;refine ax h31 I (fun e7=>?_) (fun e7=>?_)
   ·rw[aab e7] at hR;refine acI (a9 3 0 I I I (fin 1 I (acK (rT (WQ.del 6 I ?_)))));rw[hR];exact ah I I ⟨le,[_,_,_,_,_,_],I,hm3,by rw[<-hZc];rfl⟩
   have e7:=Decidable.not_not.1 e7;subst e7;rw[aaa Nm] at hR;obtain ⟨V,hV⟩:=be (L3.w.compact (s.idx+1) D3);rw[<-hV] at hR;unfold bH at hix;refine sk (th (sq (bG [pt b3 (cP s aS cS aT cT) 48,pt lb (df wb3 db hb3' eb3 L3 (.slice aV3 (eq L3.sn.vot) cV3) (.slice aD3 (eq L3.sn.data) cD3) (.slice aL3 (eq L3.l) cL3)) 119] 9 [0,2,4,6,8,10,12,14,17,19,20] Nm qk qk (dk [8] qk 4 1 I qk I I (dk [8,7] qk 1 0 I qk I I (bA qk 0 I (bL (x:=((s.idx+1:Nat):Int)) qo) (au ?_)))))));refine cl 0 I (Ct.at2 1 4 I I (GN wb3 db L3.w hW3 D3 (c+1+((eq s.data+63) / 64+4)) hZd qo (hZb.w.up qo) (by have:=hZb.w.old;omega) hD3 (s.idx+1) qo)) ?_;rintro v45 K45 hs45 ⟨wh4,dh4,rfl,dg,hW4,hD4,rfl⟩;rw[<-hV] at hW4 hD4 ⊢;refine vX [pt b3 (cP s aS cS aT cT) 48,pt lb (df wb3 db hb3' eb3 L3 (.slice aV3 (eq L3.sn.vot) cV3) (.slice aD3 (eq L3.sn.data) cD3) (.slice aL3 (eq L3.l) cL3)) 119] Nm Nm dg (au ?_)
   refine cl 0 I (j9 lb wb3 db hb3' eb3 L3 _ _ _ _) ?_;rintro v46 K46 hs46 ⟨_,rfl,rfl,rfl,rfl⟩;have ed:eT L3.code V.2.2=V.2.2:=by unfold eT;omega
   rw[ed];refine ci (.inl qk) (aM qk 1 I (acK (WQ.del 6 I ?_)));rw[hR];exact ah I I ⟨le.trans dg,[_,_,_,_,_,_],I,⟨wb3,hb3',eb3,aV3,cV3,aD3,cD3,aL3,cL3,wh4,hh3,eh3,gl3,dh4,I,hW4,hH3.le dg,hE3.le dg,hG3.imp fun _ _ h=>h.le dg,hD4,xV3.le dg,xD3.le dg⟩,I⟩
 rw[aab hf] at hR;refine sq (acI (bh 1 I (fun h=>absurd h hf) (fun _=>au ?_)));refine bh 1 I (fun _=>fin 0 I (th (cU I (acI (fin 2 I (acK (rT (WQ.del 6 I ?_)))))))) (fun h=>absurd hf h);rw[hR];exact ah I I ⟨Le.refl _,[_,_,_,_,_,_],I,hm0,I⟩
def Gy{m:List PH}(lb db:Nat)(L:Lg)(D:Dk)(c:Nat)(hb:bp c L)(hc:c<=499900000)(oD:aP c D)(hm:dF K lb db L D m)(s:aX)(hsi:s.idx<18446744073709551616)(hst:s.term<=ac)(hvl:eq s.vot<1099511627776)(hdl:eq s.data<1099511627776)
  (aS:Option Addr) (cS:Nat) (aT:Option Addr) (cT:Nat) (xS:aw K aS (eq s.vot) cS 1 (iv s.vot)) (xT:aw K aT (eq s.data) cT 1 (bv s.data)):
  aj w0 149 [Nr lb,.agg (cP s aS cS aT cT)] K (m++hs)
   (fun u K' hs'=>Le K K'/\∃ m',hs'=m'++hs/\dF K' lb db (L.install s D).1 (L.install s D).2.1 m'/\u=.int .i64 (L.install s D).2.2):=by
 have hm0:=hm;obtain ⟨wb,hb',eb,aV,cV,aD,cD,aL,cL,wh,hh,eh,gl,dh,rfl,hW,hH,hE,hG,hD,xV,xD⟩:=hm;obtain ⟨R,hR⟩:=be (L.install s D);rw[<-hR];unfold Lg.install at hR;refine enter Tryz.func149 qk I I I (acI (bx 0 I fun b3=>?_));refine WL.hs (pt b3 (cP s aS cS aT cT) 48::([_,_,_,_,_,_]++hs)) I ?_;refine WL.perm (aaN (l₁:=[_,_,_,_,_,_])).symm (fin 1 I (acF (fh 1 6 I I qk (cl 0 I (Cx (hv:=K) (hd':=K) lb db L D c hb qo hm0 s hsi aS cS aT cT xS hvl hdl) ?_))));rintro v8 K8 hs8 ⟨rfl,rfl,rfl⟩;refine fin 1 I (acE (ai 1 I fun b10 h10=>fin 0 I (th (ax h10 I (fun e2=>?_) (fun e2=>?_)))))
 ·rw[aab e2] at hR;refine acI (fin 2 I (acK (rT (WQ.del 6 I ?_))));rw[hR];exact ah I I ⟨Le.refl _,[_,_,_,_,_,_],I,hm0,I⟩
 rw[aaa e2] at hR;have hf:=Decidable.not_not.1 e2;have hfit:=hf;unfold Lg.fits at hfit
 have hcode:L.code=0:=by
  by_cases h:L.code=0
  ·exact h
  rw[aab h] at hfit;exact absurd hfit h
 rw[aaa (by rw[hcode];simp)] at hfit
 have hps:(bU s.vot).isSome=true/\eq s.data<=2097152:=by
  by_cases h:(bU s.vot).isSome=false\/2097152<eq s.data
  ·rw[aab h] at hfit;cases hfit
  have h1:=not_or.1 h;exact ⟨by cases h2:(bU s.vot).isSome with|true=>rfl|false=>exact absurd h2 h1.1,qo⟩
 rw[aaa (by rw[hps.1];simp;exact hps.2)] at hfit
 have hix:L.sn.idx<s.idx/\s.idx<bH:=by
  by_cases h:s.idx<=L.sn.idx\/bH<=s.idx
  ·rw[aab h] at hfit;cases hfit
  omega
 have hsB:m7 s:=⟨qo,hst,qx hps.1,hps.2⟩;refine sk (acE (fh 1 6 I I qk (cl 0 I (vT (hv:=K8) lb db L D c hb qo hm0 s hsi aS cS aT cT) ?_)));rintro v14 K14 hs14 ⟨rfl,rfl,rfl⟩;cases hhas:dL L.sn L.l s with
 | true=>
  rw[aab hhas] at hR;refine fin 0 I (th (cU I (acI (fh 1 6 I I qk (cl 0 I (B7 lb db L D c hb hc oD hm0 s hsi hst hvl hdl aS cS aT cT xS xT) ?_)))));rintro v17 K17 hs17 ⟨le,m2,rfl,hm2,rfl⟩;rw[<-hR] at hm2 ⊢;obtain ⟨wb2,hb2',eb2,aV2,cV2,aD2,cD2,aL2,cL2,wh2,hh2,eh2,gl2,dh2,rfl,_⟩:=id hm2;refine fin 1 I (acK (rT (WQ.del 6 I ?_)));exact ah I I ⟨le,[_,_,_,_,_,_],I,hm2,I⟩
 | false=>
  rw[aaa (by rw[hhas];simp)] at hR;refine fin 0 I (th (bY I (sk (th ?_))));unfold Lg.inst1 at hR;have hnx:=hb.w.next;obtain ⟨Z,hZ⟩:=be (L.lay s L.w.next D);have hZb:=hb.lay s hsB L.w.next qo D;have hZd:=oD.layL hb qo s hsB L.w.next;have hZc:=zW L s L.w.next D;have hdl2:=hsB.data;rw[<-hZ] at hR hZb hZd hZc;unfold cG at hnx;refine sq (sq (bG [pt b3 (cP s aS cS aT cT) 48,pt lb (df wb db hb' eb L (.slice aV (eq L.sn.vot) cV) (.slice aD (eq L.sn.data) cD) (.slice aL (eq L.l) cL)) 119] 7 [0,2,4,6,8,10,13,15,16] Nm qk qk (kT qk 1 0 I qk I qk (dk [6] qk 3 1 I qk I I (aJ qk 0 I (cl 0 I (Ct.keep 1 I (KM wb db L.w hW)) ?_))))));rintro v24 K24 hs24 ⟨rfl,rfl,rfl⟩;refine mM [pt b3 (cP s aS cS aT cT) 48,pt lb (df wb db hb' eb L (.slice aV (eq L.sn.vot) cV) (.slice aD (eq L.sn.data) cD) (.slice aL (eq L.l) cL)) 119] Nm Nm I (aJ qk 0 I (cl 0 I (CS lb db L D c hb qo oD hm0 hcode s qo hix.1 hst hps.2 (by have:=hsB.vot;omega) aS cS aT cT xS xT L.w.next qo) ?_))
  rintro v25 K25 hs25 ⟨le,m3,rfl,hm3,rfl⟩;rw[<-hZ] at hm3 ⊢;obtain ⟨L3,D3,C3⟩:=Z;dsimp only at hm3 hR hZb hZd hZc;obtain ⟨wb3,hb3',eb3,aV3,cV3,aD3,cD3,aL3,cL3,wh3,hh3,eh3,gl3,dh3,rfl,hW3,hH3,hE3,hG3,hD3,xV3,xD3⟩:=id hm3;refine ci (.inl qk) (dC qk 0 (C3≠0) I Nm fun b26 h26=>aM qk 0 I (th (ax h26 I (fun e4=>?_) (fun e4=>?_))))
  ·rw[aab e4] at hR;refine acI (a9 3 0 I I I (fin 1 I (acK (rT (WQ.del 6 I ?_)))));rw[hR];exact ah I I ⟨le,[_,_,_,_,_,_],I,hm3,by rw[<-hZc];rfl⟩
  have e4:=Decidable.not_not.1 e4;subst e4;rw[aaa Nm] at hR;obtain ⟨V,hV⟩:=be (L3.w.reset (s.idx+1) D3);rw[<-hV] at hR;unfold bH at hix;refine sk (th (sq (bG [pt b3 (cP s aS cS aT cT) 48,pt lb (df wb3 db hb3' eb3 L3 (.slice aV3 (eq L3.sn.vot) cV3) (.slice aD3 (eq L3.sn.data) cD3) (.slice aL3 (eq L3.l) cL3)) 119] 9 [0,2,4,6,8,10,12,14,17,19,20] Nm qk qk (dk [8] qk 4 1 I qk I I (dk [8,7] qk 1 0 I qk I I (bA qk 0 I (bL (x:=((s.idx+1:Nat):Int)) qo) (aJ qk 0 I (cl 0 I (Ct.at2 1 4 I I (IL wb3 db L3.w hW3 D3 (c+((eq s.data+63) / 64+4)) hZd qo (hZb.w.up qo) hD3 (s.idx+1) qo)) ?_))))))));rintro v39 K39 hs39 ⟨wh4,dh4,rfl,dg,hW4,hD4,rfl⟩;rw[<-hV] at hW4 hD4 ⊢;refine vX [pt b3 (cP s aS cS aT cT) 48,pt lb (df wb3 db hb3' eb3 L3 (.slice aV3 (eq L3.sn.vot) cV3) (.slice aD3 (eq L3.sn.data) cD3) (.slice aL3 (eq L3.l) cL3)) 119] Nm Nm dg (aJ qk 0 I (cl 0 I (j9 lb wb3 db hb3' eb3 L3 _ _ _ _) ?_))
  rintro v40 K40 hs40 ⟨_,rfl,rfl,rfl,rfl⟩;have ed:eT L3.code V.2.2=V.2.2:=by unfold eT;rw[aab hZc]
  rw[ed];refine ci (.inl qk) (aM qk 1 I (acK (WQ.del 6 I ?_)));rw[hR];exact ah I I ⟨le.trans dg,[_,_,_,_,_,_],I,⟨wb3,hb3',eb3,aV3,cV3,aD3,cD3,aL3,cL3,wh4,hh3,eh3,gl3,dh4,I,hW4,hH3.le dg,hE3.le dg,hG3.imp fun _ _ h=>h.le dg,hD4,xV3.le dg,xD3.le dg⟩,I⟩
end
section
def iy(S:bZ):Option (Nat×Int):=
 if S.num=0 then some (0,-1)
 else if jp (aG 7 (aG ac (S.val,0)).2).2=0 then some ((aG ac (S.val,0)).1,(((aG 7 (aG ac (S.val,0)).2).1:Nat):Int)-1) else none
def mz(D:Dk)(place size:Nat):Nat->Nat->List UInt8->Option (List UInt8)
 | 0,_,acc=>some acc
 | f+1,n,acc=>if eq acc<size then (match D.read (bu place) n with
   | none=>none
   | some b=>mz D place size f (n+1) (acc++b)) else some acc
def la(b:List UInt8):Nat×Rd:=aG bH (b,0)
def kZ(b:List UInt8):Nat×Rd:=aG ac (la b).2
def oX(b:List UInt8):Nat×Rd:=aG bH (kZ b).2
def mX(b:List UInt8):Nat×Rd:=aG 2097152 (oX b).2
def qm(b:List UInt8):Nat×Rd:=aG bH (mX b).2
def oV(b:List UInt8):Nat×Rd:=br (qm b).2
def jk(D:Dk)(S:bZ)(vot0:List Int):Option (aX×Nat×Nat):=
 if S.num=0 then some (⟨0,0,vot0,[]⟩,0,0)
 else if jp (oV S.val).2≠0\/(ft [UInt8.ofNat (oV S.val).1]).isSome=false then none
 else match mz D (oX S.val).1 (mX S.val).1 32769 0 [] with
  | none=>none
  | some d=>some (⟨(la S.val).1,(kZ S.val).1,(ft [UInt8.ofNat (oV S.val).1]).getD [],d.take (mX S.val).1⟩,(oX S.val).1,(qm S.val).1)
def i9:Nat->List (List UInt8)->Option (List af)
 | _,[]=>some []
 | i,b::r=>match fL b with
  | none=>none
  | some e=>if e.idx=i then (i9 (i+1) r).map (e :: ·) else none
def j2(s:aX)(W:Wl):Option (List af):=
 if s.idx+1<W.first\/W.first+eq W.recs<s.idx+1 then none else i9 (s.idx+1) (W.recs.drop (s.idx+1-W.first))
def lgFree(pl:Nat):List Int->Dk->Dk×Int
 | [],D=>(D,0)
 | a::r,D=>if a % 4=2/\a≠((bu pl:Nat):Int) then (if (D.free a).2≠0 then D.free a else lgFree pl r (D.free a).1) else lgFree pl r D
def rM(D:Dk)(kh:Nat×Int)(h:aX×Nat×Nat)(F:Dk):Option Lg×Dk×Int:=
 match (dz F h.2.2 (h.1.idx+1)).1 with
 | none=>(none,(dz F h.2.2 (h.1.idx+1)).2.1,if (dz F h.2.2 (h.1.idx+1)).2.2=52 then 181 else (dz F h.2.2 (h.1.idx+1)).2.2)
 | some w=>match j2 h.1 w with
  | none=>(none,(dz F h.2.2 (h.1.idx+1)).2.1,181)
  | some l=>(some ⟨w,gF D 0,gF D 4,kh.1,kh.2,h.1,h.2.1,h.2.2,l,0⟩,(dz F h.2.2 (h.1.idx+1)).2.1,0)
def rN(D:Dk)(kh:Nat×Int)(h:aX×Nat×Nat):Option Lg×Dk×Int:=
 if (lgFree h.2.1 (aU D) D).2≠0 then (none,lgFree h.2.1 (aU D) D) else rM D kh h (lgFree h.2.1 (aU D) D).1
def fA(D:Dk)(first:List Int):Option Lg×Dk×Int:=
 if (bU first).isSome=false then (none,D,181)
 else if D.dead=true then (none,D,30)
 else match iy (gF D 0) with
  | none=>(none,D,181)
  | some kh=>match jk D (gF D 4) first with
   | none=>(none,D,181)
   | some h=>rN D kh h
def eZ(wp:Option Nat)(db:Nat)(hp ep:Option Nat)(kt:Nat)(kv:Int)(si st:Nat)(vS dS:Value)(pl fr:Nat)(lS:Value)(cd:Int):Array Value:=
 #[.pointer (wp.map fun b=>⟨b,0,none⟩),Nr db,.pointer (hp.map fun b=>⟨b,0,none⟩),.pointer (ep.map fun b=>⟨b,0,none⟩),.int .u64 (kt:Nat),.int .i64 kv,
  .int .u64 (si:Nat),.int .u64 (st:Nat),vS,dS,.int .u64 (pl:Nat),.int .u64 (fr:Nat),lS,.int .i64 cd]
def Gb{hh:PH}(lb db hb:Nat)(wp ep:Option Nat)(si st:Nat)(vS dS:Value)(pl fr:Nat)(lS:Value)(cd:Int)(S:bZ)(hS:iE K hb db 0 S hh)(hbd:S.bd):
  aj w0 54 [Nr lb] K (pt lb (eZ wp db (some hb) ep 0 (-1) si st vS dS pl fr lS cd) 119::hh::hs)
   (fun v K' hs'=>Le K K'/\∃ kt kv,hs'=pt lb (eZ wp db (some hb) ep kt kv si st vS dS pl fr lS cd) 119::hh::hs/\v=.bool (iy S).isSome/\∀ p,iy S=some p->p=(kt,kv)):=by
 unfold iy;obtain ⟨hn,hv⟩:=hbd;refine cB Tryz.func54 ?_;refine cl 0 I (Ct.keep 1 I (zS hb db 0 S hS)) ?_;rintro v8 K8 hs8 ⟨rfl,rfl,rfl⟩;refine bh 0 I (fun e2=>?_) (fun e2=>?_)
 ·refine au ?_;rw[aab qo];refine au ?_;exact ah I I ⟨Le.refl _,0,-1,I,I,fun p hp=>(aaU hp).symm⟩
 refine au ?_;rw[aaa qo];refine au ?_;refine cl 0 I (Ct.at 1 I (AO hb db 0 S hS ⟨hn,hv⟩)) ?_;rintro v14 K14 hs14 ⟨hh,rfl,rfl,le,ao,k,rfl,x⟩;refine cl 0 I (pY ao k S.val (.inl I) x qo) ?_;rintro v15 K15 hs15 ⟨rfl,rb,rd,rh,rfl,rfl,ir⟩;obtain ⟨r1,hr1⟩:∃ r,r=aG ac (S.val,0):=⟨_,rfl⟩;have hl1:=jC ac (S.val,0);have hb1:=fZ ac (S.val,0);rw[<-hr1] at hl1 hb1 ⊢;obtain ⟨r2,hr2⟩:∃ r,r=aG 7 r1.2:=⟨_,rfl⟩;have hb2:=fZ 7 r1.2;rw[<-hr2] at hb2 ⊢;refine au ?_;refine cl 2 I (gc (.inr ⟨0,I⟩) ac (S.val,0) aH ir) ?_;rintro v18 K18 hs18 ⟨rd2,rfl,rfl,rfl,ir2⟩;rw[<-hr1] at ir2 ⊢;refine au ?_;refine cl 2 I (gc (.inr ⟨0,I⟩) 7 r1.2 (by dsimp only at hl1;omega) ir2) ?_;rintro v24 K24 hs24 ⟨rd3,rfl,rfl,rfl,ir3⟩;rw[<-hr2] at ir3 ⊢;refine ar 0 I (aC qo) (ar 0 I (aC qo) (au ?_));refine cl 1 I (sJ r2.2 ir3) ?_;rintro v31 K31 hs31 ⟨rfl,rfl,rfl⟩
 refine ai 0 I fun b32 h32=>fin 1 I<|acK<|WQ.drop (WQ.drop ?_)
 by_cases e:jp r2.2=0
 ·rw[aab e];obtain rfl:b32=true:=h32.2 e;exact ah I I ⟨le,r1.1,_,I,I,fun p hp=>(aaU hp).symm⟩
 rw[aaa e];obtain rfl:b32=false:=by simp_all
 exact ah I I ⟨le,_,_,I,I,fun p hp=>by cases hp⟩
end
section
def tH(D:Dk)(place size f n:Nat)(acc:List UInt8):mz D place size (f+1) n acc=if eq acc<size then (match D.read (bu place) n with
   | none=>none
   | some b=>mz D place size f (n+1) (acc++b)) else some acc:=rfl
def Ga{w0:World}{K eh dh:PH}{hs:List PH}(lb db eb:Nat)(wp hp:Option Nat)(kt:Nat)(kv:Int)(vot0:List Int)(a0:Option Addr)(c0:Nat)(x0:aw K a0 (eq vot0) c0 1 (iv vot0))(lS:Value)(cd:Int)(S:bZ)(hS:iE K eb db 4 S eh)(hbd:S.bd)(D:Dk)(c:Nat)(oD:D.Ok c)(hc:c<=1000000000)(hd:bN K db D dh):
  aj w0 55 [Nr lb] K (pt lb (eZ wp db hp (some eb) kt kv 0 0 (.slice a0 (eq vot0) c0) (.slice none 0 0) 0 0 lS cd) 119::eh::dh::hs)
   (fun v K' hs'=>Le K K'/\∃ sn pl fr aV cV aD cD,hs'=pt lb (eZ wp db hp (some eb) kt kv (aX.idx sn) sn.term (.slice aV (eq sn.vot) cV) (.slice aD (eq sn.data) cD) pl fr lS cd) 119::eh::dh::hs/\v=.bool (jk D S vot0).isSome /\
    aw K' aV (eq sn.vot) cV 1 (iv sn.vot)/\aw K' aD (eq sn.data) cD 1 (bv sn.data)/\∀ p,jk D S vot0=some p->p=(sn,pl,fr)):=by
 unfold jk;obtain ⟨hn,hv⟩:=hbd;refine cB Tryz.func55 ?_;refine cl 0 I (Ct.keep 1 I (zS eb db 4 S hS)) ?_;rintro v15 K15 hs15 ⟨rfl,rfl,rfl⟩;refine bh 0 I (fun e2=>?_) (fun e2=>?_)
 ·refine au ?_;rw[aab qo];refine au ?_;exact ah I I ⟨Le.refl _,⟨0,0,vot0,[]⟩,0,0,a0,c0,none,0,I,I,x0,aw.nil _ _ _ _,fun p hp=>(aaU hp).symm⟩
 refine au ?_;rw[aaa qo];obtain ⟨a1,h1⟩:∃ r,r=la S.val:=⟨_,rfl⟩;obtain ⟨a2,h2⟩:∃ r,r=kZ S.val:=⟨_,rfl⟩;obtain ⟨a3,h3⟩:∃ r,r=oX S.val:=⟨_,rfl⟩;obtain ⟨a4,h4⟩:∃ r,r=mX S.val:=⟨_,rfl⟩;obtain ⟨a5,h5⟩:∃ r,r=qm S.val:=⟨_,rfl⟩;obtain ⟨a6,h6⟩:∃ r,r=oV S.val:=⟨_,rfl⟩;have g1:aG bH (S.val,0)=a1:=h1.symm;have g2:aG ac a1.2=a2:=by rw[h2,h1];rfl
 have g3:aG bH a2.2=a3:=by rw[h3,h2];rfl
 have g4:aG 2097152 a3.2=a4:=by rw[h4,h3];rfl
 have g5:aG bH a4.2=a5:=by rw[h5,h4];rfl
 have g6:br a5.2=a6:=by rw[h6,h5];rfl
 rw[<-h1,<-h2,<-h3,<-h4,<-h5,<-h6];have l1:eq a1.2.1<=48:=by grind [jC]
 have l2:eq a2.2.1<=48:=by grind [jC]
 have l3:eq a3.2.1<=48:=by grind [jC]
 have l4:eq a4.2.1<=48:=by grind [jC]
 have l5:eq a5.2.1<=48:=by grind [jC]
 have m1:a1.1<=bH:=by rw[<-g1];exact fZ _ _
 have m3:a3.1<=bH:=by rw[<-g3];exact fZ _ _
 have m4:a4.1<=2097152:=by rw[<-g4];exact fZ _ _
 have m5:a5.1<=bH:=by rw[<-g5];exact fZ _ _
 clear h1 h2 h3 h4 h5 h6;refine au ?_;refine cl 0 I (Ct.at 1 I (AO eb db 4 S hS ⟨hn,hv⟩)) ?_;rintro v21 K21 hs21 ⟨eh,rfl,rfl,le,ao,k,rfl,x⟩;refine cl 0 I (pY ao k S.val (.inl I) x qo) ?_;rintro v22 K22 hs22 ⟨rfl,rb,rd,rh,rfl,rfl,ir⟩;refine au ?_;refine cl 1 I (gc (.inr ⟨0,I⟩) bH (S.val,0) aH ir) ?_;rintro v24 K24 hs24 ⟨rd1,rfl,rfl,rfl,ir⟩;rw[g1] at ir ⊢;refine cl 1 I (gc (.inr ⟨0,I⟩) ac a1.2 qo ir) ?_;rintro v26 K26 hs26 ⟨rd2,rfl,rfl,rfl,ir⟩;rw[g2] at ir ⊢;refine bd 0 (.agg #[.int .u64 a1.1,.int .u64 a2.1,.slice none 0 0,.slice none 0 0]) I (fun w=>by kernel_rfl) (al 0 (.agg #[.int .u64 0,.int .u64 0,.slice none 0 0,.slice none 0 0]) I qk fun b4=>?_);refine bJ 0 0 I I qk I I ?_;refine fin 0 I (acF (cl 2 I (Ct.at 1 I (gc (.inr ⟨1,I⟩) bH a2.2 qo ir)) ?_));rintro v30 K30 hs30 ⟨rd3,rfl,rfl,rfl,ir⟩
 rw[g3] at ir ⊢;refine au ?_;refine cl 1 I (Ct.at 1 I (gc (.inr ⟨1,I⟩) 2097152 a3.2 qo ir)) ?_;rintro v34 K34 hs34 ⟨rd4,rfl,rfl,rfl,ir⟩;rw[g4] at ir ⊢;refine ar 0 I (aC (x:=((a4.1:Nat):Int)) qo) (au ?_);refine cl 2 I (Ct.at 1 I (gc (.inr ⟨1,I⟩) bH a4.2 qo ir)) ?_;rintro v38 K38 hs38 ⟨rd5,rfl,rfl,rfl,ir⟩;rw[g5] at ir ⊢;refine stp 2 3 I I I I (WL.hs (pt b4 #[.int .u64 a1.1,.int .u64 a2.1,.slice none 0 0,.slice none 0 0] 48::rd5::rh::pt lb (eZ wp db hp (some eb) kt kv 0 0 (.slice a0 (eq vot0) c0) (.slice none 0 0) a3.1 a5.1 lS cd) 119::eh::dh::hs) I (au ?_));refine cl 1 I (Ct.at 1 I (qa (.inr ⟨1,I⟩) a5.2 ir)) ?_;rintro v43 K43 hs43 ⟨rd6,rfl,rfl,rfl,ir⟩;rw[g6] at ir ⊢;have hb6:a6.1<256:=by rw[<-g6];exact qW _
 refine lit 0 #[.int .u8 a6.1] I Nn qk fun b44=>?_;have o44:=l8 b44 a6.1 hb6;refine cl 0 I (q8 (some ⟨b44,0,none⟩) 1 [UInt8.ofNat a6.1] (.inr ⟨0,I⟩) o44.isS Nm) ?_;rintro v45 K45 hs45 ⟨rfl,h45,ao45,c45,rfl,rfl,o45⟩;obtain ⟨C,hC⟩:=be (ft [UInt8.ofNat a6.1]);rw[<-hC] at o45 ⊢;refine al 3 (.agg #[.slice none 0 0]) I qk fun b6=>?_;refine bJ 0 0 I I qk I I ?_;refine WL.hs (pt b6 #[.slice ao45 (eq (C.getD [])) c45] 46::h45::pt b44 #[.int .u8 a6.1] 5::pt b4 #[.int .u64 a1.1,.int .u64 a2.1,.slice none 0 0,.slice none 0 0] 48::rd6::rh::pt lb (eZ wp db hp (some eb) kt kv 0 0 (.slice a0 (eq vot0) c0) (.slice none 0 0) a3.1 a5.1 lS cd) 119::eh::dh::hs) I (au ?_);refine cl 1 I (Ct.keep 4 I (sJ a6.2 ir)) ?_;rintro v49 K49 hs49 ⟨rfl,rfl,rfl⟩;refine ai 0 I fun b50 h50=>?_
 refine' dx (q:=C.isSome=false) 1 3 54 [50,51] h50 I I I I I I I (fun _=>?x4) (fun b54 h54=>?_)
 case x4=>
  exact ai 1 I fun b53 h53=>fin 1 I (bK (h53.trans (by cases C <;> simp[ec])) rfl rfl rfl)
 refine fin 0 I<|th (ax h54 I (fun e6=>?_) (fun e6=>?_))
 ·rw[aab e6];exact acI (fin 1 I (acK (rT (WQ.drop (WQ.drop (WQ.drop (WQ.drop (WQ.drop (WQ.drop (ah I I ⟨le,⟨0,0,vot0,[]⟩,a3.1,a5.1,a0,c0,none,0,I,I,x0.le le,aw.nil _ _ _ _,fun p hp=>by cases hp⟩))))))))))
 rw[aaa e6]
 obtain ⟨cf,rfl⟩:∃ cf,C=some cf:=by
  cases C with
  | none=>exact absurd (.inr rfl) e6
  | some cf=>simp
 have o45:aZ h45 ao45 (eq cf) c45 3 1 (iv cf):=o45;refine sk (acF (fh 0 0 I I qk (kq 1 3 I I qk Nm (fun v hv=>by simp at hv;subst hv;rfl) (WL.drop (WL.frz fun K1 l1 l2=>WL.drop (WL.del 1 rfl (WL.del 1 rfl ?_)))))));have x45:=o45.isS.le l2;have le1:=le.trans l1;refine WL.hs (pt b4 #[.int .u64 a1.1,.int .u64 a2.1,.slice ao45 (eq cf) c45,.slice none 0 0] 48::pt lb (eZ wp db hp (some eb) kt kv 0 0 (.slice a0 (eq vot0) c0) (.slice none 0 0) a3.1 a5.1 lS cd) 119::eh::dh::hs) I (fin 0 I (acE ?_));obtain ⟨R,hR⟩:=be (mz D a3.1 a4.1 32769 0 []);rw[<-hR];refine fin 1 I (th (bk (WC.em ?_)))
 refine loop (σ:=(Nat×List UInt8)×(Option Addr×Nat×PH)×PH) (fun s=>[(0,Nr lb),(4,Nr b4),(5,.int .i64 a4.1),(8,.int .i64 s.1.1)]) (fun s=>s.2.2)
  (fun s=>s.2.1.2.2::pt b4 #[.int .u64 a1.1,.int .u64 a2.1,.slice ao45 (eq cf) c45,.slice s.2.1.1 (eq s.1.2) s.2.1.2.1] 48::pt lb (eZ wp db hp (some eb) kt kv 0 0 (.slice a0 (eq vot0) c0) (.slice none 0 0) a3.1 a5.1 lS cd) 119::eh::dh::hs)
  (fun s=>eq s.1.2=64*s.1.1/\s.1.1<=32768/\mz D a3.1 a4.1 (32769-s.1.1) s.1.1 s.1.2=R/\Le K1 s.2.2/\aZ s.2.1.2.2 s.2.1.1 (eq s.1.2) s.2.1.2.1 5 1 (bv s.1.2)) (fun s=>32769-s.1.1)
  ((0,[]),(none,0,em),K1) ⟨rfl,aad _,hR.symm,Le.refl _,aZ.nil _ _⟩ ⟨rfl,rfl,rfl,rfl,trivial⟩ rfl rfl ?_
 rintro ⟨⟨n,acc⟩,⟨ag,cg,g⟩,K2⟩ ⟨hal,hn2,hw,le2,og⟩;dsimp only at *;have le12:=le1.trans le2;rw[show 32769-n=(32768-n)+1 from qo,tH] at hw;unfold bH at m3 m5 m1;refine au ?_;refine bh 2 I (fun e8=>?_) (fun e8=>?_)
 ·refine au ?_;rw[aab qo] at hw;have hn3:n<32768:=qo
  refine au ?_;refine bG [pt lb (eZ wp db hp (some eb) kt kv 0 0 (.slice a0 (eq vot0) c0) (.slice none 0 0) a3.1 a5.1 lS cd) 119] 16 [0,2,4,6,8,10,12,14,18,17,21,22,24,26,28,30] Nm qk qk (au ?_);refine cl 0 I (pV a3.1 qo) ?_;rintro v73 K73 hs73 ⟨rfl,rfl,rfl⟩;refine ba Nm I (aJ qk 0 I (cl 0 I (Ct.at 4 I (vL db D c oD qo (hd.le le12) (bu a3.1) n)) ?_));rintro v75 K75 hs75 ⟨dh,rfl,rfl,le3,hrd⟩;refine eK Nm le3 ?_;rcases hrd with ⟨hnone,rfl⟩|⟨bs,ab,kb,hsome,hbl,rfl,xb⟩
  ·rw[hnone] at hw;refine aM qk 5 I (acE (fin 2 I (th (cU I (acI (fin 1 I (acK (rT (rB (rT (rT (rB (rT (WQ.drop (WQ.drop ?_)))))))))))))));rw[<-hw];exact ah I I ⟨le12.trans le3,⟨0,0,vot0,[]⟩,a3.1,a5.1,a0,c0,none,0,I,I,x0.le (le12.trans le3),aw.nil _ _ _ _,fun p hp=>by cases hp⟩
  rw[hsome] at hw;dsimp only at hw;refine au ?_;refine app 1 0 I I og (.inl I) xb I Nn (fM _) (by grind) (by simp only[maxLen];omega) fun ao83 c83 g83 o83=>?_;have o83':aZ g83 ao83 (eq (acc++bs)) c83 5 1 (bv (acc++bs)):=nP o83 Nm (by rw[jD]);refine au ?_;refine ar 1 I (aC (x:=((n+1:Nat):Int)) qo) (fin 1 I (bw (x:=((n,acc),(ag,cg,g),em)) ((n+1,acc++bs),(ao83,c83,g83),K75) sb I Nm ⟨by dsimp only;rw[aah];omega,aH,?_,le2.trans le3,o83'⟩ aH))
  simp_all
 refine au ?_;rw[aaa qo] at hw;rw[<-hw];dsimp only;have hcg:=og.isS.2.1;refine au ?_
 refine sl 1 0 a4.1 I og.isS I Nm qo (ys:=bv (acc.take a4.1)) (by
  simp[bv]) fun ao88 c88 x88=>?_
 refine stp 1 1 I I I I (WL.frz fun K3 l3 l4=>?_);have x88':=x88.le l4;have hln:eq (acc.take a4.1)=a4.1:=by rw[aam];omega
 refine WL.hs (pt b4 #[.int .u64 a1.1,.int .u64 a2.1,.slice ao45 (eq cf) c45,.slice ao88 a4.1 c88] 48::pt lb (eZ wp db hp (some eb) kt kv 0 0 (.slice a0 (eq vot0) c0) (.slice none 0 0) a3.1 a5.1 lS cd) 119::eh::dh::hs) I (fin 0 I (acF (fh 1 0 I I qk (kq 2 1 I I qk (by simp[eZ]) (fun v hv=>by simp at hv;rcases hv with rfl|rfl|rfl|rfl <;> rfl) (fin 0 rfl (acF (WL.drop (au ?_))))))));exact ah I I ⟨le12.trans l3,⟨a1.1,a2.1,cf,acc.take a4.1⟩,a3.1,a5.1,ao45,c45,ao88,c88,by dsimp only;rw[hln];rfl,rfl,x45.le (le2.trans l3),by dsimp only;rw[hln];exact x88',fun p hp=>(aaU hp).symm⟩
end
section
def WL.fr{ops:Array Oper}{Q:Exit->Act->World->Prop}{rest:List Oper}{n:Nat}{l:Sl}(i:Nat){h:PH}(hi:hs[i]?=some h)(hk:WL P w0 ops Q rest n l K (h::hs.eraseIdx i)):WL P w0 ops Q rest n l K hs:=fun a w ha hw=>hk a w ha (hw.perm (gU hs i h hi))
def WC.fr{Q:Exit->Act->World->Prop}{n:Nat}{l:Sl}{c:Code}(i:Nat){h:PH}(hi:hs[i]?=some h)(hk:WC P w0 c Q n l K (h::hs.eraseIdx i)):WC P w0 c Q n l K hs:=fun a w ha hw=>hk a w ha (hw.perm (gU hs i h hi))
def WQ.fr{Q:Exit->Act->World->Prop}{e:Exit}{n:Nat}{l:Sl}(i:Nat){h:PH}(hi:hs[i]?=some h)(hk:WQ w0 Q e n l K (h::hs.eraseIdx i)):WQ w0 Q e n l K hs:=fun a w ha hw=>hk a w ha (hw.perm (gU hs i h hi))
def uz(i:Nat)(b:List UInt8)(r:List (List UInt8)):i9 i (b::r)=match fL b with
  | none=>none
  | some e=>if e.idx=i then (i9 (i+1) r).map (e :: ·) else none:=rfl
def EF{w0:World}{K wh:PH}{hs:List PH}(lb db wb:Nat)(hp ep:Option Nat)(kt:Nat)(kv:Int)(s:aX)(hsi:s.idx<=bH)(vS dS:Value)(pl fr:Nat)(cd:Int)(W:Wl)(hW:fV K wb db W wh)(c:Nat)(hb:cy c W)(hc:c<=1000000000):
  aj w0 60 [Nr lb] K (pt lb (eZ (some wb) db hp ep kt kv s.idx s.term vS dS pl fr (.slice none 0 0) cd) 119::wh::hs)
   (fun v K' hs'=>Le K K'/\∃ gl aL cL l,hs'=gl::pt lb (eZ (some wb) db hp ep kt kv s.idx s.term vS dS pl fr (.slice aL (List.length l) cL) cd) 119::wh::hs/\v=.bool (j2 s W).isSome /\
    dt 4 51 (dB K') gl aL (eq l) cL l/\∀ x,j2 s W=some x->x=l):=by
 obtain ⟨R,hR⟩:=be (j2 s W);rw[<-hR];unfold j2 at hR;have hlast:=hb.last;have hrecs:=hb.recs;unfold bn at hlast;unfold bH at hsi;obtain ⟨total,htot⟩:∃ t,t=W.first+eq W.recs:=⟨_,rfl⟩
 have hlv:lR total=if total=0 then 18446744073709551615 else ((total:Nat):Int)-1:=rfl;refine cB Tryz.func60 ?_;refine bG [pt lb (eZ (some wb) db hp ep kt kv s.idx s.term vS dS pl fr (.slice none 0 0) cd) 119] 19 [0,4,6,8,10,12,14,3,16,18,20,24,26,28,30,32,23,34,36] Nm qk qk (au ?_);refine bA qk 0 I (bL (x:=((s.idx+1:Nat):Int)) qo) (au ?_);refine cl 0 I (Ct.keep 1 I (JB wb db W hW)) ?_;rintro v14 K14 hs14 ⟨rfl,rfl,rfl⟩;refine ba Nm I (dN qk 0 (s.idx+1<W.first) I (by simp;omega) (fun h1=>?_) (fun h1=>?_))
 ·rw[aab (.inl h1)] at hR;refine aJ qk 7 I (WL.pures 1 I (ba Nm I (aM qk 2 I (th (cU I (acI (fin 1 I (acK (rT (WQ.em ?_))))))))));rw[hR];exact ah I I ⟨Le.refl _,em,none,0,[],I,I,dt.nil _ _,fun x hx=>by cases hx⟩
 refine au ?_;refine cl 0 I (Ct.keep 1 I (Ce wb db W hW hb.last)) ?_;rintro v24 K24 hs24 ⟨rfl,rfl,rfl⟩;rw[<-htot] at hR ⊢;refine ba Nm I (dC qk 0 (lR total<((s.idx:Nat):Int)) I Nm fun b30 h30=>au ?_);refine ax h30 I (fun e2=>?_) (fun e2=>?_)
 ·rw[aab qo] at hR;refine acI (fin 1 I (acK (rT (WQ.em ?_))));rw[hR];exact ah I I ⟨Le.refl _,em,none,0,[],I,I,dt.nil _ _,fun x hx=>by cases hx⟩
 refine au ?_;refine ar 0 I (bL (x:=((s.idx+1+0:Nat):Int)) qo) (fin 1 I (th (bk (WC.em ?_))))
 have h0:(total=0/\R=none/\0=0)\/(s.idx+1+0<=total/\R=(i9 (s.idx+1+0) (W.recs.drop (s.idx+1-W.first+0))).map (([]:List af) ++ ·)):=by
  rw[hlv] at e2
  by_cases h:total=0
  ·grind
  rw[aaa h] at e2;rw[aaa qo] at hR;refine .inr ⟨qo,?_⟩
  simp_all
 refine loop (σ:=(Nat×List af)×(Option Addr×Nat×PH)×PH) (fun x=>[(0,Nr lb),(3,Nr wb),(4,.int .u64 (s.idx+1+x.1.1:Nat))]) (fun x=>x.2.2)
  (fun x=>x.2.1.2.2::pt lb (eZ (some wb) db hp ep kt kv s.idx s.term vS dS pl fr (.slice x.2.1.1 (eq x.1.2) x.2.1.2.1) cd) 119::wh::hs)
  (fun x=>((total=0/\R=none/\x.1.1=0)\/(s.idx+1+x.1.1<=total/\R=(i9 (s.idx+1+x.1.1) (W.recs.drop (s.idx+1-W.first+x.1.1))).map (x.1.2 ++ ·)))/\eq x.1.2=x.1.1/\Le K24 x.2.2/\dt 4 51 (dB x.2.2) x.2.1.2.2 x.2.1.1 (eq x.1.2) x.2.1.2.1 x.1.2) (fun x=>eq W.recs+1-x.1.1)
  ((0,[]),(none,0,em),K24) ⟨h0,rfl,Le.refl _,dt.nil _ _⟩ ⟨rfl,rfl,rfl,trivial⟩ rfl rfl ?_
 clear h0 hR;rintro ⟨⟨j,l⟩,⟨aL,cL,gl⟩,K1⟩ ⟨hj,hl,le1,oL⟩;dsimp only at *;refine sq (acI (cl 2 I (Ct.keep 2 I (Ce wb db W (hW.le le1) hb.last)) ?_));rintro v40 K40 hs40 ⟨rfl,rfl,rfl⟩;rw[<-htot];refine bh 0 I (fun e4=>?_) (fun e4=>?_)
 ·refine au ?_;obtain ⟨i,hi⟩:=be (s.idx+1+j);have hiB:i<18446744073709551616:=qo
  refine au ?_;refine cl 2 I (Ct.at 2 I (LJ wb db W c hc hb (hW.le le1) (s.idx+1+j) qo)) ?_;rintro v47 K47 hs47 ⟨wh,rfl,rfl,le2,hv⟩;have le12:=le1.trans le2
  obtain ⟨r0,ar0,kr,t0,rfl,xr,hcase⟩:∃ r0 ar0 kr t0,v47=.tuple #[.slice ar0 (List.length r0) kr,.bool t0]/\aw K47 ar0 (eq r0) kr 1 (bv r0)/\((r0=[]/\¬(W.first<=s.idx+1+j/\s.idx+1+j-W.first<eq W.recs))\/(W.first<=s.idx+1+j/\W.recs[s.idx+1+j-W.first]?=some r0)):=by
   rcases hv with ⟨hno,rfl⟩|⟨r,ao,k,h1',h2',rfl,x⟩
   ·exact ⟨[],none,0,false,I,aw.nil _ _ _ _,.inl ⟨I,hno⟩⟩
   grind
  have hr0l:eq r0<=512:=by
   rcases hcase with ⟨h,_⟩|⟨_,h⟩
   ·rw[h];simp
   exact hb.recl r0<|aao h
  have hstep:R=match fL r0 with
    | none=>none
    | some e=>if e.idx=i then (i9 (i+1) (W.recs.drop (s.idx+1-W.first+(j+1)))).map ((l++[e]) ++ ·) else none:=by
   rcases hj with ⟨ht,hRn,_⟩|⟨ht,hRs⟩
   ·rcases hcase with ⟨h,_⟩|⟨_,h⟩
    ·rw[h,hRn];rfl
    grind
   rcases hcase with ⟨_,h⟩|⟨hf,h⟩
   ·omega
   have hk:s.idx+1+j-W.first=s.idx+1-W.first+j:=qo
   rw[hk] at h;have hkl:=(aax.1 h).1;rw[aaF hkl,show W.recs[s.idx+1-W.first+j]=r0 from by simp_all,uz,<-hi] at hRs;rw[hRs];cases fL r0 with
   | none=>rfl
   | some e=>
    dsimp only
    by_cases he:e.idx=i
    ·rw[aab he,aab he];cases i9 (i+1) (W.recs.drop (s.idx+1-W.first+j+1)) with
     | none=>rfl
     | some t=>simp
    rw[aaa he,aaa he];rfl
  refine au ?_;refine cl 1 I (By ar0 kr r0 (.inl I) xr qo) ?_;rintro v52 K52 hs52 ⟨rfl,h52,ao52,c52,rfl,rfl,o52⟩;obtain ⟨oe,hoe⟩:=be (fL r0);rw[<-hoe] at o52 hstep ⊢;refine al 3 (.agg #[.int .u64 0,.int .u64 0,.int .i64 0,.slice none 0 0]) I qk fun b7=>?_;refine bJ 0 0 I I qk I I ?_;refine WL.hs (pt b7 ((oe.getD af.zero).v ao52 c52) 51::h52::gl::pt lb (eZ (some wb) db hp ep kt kv s.idx s.term vS dS pl fr (.slice aL (eq l) cL) cd) 119::wh::hs) I (au ?_);refine ai 1 I fun b56 h56=>?_
  refine' dx (q:=(oe.getD af.zero).idx≠i) 1 5 62 [56,57] h56 I I I I I I I (fun _=>?x6) (fun b62 h62=>?_)
  case x6=>
   refine au ?_;exact ai 1 I fun b61 h61=>fin 1 I (bK (h61.trans qo) I I I)
  refine fin 0 I<|th (ax h62 I (fun e8=>?_) (fun e8=>?_))
  ·have hRn:R=none:=by
    grind [ec]
   refine acI (WL.drop (WL.drop (au ?_)));rw[hRn];exact ah I I ⟨le12,gl,aL,cL,l,I,I,oL.imp fun _ _ h=>h.le le2,fun x hx=>by cases hx⟩
  obtain ⟨e,rfl⟩:∃ e,oe=some e:=by
   cases oe with
   | none=>exact absurd (.inl (by simp[ec])) e8
   | some e=>simp
  have hei:e.idx=i:=by
   grind
  dsimp only at hstep;rw[aab hei] at hstep;have o52:aZ h52 ao52 (eq e.data) c52 5 1 (bv e.data):=o52
  have hjr:j<=eq W.recs:=by
   omega
  have hnt:total≠0:=fun ht=>by
   rcases hcase with ⟨h9,_⟩|⟨_,h9⟩
   ·rw[h9] at hoe;cases hoe
   grind
  have hit:i<total:=qo
  refine sk (th (WC.fr 1 I (WC.frz fun K2 l1 l2=>?_)));have le23:=le2.trans l1;have x52:=o52.isS.le l2;refine WC.perm (hs':=pt b7 (e.v ao52 c52) 51::gl::pt lb (eZ (some wb) db hp ep kt kv s.idx s.term vS dS pl fr (.slice aL (eq l) cL) cd) 119::wh::hs) (List.Perm.refl _) (bG [pt lb (eZ (some wb) db hp ep kt kv s.idx s.term vS dS pl fr (.slice aL (eq l) cL) cd) 119,pt b7 (e.v ao52 c52) 51] 10 [0,2,4,6,8,10,13,15,16,18,21] Nm qk qk (bP qk 4 0 I qk I I (kT qk 0 1 I qk I qk (aJ qk 0 I (lit 0 (e.v ao52 c52) I Nn qk fun b69=>ba Nm I (aJ qk 0 I (mF 0 2 (e.v ao52 c52).toList e I I I (oL.imp fun _ _ h=>h.le le23) ⟨ao52,c52,I,x52⟩ I (by simp[af.v,Value.oneCell']) I Nn (by show (eq l+1)*48<=_;omega) (by simp only[maxLen];omega) fun ao70 c70 g70 o70=>ba Nm rfl (aJ qk 2 rfl (stp 0 3 rfl rfl rfl rfl (ci (.inl qk) (aM qk 0 rfl (acG (WL.drop (WL.drop (ar 1 rfl (bL (x:=((s.idx+1+(j+1):Nat):Int)) qo) (fin 1 rfl (bw (x:=((j,l),(aL,cL,gl),em)) ((j+1,l++[e]),(ao70,c70,g70),K2) sb rfl (by dsimp only;rw[aah];rfl) ⟨.inr ⟨aH,?_⟩,by simp_all,le1.trans le23,by dsimp only;rw[aah];exact o70⟩ aH)))))))))))))))))
  grind
 refine au ?_
 have hfin:R=some l:=by
  rcases hj with ⟨h,hRn,hj0⟩|⟨h,hRs⟩
  ·omega
  grind [List.drop_eq_nil_of_le,i9]
 refine au ?_;rw[hfin];exact ah I I ⟨le1,gl,aL,cL,l,I,I,oL,fun x hx=>(aaU hx).symm⟩
end
section
def qz(pl:Nat)(a:Int)(r:List Int)(D:Dk):lgFree pl (a::r) D=if a % 4=2/\a≠((bu pl:Nat):Int) then (if (D.free a).2≠0 then D.free a else lgFree pl r (D.free a).1) else lgFree pl r D:=rfl
theorem aP.lgFree(pl:Nat):∀ (l:List Int) (D:Dk) (c:Nat),aP c D->aP (c+eq l) (lgFree pl l D).1
 | [],D,c,o=>o
 | a::r,D,c,o=>by
  rw[qz];simp only[aan]
  split
  ·split
   ·exact (o.free a).up qo
   exact (aP.lgFree pl r _ _<|o.free a).up qo
  exact (aP.lgFree pl r D c o).up qo
def yh{D:Dk}{fr first:Nat}:((dz D fr first).1=none->(dz D fr first).2.2≠0)/\(∀ W,(dz D fr first).1=some W->(dz D fr first).2.2=0):=by
 unfold dz
 grind
def Gd{D:Dk}{S:bZ}{v:List Int}{p:aX×Nat×Nat}(h:jk D S v=some p):p.1.idx<=bH/\p.2.1<=bH/\p.2.2<=bH:=by
 unfold jk at h
 split at h
 ·grind
 split at h
 ·cases h
 split at h
 ·cases h
 cases h;exact ⟨fZ _ _,fZ _ _,fZ _ _⟩
def vt{h:PH}(b:Nat)(D:Dk)(c:Nat)(o:D.Ok c)(hc:c<=1099511627)(hm:bN K b D h)(area:Nat):
  aj w0 53 [Nr b,.int .u64 (area:Nat)] K (h::hs)
   (fun v K' hs'=>∃ h' new,hs'=new++h'::hs/\h'=h/\Le K K'/\((D.dead=true/\new=[]/\v=.tuple #[.pointer none,.int .i64 30])\/(D.dead=false/\∃ sb s,new=[s]/\iE K' sb b area (gF D area) s/\v=.tuple #[Nr sb,.int .i64 0]))):=
 (KD b D c o hc hm area).mono fun v K' hs' hR=>by
  rcases hR with ⟨h1,rfl,rfl,rfl⟩|⟨h1,le,sb,s,rfl,hS,rfl⟩
  ·exact ⟨h,[],I,I,Le.refl _,.inl ⟨h1,I,I⟩⟩
  grind
def KB{dh:PH}(db:Nat)(D:Dk)(c:Nat)(oD:aP c D)(hc:c<=400000000)(hd:bN K db D dh)(fr first:Nat)(hfr:fr<18446744073709551616)(hfi:first<18446744073709551616):
  aj w0 59 [Nr db,.int .u64 (fr:Nat),.int .u64 (first:Nat)] K (dh::hs)
   (fun v K' hs'=>∃ h' new,hs'=new++h'::hs/\Le K K'/\bN K' db (dz D fr first).2.1 h'/\(((dz D fr first).1=none/\new=[]/\v=.tuple #[.pointer none,.int .i64 (dz D fr first).2.2]) \/
    (∃ W wb wh,(dz D fr first).1=some W/\new=[wh]/\fV K' wb db W wh/\v=.tuple #[Nr wb,.int .i64 (dz D fr first).2.2]))):=by
 refine Ct.fix2 (KC db D c oD hc hd fr first hfr hfi) ?_;rintro w v K' hs' hS ⟨le,m',dh',rfl,hd',hR⟩;cases hW:(dz D fr first).1 with
 | none=>
  grind
 | some W=>
  rw[hW] at hR;obtain ⟨wb,hM,rfl⟩:=hR;obtain ⟨d,hS'⟩:=a7.join m' hS;exact ⟨K',_,⟨dh',[cZ m'],I,le,hd',.inr ⟨W,wb,cZ m',I,I,⟨m',I,d,hM⟩,I⟩⟩,hS'⟩
def LS(lb:Nat)(wp:Option Nat)(db:Nat)(hp ep:Option Nat)(kt:Nat)(kv:Int)(si st:Nat)(vS dS:Value)(pl fr:Nat)(lS:Value)(cd e:Int):
  aj w0 57 [Nr lb,.int .i64 e] K (pt lb (eZ wp db hp ep kt kv si st vS dS pl fr lS cd) 119::hs)
   (fun v K' hs'=>∃ h',hs'=h'::hs/\K'=K/\h'=pt lb (eZ wp db hp ep kt kv si st vS dS pl fr lS (eT cd e)) 119/\v=.int .i64 (eT cd e)):=by
 unfold eT;refine cB Tryz.func57 ?_;refine bh 0 I (fun e2=>?_) (fun e2=>?_)
 ·refine au ?_;rw[aab e2];refine au ?_;exact ah I I ⟨_,I,I,I,I⟩
 refine au ?_;rw[aaa e2];refine au ?_;exact ah I I ⟨_,I,I,I,I⟩
def KE{dh:PH}(db:Nat)(D:Dk)(c:Nat)(oD:aP c D)(hc:c<=199000000)(hd:bN K db D dh)(first:List Int)(hfl:eq first<=1000000)(aF:Option Addr)(cF:Nat)(xF:aw K aF (eq first) cF 1 (iv first)):
  aj w0 22 [Nr db,.agg #[.slice aF (eq first) cF]] K (dh::hs)
   (fun v K' hs'=>Le K K'/\(((fA D first).1=none/\v=.tuple #[.pointer none,.int .i64 (fA D first).2.2]/\∃ dh',hs'=dh'::hs/\bN K' db (fA D first).2.1 dh') \/
    (∃ L lb m,(fA D first).1=some L/\v=.tuple #[Nr lb,.int .i64 (fA D first).2.2]/\hs'=m++hs/\dF K' lb db L (fA D first).2.1 m))):=by
 obtain ⟨R,hR⟩:=be (fA D first)
 rw[<-hR];unfold fA at hR;have hlen:=oD.len;refine ent Tryz.func22 ?_;refine acI (bx 0 I fun b3=>WL.h 0 (pt b3 #[.slice aF (eq first) cF] 46) (fin 2 I (acE (fh 0 0 I I qk (cl 0 I (B9 aF cF first (.inl I) xF qo) ?_)))));rintro v13 K13 hs13 ⟨rfl,rfl,rfl⟩;cases hps:(bU first).isSome with
 | false=>
  rw[aab hps] at hR;refine fin 1 I (th (cU I (acI (WL.drop (au ?_)))));rw[hR];exact bM I I I ⟨Le.refl _,.inl ⟨I,I,dh,I,hd⟩⟩
 | true=>
  rw[aaa (by rw[hps];simp)] at hR;refine au ?_;refine bd 1 (.agg #[.int .u64 0,.int .i64 (-1)]) I (fun w=>by kernel_rfl) (au ?_);refine cl 0 I (u5 aF cF first (.inl I) xF qo) ?_;rintro v19 K19 hs19 ⟨le1,rfl,a0,c0,rfl,x0⟩;refine bd 0 (.agg #[.slice a0 (eq first) c0]) I (fun w=>by kernel_rfl) (bd 0 (.agg #[.int .u64 0,.int .u64 0,.slice a0 (eq first) c0,.slice none 0 0]) I (fun w=>by kernel_rfl) (bd 0 (.agg (eZ none db none none 0 (-1) 0 0 (.slice a0 (eq first) c0) (.slice none 0 0) 0 0 (.slice none 0 0) 0)) I (fun w=>by kernel_rfl) (bx 0 I fun lb=>WL.h 0 (pt lb (eZ none db none none 0 (-1) 0 0 (.slice a0 (eq first) c0) (.slice none 0 0) 0 0 (.slice none 0 0) 0) 119) (WL.del 1 I ?_))));refine au ?_;refine cl 2 I (Ct.atN 1 I (vt db D c oD.ok qo (hd.le le1) 0)) ?_;rintro v27 K27 hs27 ⟨dh,new,rfl,rfl,le2,hA⟩;have le12:=le1.trans le2;rcases hA with ⟨hdead,rfl,rfl⟩|⟨hdead,hb,hh,rfl,hH,rfl⟩
  ·rw[aab hdead] at hR;refine au ?_;refine cl 2 I (Ct.atN 1 I (vt db D c oD.ok qo (hd.le le12) 4)) ?_;rintro v35 K35 hs35 ⟨dh,new,rfl,rfl,le3,hA⟩;rcases hA with ⟨_,rfl,rfl⟩|⟨hx,_⟩
   ·refine stp 5 0 I I I I (fin 1 I (acE (fin 6 I (th (cU I (acI (WL.drop (au ?_))))))));rw[hR];exact bM I I I ⟨le12.trans le3,.inl ⟨I,I,dh,I,hd.le (le12.trans le3)⟩⟩
   rw[hdead] at hx;cases hx
  rw[aaa (by rw[hdead];simp)] at hR;refine au ?_;refine cl 2 I (Ct.atN 2 I (vt db D c oD.ok qo (hd.le le12) 4)) ?_;rintro v35 K35 hs35 ⟨dh,new,rfl,rfl,le3,hA⟩;have le13:=le12.trans le3;rcases hA with ⟨hx,_⟩|⟨_,eb,eh,rfl,hE,rfl⟩
  ·rw[hdead] at hx;cases hx
  refine stp 5 2 I I I I (WL.fr 1 I (WL.fr 2 I (WL.h 0 (pt lb (eZ none db (some hb) (some eb) 0 (-1) 0 0 (.slice a0 (eq first) c0) (.slice none 0 0) 0 0 (.slice none 0 0) 0) 119) ?_)));have hHb:=qU oD.ok 0 2;have hEb:=qU oD.ok 4 2;refine fin 1 I (acE (fin 6 I (th (bY I (sk (acE (cl 1 I (Gb lb db hb none (some eb) 0 0 _ _ 0 0 _ 0 (gF D 0) (hH.le le3) hHb) ?_)))))));rintro v47 K47 hs47 ⟨dg,kt,kv,rfl,rfl,hkh⟩;have le14:=le13.trans dg;cases hrh:iy (gF D 0) with
  | none=>
   rw[hrh] at hR;dsimp only at hR;refine fin 6 I (th (cU I (acI (WL.drop (WL.drop (WL.drop (au ?_)))))));rw[hR];exact bM I I I ⟨le14,.inl ⟨I,I,dh,I,hd.le le14⟩⟩
  | some kh=>
   rw[hrh] at hR;dsimp only at hR;have hkh:=hkh kh hrh;subst hkh;refine WL.fr 3 I (WL.fr 3 I (WL.fr 2 I (cl 3 I (Ga lb db eb none (some hb) kt kv first a0 c0 (x0.le (le2.trans (le3.trans dg))) _ 0 (gF D 4) (hE.le dg) hEb D c oD.ok qo (hd.le le14)) ?_)));rintro v51 K51 hs51 ⟨le5,sn,pl,fr,aV,cV,aD,cD,rfl,rfl,xV,xD,hhd⟩;have le15:=le14.trans le5;cases hrd:jk D (gF D 4) first with
   | none=>
    rw[hrd] at hR;dsimp only at hR;refine fin 2 I (th (cU I (acI (WL.drop (WL.drop (WL.del 1 I (au ?_)))))));rw[hR];exact bM I I I ⟨le15,.inl ⟨I,I,dh,I,hd.le le15⟩⟩
   | some hp=>
    rw[hrd] at hR;dsimp only at hR;obtain ⟨hB1,hB2,hB3⟩:=Gd hrd;have hhd:=hhd hp hrd;subst hhd;dsimp only at hB1 hB2 hB3;unfold bH at hB1 hB2 hB3;unfold rN at hR;dsimp only at hR;have hbd:=pF oD;have hal:=px oD;have hkH:=hH.le (le3.trans (dg.trans le5));have hkE:=hE.le (dg.trans le5);obtain ⟨l,hl⟩:=be (aU D);obtain ⟨F,hF⟩:=be (lgFree pl l D);rw[<-hl] at hbd hal hR;rw[<-hF] at hR;refine au ?_;refine cl 1 I (Ct.at 2 I (vG db D c oD qo (hd.le le15))) ?_;rintro v55 K55 hs55 ⟨dh,rfl,rfl,le6,aA,cA,rfl,xA⟩;rw[<-hl] at xA ⊢;have le16:=le15.trans le6;refine au ?_
    refine loop (σ:=Nat×Dk×PH) (fun s=>[(0,Nr db),(6,Nr lb),(55,.slice aA (eq l) cA),(56,.int .i64 (eq l)),(57,.int .i64 s.1)]) (fun _=>K55)
     (fun s=>pt lb (eZ none db (some hb) (some eb) kt kv sn.idx sn.term (.slice aV (eq sn.vot) cV) (.slice aD (eq sn.data) cD) pl fr (.slice none 0 0) 0) 119::eh::s.2.2::hh::hs) (fun s=>s.1<=eq l/\lgFree pl (l.drop s.1) s.2.1=F/\aP (c+s.1) s.2.1/\bN K55 db s.2.1 s.2.2) (fun s=>eq l-s.1) (0,D,dh) ⟨aad _,hF.symm,oD,hd.le le16⟩ ⟨rfl,rfl,rfl,rfl,rfl,trivial⟩ rfl rfl ?_
    rintro ⟨j,D',dh'⟩ ⟨hj,hw,oD',hD'⟩;dsimp only at *;refine acI (bh 0 I (fun e9=>?_) (fun e9=>?_))
    ·refine au ?_;have hjl:j<eq l:=qo
     obtain ⟨a,ha⟩:∃ a,l[j]?=some a:=⟨l[j],aai hjl⟩;have hab:=hbd a (aao ha);obtain ⟨n,rfl⟩:=aa2 hab.1;rw[aaF hjl,show l[j]=((n:Nat):Int) from by simp_all,qz] at hw;refine au ?_;refine dR 0 j I I I xA (uX ha) fun a59 hc59=>ld 0 I (.inl I) hc59 (au ?_);refine ar 1 I (kK .u64 n 4) ?_;have next:∀ {l':Sl},lgFree pl (l.drop (j+1)) D'=F->True:=fun _=>trivial
     by_cases q1:n % 4=2
     ·refine bh 0 I (fun _=>au ?_) (fun h=>absurd (show ((n % 4:Nat):Int)=2 by omega) h);refine cl 0 I (pV pl qo) ?_;rintro v70 K70 hs70 ⟨rfl,rfl,rfl⟩
      by_cases q2:n=bu pl
      ·rw[aaa qo] at hw;refine bh 0 I (fun h=>absurd (show ((n:Nat):Int)=((bu pl:Nat):Int) by rw[q2]) h) (fun _=>au ?_);exact ar 0 I (aC (x:=((j+1:Nat):Int)) qo) (fin 1 I (bw (x:=(j,D',dh')) (j+1,D',dh') sb I I ⟨aH,hw,oD'.up qo,hD'⟩ aH))
      rw[aab ⟨qo,qo⟩] at hw;obtain ⟨E,hEE⟩:=be (D'.free ((n:Nat):Int));have oE:=oD'.free ((n:Nat):Int);rw[<-hEE] at hw oE;refine bh 0 I (fun _=>cl 5 I (Ct.at 2 I (p7 db D' (c+j) oD'.ok qo hD' ((n:Nat):Int))) ?_) (fun h=>absurd (show ¬((n:Nat):Int)=((bu pl:Nat):Int) by omega) h);rintro v77 K77 hs77 ⟨dh2,rfl,rfl,hD2,rfl⟩;rw[<-hEE] at hD2 ⊢;refine cl 0 I (LS lb none db (some hb) (some eb) kt kv sn.idx sn.term _ _ pl fr _ 0 E.2) ?_;rintro v78 K78 hs78 ⟨_,rfl,rfl,rfl,rfl⟩;rw[show eT 0 E.2=E.2 from rfl];refine ai 0 I fun b79 h79=>fin 1 I (th (ax h79 I (fun e15=>?_) (fun e15=>?_)))
      ·rw[aab e15] at hw;rw[<-hw,aab e15] at hR;refine sq (bQ [0] 6 [0,2,4,6,8,10] ?_);refine bS qk 3 0 I I I (aM qk 2 I (acK (rB (rT (rT (rB (rT (WQ.drop (WQ.drop (WQ.del 1 I ?_))))))))));rw[hR];exact bM I I I ⟨le16,.inl ⟨I,I,dh2,I,hD2⟩⟩
      have e15:=Decidable.not_not.1 e15;rw[aaa qo] at hw;rw[e15];exact sk (acG (ar 0 I (aC (x:=((j+1:Nat):Int)) qo) (fin 1 I (bw (x:=(j,D',dh')) (j+1,E.1,dh2) sb I I ⟨aH,hw,oE.up qo,hD2⟩ aH))))
     rw[aaa qo] at hw;refine bh 0 I (fun h=>absurd (show ((n % 4:Nat):Int)=2 from h) qo) (fun _=>au ?_);exact ar 0 I (aC (x:=((j+1:Nat):Int)) qo) (fin 1 I (bw (x:=(j,D',dh')) (j+1,D',dh') sb I I ⟨aH,hw,oD'.up qo,hD'⟩ aH))
    refine au ?_;obtain rfl:j=eq l:=qo
    rw[aaY] at hw;have hw:(D',(0:Int))=F:=hw;rw[<-hw,aaa Nm] at hR;dsimp only at hR;unfold rM at hR;dsimp only at hR;obtain ⟨X,hX⟩:=be (dz D' fr (sn.idx+1));obtain ⟨hXc,hXs⟩:=yh (D:=D') (fr:=fr) (first:=sn.idx+1);rw[<-hX] at hR hXc hXs;refine au ?_;refine bG [pt lb (eZ none db (some hb) (some eb) kt kv sn.idx sn.term (.slice aV (eq sn.vot) cV) (.slice aD (eq sn.data) cD) pl fr (.slice none 0 0) 0) 119] 17 [0,2,4,6,8,10,12,14,16,18,20,23,24,26,28,30,32] Nm qk qk (au ?_);refine bA qk 0 I (bL (x:=((sn.idx+1:Nat):Int)) qo) (au ?_);refine cl 0 I (Ct.atN 2 I (KB db D' (c+eq l) oD' qo hD' fr (sn.idx+1) qo qo)) ?_;rintro v98 K98 hs98 ⟨dh2,new,rfl,le7,hD2,hA⟩;rw[<-hX] at hD2 hA;have le17:=le16.trans le7;rcases hA with ⟨hn,rfl,rfl⟩|⟨W,wb,wh,hW,rfl,hWh,rfl⟩
    ·rw[hn] at hR;dsimp only at hR;have hXc:=hXc hn;refine eK Nm le7 (au ?_);refine ai 1 I fun b102 h102=>fin 0 I (th (ax h102 I (fun e17=>?_) (fun e17=>?_)))
     ·rw[aab e17] at hR;refine acI (WL.drop (WL.drop (WL.del 1 I (au ?_))));rw[hR];exact bM I I I ⟨le17,.inl ⟨I,I,dh2,I,hD2⟩⟩
     rw[aaa e17] at hR;refine au ?_;refine ai 1 I fun b104 h104=>fin 0 I (th (ax h104 I (fun e19=>acI (WL.drop (WL.drop (WL.del 1 I (au ?_))))) (fun e19=>absurd hXc e19)));rw[hR];exact bM I I I ⟨le17,.inl ⟨I,I,dh2,I,hD2⟩⟩
    rw[hW] at hR;dsimp only at hR;have hXs:=hXs W hW;rw[hXs];have hopen:=cy.opened oD' (fr:=fr) (first:=sn.idx+1) (W:=W) (E:=X.2.1) (by grind);refine eK Nm le7 (aM qk 5 I (acE (fin 2 I (th (bY I (sk (acE (fin 2 I (th (bY I (sk (acF (WL.fr 1 I (stp 4 0 I I I I (WL.h 0 (pt lb (eZ (some wb) db (some hb) (some eb) kt kv sn.idx sn.term (.slice aV (eq sn.vot) cV) (.slice aD (eq sn.data) cD) pl fr (.slice none 0 0) 0) 119) ?_)))))))))))))));refine au ?_;refine cl 1 I (EF lb db wb (some hb) (some eb) kt kv sn (by unfold bH;omega) _ _ pl fr 0 W hWh (c+eq l) hopen.1 qo) ?_;rintro v111 K111 hs111 ⟨le8,gl,aL,cL,ll,rfl,rfl,hG,hll⟩;have le18:=le17.trans le8;cases hre:j2 sn W with
    | none=>
     rw[hre] at hR;dsimp only at hR;refine fin 1 I (th (cU I (acI (WL.drop (WL.drop (WL.drop (WL.drop (WL.del 1 I (au ?_)))))))));rw[hR];exact bM I I I ⟨le18,.inl ⟨I,I,dh2,I,hD2.le le8⟩⟩
    | some l2=>
     rw[hre] at hR;dsimp only at hR;have hll:=hll l2 hre;subst hll;refine fin 1 I (th (bY I (sk (acF (WL.fr 4 I (WL.fr 1 I (WL.fr 4 I (WL.fr 5 I (WL.fr 5 I (WL.fr 5 I (au ?_)))))))))));rw[hR];have le78:=le7.trans le8;exact bM I I I ⟨le18,.inr ⟨_,lb,[_,_,_,_,_,_],I,I,I,wb,hb,eb,aV,cV,aD,cD,aL,cL,wh,hh,eh,gl,dh2,I,hWh.le le8,hkH.le (le6.trans le78),hkE.le (le6.trans le78),hG,hD2.le le8,xV.le (le6.trans le78),xD.le (le6.trans le78)⟩⟩
end
section
def q0:MA:=⟨none,0,none,0,none,0⟩
end
section
structure Rl where
 kt:Nat
 kv:Int
 sn:aX
 l:List af
end
section
def Rl.append(r:Rl)(x:List af):Rl×Int:=
 if eA (r.sn.idx+eq r.l) (trm r.sn r.l (r.sn.idx+eq r.l)).1 x≠0 then (r,eA (r.sn.idx+eq r.l) (trm r.sn r.l (r.sn.idx+eq r.l)).1 x) else ({ r with l:=r.l++x },0)
def Rl.setHard(r:Rl)(t:Nat)(v:Int):Rl×Int:=
 if v < -1\/6<v then (r,181) else if t<r.kt then (r,180) else ({ r with kt:=t,kv:=v },0)
end
section
def Rl.fits(r:Rl)(s:aX):Int:=
 if (bU s.vot).isSome=false\/2097152<eq s.data then 181 else if s.idx<=r.sn.idx\/bH<=s.idx then 180 else 0
end
section
def Rl.save(r:Rl)(s:aX):Rl×Int:=
 if r.fits s≠0 then (r,r.fits s) else if dL r.sn r.l s=false then (r,180) else ({ r with sn:=s,l:=r.l.drop (s.idx-r.sn.idx) },0)
def Rl.install(r:Rl)(s:aX):Rl×Int:=
 if r.fits s≠0 then (r,r.fits s) else if dL r.sn r.l s=true then r.save s else ({ r with sn:=s,l:=[] },0)
def ls{r:Rl}{s:aX}(h:r.fits s=0):(bU s.vot).isSome=true/\eq s.data<=2097152/\r.sn.idx<s.idx/\s.idx<bH:=by
 grind [Rl.fits]
def yu{s:aX}{l:List af}{t:aX}(h:dL s l t=true)(hlt:s.idx<t.idx):t.idx<=s.idx+eq l:=by
 grind [dL,trm]
end
section
def Rl.merge2(r:Rl)(x:List af)(last:Nat):Rl×Nat×Bool×Int:=
 match (skp r.sn r.l x true).1 with
 | []=>(r,last,true,0)
 | e::t=>({ r with l:=r.l.take (e.idx-r.sn.idx-1)++(e::t) },last,true,0)
def Rl.merge1(r:Rl)(i t:Nat)(x:List af)(last:Nat):Rl×Nat×Bool×Int:=
 if (trm r.sn r.l i).2=false\/(trm r.sn r.l i).1≠t then (r,o6 r.sn r.l i,false,0) else r.merge2 x last
def Rl.merge(r:Rl)(i t:Nat)(x:List af):Rl×Nat×Bool×Int:=
 if eA i t x≠0 then (r,0,false,eA i t x)
 else if i<r.sn.idx then
  (if i+eq x<r.sn.idx then (r,i+eq x,true,0)
   else if ((x.drop (r.sn.idx-i)).head?.map fun e=>decide (e.term<r.sn.term))=some true then (r,0,false,180)
   else r.merge1 r.sn.idx r.sn.term (x.drop (r.sn.idx-i)) (i+eq x))
 else r.merge1 i t x (i+eq x)
def nf{r:Rl}{x:List af}{B:Bool}{last:Nat}(h:skp r.sn r.l x true=([],B)):r.merge2 x last=(r,last,true,0):=by
 simp_all [Rl.merge2]
def na{r:Rl}{x:List af}{e:af}{t:List af}{B:Bool}{last:Nat}(h:skp r.sn r.l x true=(e::t,B)):r.merge2 x last=({ r with l:=r.l.take (e.idx-r.sn.idx-1)++(e::t) },last,true,0):=by
 simp_all [Rl.merge2]
section
variable {P:Program} {w0:World} {fn:Func} {R:Value->PH->List PH->Prop} {n:Nat} {l:Sl} {K:PH} {hs:List PH}
end
end
section
structure bD (n:Nat) (D:Dk):Prop where
 left:D.left = -1
 dead:D.dead=false
 room:(n:Int)<=D.room
def bD.mono{n m:Nat}{D:Dk}(h:bD n D)(k:m<=n):bD m D:=⟨h.left,h.dead,by have:=h.room;omega⟩
theorem bD.write{n:Nat}{D:Dk}(h:bD (n+1) D)(a i:Int)(b:List UInt8)(h0:0<=i)(hi:i<65536)(hb:eq b<=64):(D.write a i b).2=0/\bD n (D.write a i b).1:=by
 have h1:=h.left;have h2:=h.dead;have h3:=h.room;have hd:((D.laid a i b).stp).dead=false:=by simp[Dk.stp,Dk.laid,h1]
 have hl:((D.laid a i b).stp).left = -1:=by simp[Dk.stp,Dk.laid,h1]
 unfold Dk.write;rw[aaa (by rw[h2];decide),aaa qo,aaa qo];refine ⟨by simp[hd],hl,hd,?_⟩;show (n:Int)<=(D.laid a i b).room
 grind [Dk.laid]
theorem bD.stp{n:Nat}{D:Dk}(h:bD n D):bD n D.stp:=⟨by simp[Dk.stp,h.left],by simp[Dk.stp,h.left],h.room⟩
theorem bD.sync{n:Nat}{D:Dk}(h:bD n D)(a:Int):(D.sync a).2=0/\bD n (D.sync a).1:=by
 have h1:=h.stp;unfold Dk.sync;rw[aaa (by rw[h.dead];decide),aaa (by rw[h1.dead];decide)];exact ⟨I,h1.left,h1.dead,h1.room⟩
theorem bD.free{n:Nat}{D:Dk}(h:bD n D)(a:Int):(D.free a).2=0/\bD n (D.free a).1:=by
 have h1:=h.stp;unfold Dk.free;rw[aaa (by rw[h.dead];decide),aaa (by rw[h1.dead];decide)];exact ⟨I,h1.left,h1.dead,by have:=h.room;dsimp only;omega⟩
theorem bD.save{n:Nat}{D:Dk}(h:bD (n+1) D)(S:bZ)(area:Nat)(v:List UInt8)(hn:S.num<18446744073709551615)(hv:eq v<=48):
  (S.save area D v).2.2=0/\bD n (S.save area D v).2.1/\(S.save area D v).1=⟨S.num+1,v⟩:=by
 have h1:=h.write area (((S.num+1) % 2:Nat):Int) (co (S.num+1) v) qo qo (by rw[nc hv];omega);have h2:=h1.2.sync area;unfold bZ.save
 grind
structure eW (f:Nat) (W:Wl):Prop where
 code:W.code=0
 op:∀ o,W.op=some o->o.full<=f/\eq o.rest<=62
theorem zx:∀ (f:Nat) (o:fq) (D:Dk) (n:Nat),bD (n+(eq o.rest / 63+1)) D->eq o.rest<63*f->o.full+eq o.rest / 63<65536 ->
  (wrL f o D).2.2=0/\bD n (wrL f o D).2.1/\(wrL f o D).1.full<=o.full+eq o.rest / 63/\eq (wrL f o D).1.rest<=62
 | 0,o,D,n,_,hf,_=>by omega
 | f+1,o,D,n,h,hf,hfu=>by
  have h1:=bD.write (n:=n+eq o.rest / 63) (h.mono qo) (aK o.num) o.full (UInt8.ofNat (min (eq o.rest) 63)::o.rest.take (min (eq o.rest) 63)) qo qo (by grind);unfold wrL;rw[h1.1]
  by_cases hl:eq o.rest<63
  ·grind
  rw[aaa qo]
  by_cases he:eq o.rest=63
  ·rw[aab he];exact ⟨I,h1.2.mono qo,aH,Nm⟩
  rw[aaa he];have h3:=zx f { o with full:=o.full+1,rest:=o.rest.drop 63 } _ n (h1.2.mono (by dsimp only;rw[aak];omega)) (by dsimp only;rw[aak];omega) (by dsimp only;rw[aak];omega);refine ⟨h3.1,h3.2.1,?_,h3.2.2.2⟩;have:=h3.2.2.1;dsimp only at this;rw[aak] at this;omega
def zu{n:Nat}{D:Dk}(o:fq)(b:List UInt8)(h:bD (n+((eq o.rest+eq b) / 63+1)) D)(hf:o.full+(eq o.rest+eq b) / 63<65536):
  (wrO o b D).2.2=0/\bD n (wrO o b D).2.1/\(wrO o b D).1.full<=o.full+(eq o.rest+eq b) / 63/\eq (wrO o b D).1.rest<=62:=by
 have hl:eq (o.rest++b)=eq o.rest+eq b:=aah;have:=zx (eq o.rest+eq b+1) { o with rest:=o.rest++b } D n (by dsimp only;rw[hl];exact h) (by dsimp only;rw[hl];omega) aH;dsimp only at this;rw[hl] at this;exact this
theorem eW.sync{f n:Nat}{W:Wl}{D:Dk}(o:eW f W)(h:bD n D):eW f (W.sync D).1/\bD n (W.sync D).2/\(W.sync D).1.first=W.first/\(W.sync D).1.recs=W.recs/\(W.sync D).1.next=W.next/\(W.sync D).1.op=W.op/\(W.sync D).1.old=W.old:=by
 unfold Wl.sync;rw[aaa (by rw[o.code];simp)];cases hop:W.op with
 | none=>simp_all
 | some q=>
  have h1:=h.sync (aK q.num);exact ⟨⟨h1.1,fun p hp=>o.op p (by rw[hop];exact hp)⟩,h1.2,I,I,I,I,I⟩
theorem nM{i:Nat}(h:i<18446744073709551616):eq (aI i)<=10:=dH h
theorem eW.begin{f n:Nat}{W:Wl}{D:Dk}(o:eW f W)(h:bD (n+1) D)(i:Nat)(hi:i<18446744073709551616):
  eW 0 (W.begin i D).1/\bD n (W.begin i D).2/\(W.begin i D).1.first=W.first/\(W.begin i D).1.recs=W.recs/\(W.begin i D).1.next=W.next+1/\(W.begin i D).1.op≠none:=by
 have h1:=o.sync h;have hu:=nM hi;have h2:=zu (n:=n) (D:=(W.sync D).2) ⟨W.next,i,0,[]⟩ (aI i) (h1.2.1.mono (by simp only[aaT];omega)) (by simp only[aaT];omega);unfold Wl.begin;rw[aaa (by rw[h1.1.code];simp)];refine ⟨⟨h2.1,?_⟩,h2.2.1,h1.2.2.1,h1.2.2.2.1,I,Nm⟩
 grind
def yF{n:Nat}{W:Wl}{D:Dk}{b:List UInt8}(o:eW 15 W)(hop:W.op≠none)(h:bD (n+10) D)(hb:eq b<=512):
  (dl W b D).2.2=0/\eW 24 (dl W b D).1/\bD n (dl W b D).2.1/\(dl W b D).1.first=W.first/\(dl W b D).1.recs=W.recs++[b]/\(dl W b D).1.next=W.next:=by
 have hp:=ph hb;unfold dl;cases hq:W.op with
 | none=>exact absurd hq hop
 | some q=>
  have h1:=o.op q hq;have h2:=zu (n:=n) (D:=D) q (cm b) (h.mono qo) qo;dsimp only;refine ⟨h2.1,⟨h2.1,?_⟩,h2.2.1,I,by rw[aab h2.1],I⟩
  grind
theorem eW.append{n:Nat}{W:Wl}{D:Dk}{b:List UInt8}(o:eW 24 W)(h:bD (n+11) D)(hb:eq b<=512)(hl:W.first+eq W.recs<bn):
  (W.append b D).2.2=0/\eW 24 (W.append b D).1/\bD n (W.append b D).2.1/\(W.append b D).1.first=W.first/\(W.append b D).1.recs=W.recs++[b]/\(W.append b D).1.next<=W.next+1:=by
 have hl2:=hl;unfold bn at hl2;unfold Wl.append;rw[aaa (by rw[o.code];simp),aaa qo,aaa qo]
 by_cases hn:j5 W.op=true
 ·rw[aab hn];have h1:=o.begin (n:=n+10) h (W.first+eq W.recs) qo;rw[aaa (by rw[h1.1.code];simp)];have h2:=yF (n:=n) (b:=b) ⟨h1.1.code,fun q hq=>by have:=h1.1.op q hq;omega⟩ h1.2.2.2.2.2 h1.2.1 hb
  simp_all
 rw[aaa hn];have hop:W.op≠none:=fun e=>hn (by rw[e];rfl)
 have h2:=yF (n:=n) (b:=b) ⟨o.code,fun q hq=>by
  have h3:=o.op q hq
  grind [j5]⟩ hop (h.mono qo) hb
 simp_all
theorem eW.up{f g:Nat}{W:Wl}(o:eW f W)(h:f<=g):eW g W:=⟨o.code,fun q hq=>by have:=o.op q hq;omega⟩
theorem eW.truncate{n:Nat}{W:Wl}{D:Dk}(o:eW 24 W)(h:bD (n+1) D)(i:Nat)(hi:i<18446744073709551616)(h1:W.first<=i)(h2:i-W.first<=eq W.recs):
  (W.truncate i D).2.2=0/\eW 24 (W.truncate i D).1/\bD n (W.truncate i D).2.1/\(W.truncate i D).1.first=W.first/\(W.truncate i D).1.recs=W.recs.take (i-W.first)/\(W.truncate i D).1.next<=W.next+1:=by
 unfold Wl.truncate;rw[aaa (by rw[o.code];simp),aaa qo]
 by_cases he:i-W.first=eq W.recs
 ·rw[aab he];exact ⟨I,o,h.mono qo,I,by rw[he,aaE],Nm⟩
 rw[aaa he];have h3:=o.begin h i hi;rw[aab h3.1.code];exact ⟨h3.1.code,⟨h3.1.code,fun q hq=>by have:=h3.1.op q hq;omega⟩,h3.2.1,h3.2.2.1,rfl,by simp_all⟩
theorem yf(i:Nat):∀ (f:Nat) (old:List (Nat×Nat)) (D:Dk) (n:Nat),bD n D->(wfree i f old D).2.2=0/\bD n (wfree i f old D).2.1
 | 0,_,_,_,h=>⟨rfl,h⟩
 | f+1,old,D,n,h=>by
  unfold wfree;have h1:=h.free (aK (old.headD (0,0)).1)
  split
  ·rw[aaa qo];exact yf i f _ _ n h1.2
  exact ⟨I,h⟩
theorem eW.compact{n:Nat}{W:Wl}{D:Dk}(o:eW 24 W)(h:bD (n+1) D)(i:Nat)(hi:i<18446744073709551616)(h1:W.first<i)(h2:i-W.first<=eq W.recs):
  (W.compact i D).2.2=0/\eW 24 (W.compact i D).1/\bD n (W.compact i D).2.1/\(W.compact i D).1.first=i/\(W.compact i D).1.recs=W.recs.drop (i-W.first)/\(W.compact i D).1.next<=W.next+1:=by
 have hc1:eW 24 (W.compact1 i D).1/\bD n (W.compact1 i D).2/\(W.compact1 i D).1.next<=W.next+1:=by
  unfold Wl.compact1
  split
  ·have h3:=o.begin h i hi;exact ⟨h3.1.up qo,h3.2.1,qo⟩
  exact ⟨o,h.mono qo,Nm⟩
 have hc2:=hc1.1.sync hc1.2.1;have hf:=yf i (eq (W.compact2 i D).1.old+1) (W.compact2 i D).1.old (W.compact2 i D).2 n hc2.2.1;unfold Wl.compact;rw[aaa (by rw[o.code];simp),aaa qo,aaa qo,aaa (by intro hh;exact hh hc2.1.code),aaa qo];exact ⟨I,⟨hc2.1.code,hc2.1.op⟩,hf.2,I,I,by simp_all [Wl.compact2]⟩
theorem tk:∀ (l:List Int) (D:Dk) (n:Nat),bD n D->(wreset l D).2=0/\bD n (wreset l D).1
 | [],_,_,h=>⟨rfl,h⟩
 | a::r,D,n,h=>by
  unfold wreset;have h1:=h.free a
  split
  ·rw[aab h1.1];exact tk r _ n h1.2
  exact tk r _ n h
theorem eW.reset{n:Nat}{W:Wl}{D:Dk}(o:eW 24 W)(h:bD n D)(i:Nat)(hi:i<=bn):
  (W.reset i D).2.2=0/\eW 24 (W.reset i D).1/\bD n (W.reset i D).2.1/\(W.reset i D).1.first=i/\(W.reset i D).1.recs=[]/\(W.reset i D).1.next=W.next:=by
 have h1:=tk (aU D) D n h;unfold Wl.reset;rw[aaa (by rw[o.code];simp),aaa qo,aaa qo];exact ⟨I,⟨o.code,fun q hq=>by cases hq⟩,h1.2,I,I,I⟩
end
section
def Lg.rl(L:Lg):Rl:=⟨L.kt,L.kv,L.sn,L.l⟩
structure du (k q:Nat) (L:Lg):Prop where
 code:L.code=0
 w:eW 24 L.w
 hard:L.hard.num<=k
 head:L.head.num<=k
 place:L.place<=k
 next:L.w.next<=q
 fr:L.fr<=q
 first:L.w.first=L.sn.idx+1
 recs:eq L.w.recs=eq L.l
theorem du.up{k q k' q':Nat}{L:Lg}(o:du k q L)(h:k<=k')(h':q<=q'):du k' q' L:=
 ⟨o.code,o.w,by have:=o.hard;omega,by have:=o.head;omega,by have:=o.place;omega,by have:=o.next;omega,by have:=o.fr;omega,o.first,o.recs⟩
theorem du.setHard{k q n:Nat}{L:Lg}{D:Dk}(o:du k q L)(h:bD (n+1) D)(t:Nat)(v:Int)(ht:t<=ac)(hk:k<=1000000):
  (L.setHard D t v).2.2=(L.rl.setHard t v).2/\bD n (L.setHard D t v).2.1/\du (k+1) q (L.setHard D t v).1/\(L.setHard D t v).1.rl=(L.rl.setHard t v).1:=by
 unfold ac at ht;unfold Lg.setHard Rl.setHard;rw[aaa (by rw[o.code];simp)]
 by_cases h1:v < -1\/7<=v
 ·rw[aab h1,aab (show v < -1\/6<v by omega)];exact ⟨I,h.mono qo,o.up qo qo,I⟩
 rw[aaa h1,aaa (show ¬(v < -1\/6<v) by omega)]
 by_cases h2:t<L.kt
 ·rw[aab h2,aab (show t<L.rl.kt from h2)];exact ⟨I,h.mono qo,o.up qo qo,I⟩
 rw[aaa h2,aaa (show ¬t<L.rl.kt from h2)]
 have hu:eq (aI t++aI (v+1).toNat)<=48:=by
  grind [nM]
 have hs:=h.save L.hard 0 (aI t++aI (v+1).toNat) (by have:=o.hard;omega) hu;have hn:(L.hard.save 0 D (aI t++aI (v+1).toNat)).1.num<=k+1:=by rw[hs.2.2];have:=o.hard;dsimp only;omega
 have hs0:(L.hard.save 0 D (aI t++aI (v+1).toNat)).2.2=0:=hs.1;rw[aab hs0];exact ⟨I,hs.2.1,⟨o.code,o.w,hn,by have:=o.head;dsimp only;omega,by have:=o.place;dsimp only;omega,o.next,o.fr,o.first,o.recs⟩,rfl⟩
def xB{e:af}(h:ic e):eq e.bytes<=512:=by
 obtain ⟨⟨_,_,h1⟩,h2,h3⟩:=h
 grind [lu,nM,ac,af.bytes,cm]
theorem du.app1:∀ (x:List af) (L:Lg) (D:Dk) (k q n:Nat),du k q L->bD (n+11*eq x) D->(∀ e∈x,ic e)->L.sn.idx+eq L.l+eq x<2*bH ->
  (Lg.app1 x L D).2.2=0/\bD n (Lg.app1 x L D).2.1/\du k (q+eq x) (Lg.app1 x L D).1/\(Lg.app1 x L D).1.rl={ L.rl with l:=L.l++x }
 | [],L,D,k,q,n,o,h,_,_=>⟨rfl,h.mono qo,o.up qo qo,by simp[Lg.app1,Lg.rl]⟩
 | e::r,L,D,k,q,n,o,h,hx,hl=>by
  simp only[aan] at h hl;unfold bH at hl;have h1:=o.w.append (n:=n+11*eq r) (b:=e.bytes) (h.mono qo) (xB (hx e Nm)) (by rw[o.first,o.recs];unfold bn;omega);unfold Lg.app1;rw[aaa qo]
  have hS:du k (q+1) { L with w:=(L.w.append e.bytes D).1,l:=L.l++[e] }:=
   ⟨o.code,h1.2.1,o.hard,o.head,o.place,by have:=o.next;have:=h1.2.2.2.2.2;dsimp only;omega,by have:=o.fr;dsimp only;omega,by dsimp only;rw[h1.2.2.2.1];exact o.first,by dsimp only;rw[h1.2.2.2.2.1];simp[o.recs]⟩
  have h2:=du.app1 r _ _ k (q+1) n hS h1.2.2.1 (fun e he=>hx e (by simp[he])) (by grind [bH])
  grind [Lg.rl]
theorem du.append{k q n:Nat}{L:Lg}{D:Dk}(o:du k q L)(x:List af)(h:bD (n+11*eq x) D)(hx:∀ e∈x,e.idx<=ac/\e.term<=ac)(hl:L.sn.idx+eq L.l+eq x<2*bH):
  (L.append x D).2.2=(L.rl.append x).2/\bD n (L.append x D).2.1/\du k (q+eq x) (L.append x D).1/\(L.append x D).1.rl=(L.rl.append x).1:=by
 unfold Lg.append Rl.append;rw[aaa (by rw[o.code];simp)]
 by_cases hf:eA L.last (trm L.sn L.l L.last).1 x=0
 ·rw[aaa (by rw[hf];simp),aaa (by intro h2;exact h2 hf)];have hok:=mq hf;exact du.app1 x L D k q n o h (fun e he=>⟨hok e he,hx e he⟩) hl
 rw[aab hf,aab (show eA (L.rl.sn.idx+eq L.rl.l) (trm L.rl.sn L.rl.l (L.rl.sn.idx+eq L.rl.l)).1 x≠0 from hf)];exact ⟨I,h.mono qo,o.up qo qo,I⟩
theorem du.sync{k q n:Nat}{L:Lg}{D:Dk}(o:du k q L)(h:bD n D):(L.sync D).2.2=0/\bD n (L.sync D).2.1/\du k q (L.sync D).1/\(L.sync D).1.rl=L.rl/\(L.sync D).1.sn=L.sn/\(L.sync D).1.l=L.l:=by
 have h1:=o.w.sync h;unfold Lg.sync;rw[aaa (by rw[o.code];simp)];exact ⟨h1.1.code,h1.2.1,⟨h1.1.code,h1.1,o.hard,o.head,o.place,by dsimp only;rw[h1.2.2.2.2.1];exact o.next,o.fr,by dsimp only;rw[h1.2.2.1];exact o.first,by dsimp only;rw[h1.2.2.2.1];exact o.recs⟩,I,I,I⟩
theorem zU(place:Nat):∀ (f n:Nat) (b:List UInt8) (D:Dk) (m:Nat),bD (m+(eq b+63) / 64) D->eq b<f->n+(eq b+63) / 64<=65536->(lgW place f n b D).2=0/\bD m (lgW place f n b D).1
 | 0,_,_,_,_,_,hf,_=>by omega
 | f+1,n,b,D,m,h,hf,hn=>by
  unfold lgW
  by_cases hb:b=[]
  ·simp_all
  rw[aaa hb];have hbl:0<eq b:=by grind
  have h1:=bD.write (n:=m+(eq b-64+63) / 64) (h.mono qo) (bu place) n (b.take 64) qo qo (by rw[aam];omega);rw[aaa qo];exact zU place f (n+1) (b.drop 64) _ m (by rw[aak];exact h1.2) (by rw[aak];omega) (by rw[aak];omega)
def A5{s:aX}{place fr:Nat}(hi:s.idx<=ac)(ht:s.term<=ac)(hp:place<=2097151)(hf:fr<=2097151)(hd:eq s.data<=2097152)(hv:(bU s.vot).isSome=true):eq (Lg.say s place fr)<=48:=by
 unfold ac at hi ht;have h1:=nM (i:=s.idx) qo;have h2:=nM (i:=s.term) qo;have h3:=pb 3 place qo Nn;have h4:=pb 3 fr qo Nn;have h5:=pb 4 (eq s.data) qo Nn
 grind [ob,bU,Lg.say]
theorem du.lay{k q n:Nat}{L:Lg}{D:Dk}(o:du k q L)(s:aX)(fr:Nat)(h:bD (n+((eq s.data+63) / 64+1)) D)(hi:s.idx<=ac)(ht:s.term<=ac)(hd:eq s.data<=2097152)(hv:(bU s.vot).isSome=true)(hk:k<=1000000)(hq:q<=2000000)(hfr:fr<=q):
  (L.lay s fr D).2.2=0/\bD n (L.lay s fr D).2.1/\(L.lay s fr D).1.code=0/\(L.lay s fr D).1.w=L.w/\(L.lay s fr D).1.hard=L.hard/\(L.lay s fr D).1.head.num<=k+1/\(L.lay s fr D).1.place<=k+1/\(L.lay s fr D).1.fr=fr/\(L.lay s fr D).1.sn=s/\(L.lay s fr D).1.kt=L.kt/\(L.lay s fr D).1.kv=L.kv /\
   (L.lay s fr D).1.l=if dL L.sn L.l s=true then L.l.drop ((ei L.sn L.l s.idx).getD 0+1) else []:=by
 have hp:=o.place;have hh:=o.head;have h1:=zU (L.place+1) (eq s.data+1) 0 s.data D (n+1) (h.mono qo) qo qo;have h2:=h1.2.sync (bu (L.place+1));have h3:=h2.2.save L.head 4 (Lg.say s (L.place+1) fr) qo (A5 hi ht qo qo hd hv);have h4:=h3.2.1.free (bu L.place);unfold Lg.lay;rw[aaa qo];unfold Lg.lay1;rw[aaa qo];unfold Lg.lay2;have h30:=h3.1;rw[aaa qo];unfold Lg.lay3 Lg.laid
 simp_all
def zV{s:aX}{l:List af}{t:aX}(h:dL s l t=true)(hlt:s.idx<t.idx):t.idx<=s.idx+eq l/\(ei s l t.idx).getD 0+1=t.idx-s.idx:=by
 grind [dL,trm,ei]
def BA{k q:Nat}{L:Lg}(o:du k q L)(s:aX):L.fits s=L.rl.fits s:=by
 unfold Lg.fits Rl.fits;rw[aaa (by rw[o.code];simp)]
 rfl
theorem du.save{k q n:Nat}{L:Lg}{D:Dk}(o:du k q L)(s:aX)(h:bD (n+((eq s.data+63) / 64+2)) D)(hi:s.idx<=ac)(ht:s.term<=ac)(hk:k<=1000000)(hq:q<=2000000):
  (L.save s D).2.2=(L.rl.save s).2/\bD n (L.save s D).2.1/\du (k+1) (q+1) (L.save s D).1/\(L.save s D).1.rl=(L.rl.save s).1:=by
 unfold Lg.save Rl.save;rw[BA o]
 by_cases hf:L.rl.fits s=0
 ·rw[aaa (show ¬L.rl.fits s≠0 by rw[hf];simp),aaa (show ¬L.rl.fits s≠0 by rw[hf];simp)];obtain ⟨hv,hd,hlt,htop⟩:=ls hf;have hlt':L.sn.idx<s.idx:=hlt
  by_cases hh:dL L.sn L.l s=false
  ·rw[aab hh,aab (show dL L.rl.sn L.rl.l s=false from hh)];exact ⟨I,h.mono qo,o.up qo qo,I⟩
  rw[aaa hh,aaa (show ¬dL L.rl.sn L.rl.l s=false from hh)];have hh':dL L.sn L.l s=true:=by simpa using hh
  have hin:=zV hh' hlt';have hs:=o.sync h;unfold Lg.save1;rw[aaa qo];generalize L.sync D=LD at hs;obtain ⟨L1,D1,c1⟩:=LD;obtain ⟨_,hl1,o1,hr1,hsn1,hL1⟩:=hs;dsimp only at hl1 o1 hr1 hsn1 hL1 ⊢;have hly:=o1.lay (n:=n+1) s L1.fr (hl1.mono qo) hi ht hd hv hk hq o1.fr;unfold Lg.save2;rw[aaa qo];generalize L1.lay s L1.fr D1=R at hly;obtain ⟨L2,D2,c2⟩:=R;obtain ⟨_,hl2,hc2,hw2,hh2,hhd2,hp2,hfr2,hsn2,hkt2,hkv2,hL2⟩:=hly;dsimp only at hl2 hc2 hw2 hh2 hhd2 hp2 hfr2 hsn2 hkt2 hkv2 hL2 ⊢;have hcm:=(show eW 24 L2.w from by rw[hw2];exact o1.w).compact hl2 (s.idx+1) (by unfold bH at htop;omega) (by rw[hw2,o1.first,hsn1];omega) (by rw[hw2,o1.first,o1.recs,hsn1,hL1];omega);have hl3:L2.l=L.l.drop (s.idx-L.sn.idx):=by rw[hL2,hsn1,hL1,aab hh',hin.2]
  have hrr:L1.rl.kt=L.kt/\L1.rl.kv=L.kv:=by rw[hr1];exact ⟨I,I⟩
  refine ⟨hcm.1,hcm.2.2.1,⟨hcm.1,hcm.2.1,by dsimp only;rw[hh2];have:=o1.hard;omega,hhd2,hp2,by dsimp only;have:=hcm.2.2.2.2.2;rw[hw2] at this ⊢;have:=o1.next;omega,by dsimp only;rw[hfr2];have:=o1.fr;omega,by dsimp only;rw[hcm.2.2.2.1,hsn2],?_⟩,?_⟩
  ·dsimp only;rw[hcm.2.2.2.2.1,hl3,hw2,aak,aak,o1.first,o1.recs,hsn1,hL1];omega
  simp_all [Lg.rl]
 rw[aab hf,aab hf];exact ⟨I,h.mono qo,o.up qo qo,I⟩
theorem du.install{k q n:Nat}{L:Lg}{D:Dk}(o:du k q L)(s:aX)(h:bD (n+((eq s.data+63) / 64+2)) D)(hi:s.idx<=ac)(ht:s.term<=ac)(hk:k<=1000000)(hq:q<=2000000):
  (L.install s D).2.2=(L.rl.install s).2/\bD n (L.install s D).2.1/\du (k+1) (q+1) (L.install s D).1/\(L.install s D).1.rl=(L.rl.install s).1:=by
 unfold Lg.install Rl.install;rw[BA o]
 by_cases hf:L.rl.fits s=0
 ·rw[aaa (show ¬L.rl.fits s≠0 by rw[hf];simp),aaa (show ¬L.rl.fits s≠0 by rw[hf];simp)];obtain ⟨hv,hd,hlt,htop⟩:=ls hf
  by_cases hh:dL L.sn L.l s=true
  ·rw[aab hh,aab (show dL L.rl.sn L.rl.l s=true from hh)];exact o.save s h hi ht hk hq
  rw[aaa hh,aaa (show ¬dL L.rl.sn L.rl.l s=true from hh)];have hly:=o.lay (n:=n) s L.w.next (h.mono qo) hi ht hd hv hk hq o.next;unfold Lg.inst1;rw[aaa qo];generalize L.lay s L.w.next D=R at hly;obtain ⟨L2,D2,c2⟩:=R;obtain ⟨_,hl2,hc2,hw2,hh2,hhd2,hp2,hfr2,hsn2,hkt2,hkv2,hL2⟩:=hly;dsimp only at hl2 hc2 hw2 hh2 hhd2 hp2 hfr2 hsn2 hkt2 hkv2 hL2 ⊢;have hcm:=(show eW 24 L2.w from by rw[hw2];exact o.w).reset hl2 (s.idx+1) (by unfold bH at htop;unfold bn;omega);rw[aaa hh] at hL2;refine ⟨hcm.1,hcm.2.2.1,⟨hcm.1,hcm.2.1,by dsimp only;rw[hh2];have:=o.hard;omega,hhd2,hp2,by dsimp only;rw[hcm.2.2.2.2.2,hw2];have:=o.next;omega,by dsimp only;rw[hfr2];have:=o.next;omega,by dsimp only;rw[hcm.2.2.2.1,hsn2],?_⟩,?_⟩
  all_goals simp_all [Lg.rl]
 rw[aab hf,aab hf];exact ⟨I,h.mono qo,o.up qo qo,I⟩
end
section
inductive Rw:List Int->Dk->Dk->Prop
 | refl (A:List Int) (D:Dk):Rw A D D
 | write {A:List Int} {D E:Dk} (a n:Int) (b:List UInt8):a∈A->Rw A D E->Rw A D (E.write a n b).1
 | sync {A:List Int} {D E:Dk} (a:Int):Rw A D E->Rw A D (E.sync a).1
 | free {A:List Int} {D E:Dk} (a:Int):Rw A D E->Rw A D (E.free a).1
def Rw.mono{A B:List Int}{D E:Dk}(h:Rw A D E)(hs:∀ a∈A,a∈B):Rw B D E:=by
 induction h with
 | refl=>exact Rw.refl _ _
 | write a n b ha _ ih=>exact ih.write a n b (hs a ha)
 | sync a _ ih=>exact ih.sync a
 | free a _ ih=>exact ih.free a
def Rw.trans{A:List Int}{D E:Dk}(h:Rw A D E){F:Dk}(g:Rw A E F):Rw A D F:=by
 induction g with
 | refl=>exact h
 | write a n b ha _ ih=>exact ih.write a n b ha
 | sync a _ ih=>exact ih.sync a
 | free a _ ih=>exact ih.free a
def Rw.keys{A:List Int}{D E:Dk}(h:Rw A D E):∀ k∈E.areas.map (·.1),k∈D.areas.map (·.1)\/k∈A:=by
 induction h with
 | refl=>exact fun k hk=>.inl hk
 | write a n b ha _ ih=>
  rename_i E _;unfold Dk.write
  split
  ·exact ih
  split
  ·exact ih
  split
  ·exact ih
  intro k hk;obtain ⟨x,hx,rfl⟩:=aap.1 hk;rcases iu hx with rfl|hx
  all_goals grind
 | sync a _ ih=>
  rename_i E _;unfold Dk.sync
  split
  ·exact ih
  split
  ·exact ih
  grind [pB]
 | free a _ ih=>
  rename_i E _;unfold Dk.free
  split
  ·exact ih
  split
  ·exact ih
  intro k hk;obtain ⟨x,hx,rfl⟩:=aap.1 hk;exact ih _ (aap.2 ⟨x,(kF (k:=a) E.areas).subset hx,I⟩)
def Rk(k:Nat)(D E:Dk):Prop:=∃ A:List Int,eq A<=k/\Rw A D E
theorem Rk.of{k:Nat}(D:Dk):Rk k D D:=⟨[],aad k,Rw.refl _ D⟩
theorem Rk.up{k j:Nat}{D E:Dk}(h:Rk k D E)(g:k<=j):Rk j D E:=let ⟨A,h1,h2⟩:=h;⟨A,qo,h2⟩
theorem Rk.trans{k j:Nat}{D E F:Dk}(h:Rk k D E)(g:Rk j E F):Rk (k+j) D F:=by
 obtain ⟨A,h1,h2⟩:=h;obtain ⟨B,g1,g2⟩:=g;exact ⟨A++B,by rw[aah];omega,(h2.mono fun a ha=>aaj.2 (.inl ha)).trans (g2.mono fun a ha=>aaj.2 (.inr ha))⟩
theorem Rk.sync{k:Nat}{D E:Dk}(h:Rk k D E)(a:Int):Rk k D (E.sync a).1:=let ⟨A,h1,h2⟩:=h;⟨A,h1,h2.sync a⟩
theorem Rk.free{k:Nat}{D E:Dk}(h:Rk k D E)(a:Int):Rk k D (E.free a).1:=let ⟨A,h1,h2⟩:=h;⟨A,h1,h2.free a⟩
def Rk.len{k c:Nat}{D E:Dk}(h:Rk k D E)(o:E.Ok c):eq E.areas<=eq D.areas+k:=by
 obtain ⟨A,h1,h2⟩:=h;have:=acz o.keys (l₂:=D.areas.map (·.1)++A) (fun a ha=>aaj.2 (h2.keys a ha))
 grind
def rk(S:bZ)(area:Nat)(D:Dk)(v:List UInt8):Rw [((area:Nat):Int)] D (S.save area D v).2.1:=by
 unfold bZ.save
 split
 ·exact Rw.refl _ D
 split
 ·exact ((Rw.refl _ D).write _ _ _ Nm).sync _
 exact (Rw.refl _ D).write _ _ _ Nm
theorem B8:∀ (f:Nat) (o:fq) (D:Dk),Rw [aK o.num] D (wrL f o D).2.1
 | 0,o,D=>Rw.refl _ D
 | f+1,o,D=>by
  have hw:=(Rw.refl [aK o.num] D).write (aK o.num) o.full (UInt8.ofNat (min (eq o.rest) 63)::o.rest.take (min (eq o.rest) 63)) Nm;rw[nq]
  split
  ·exact hw
  split
  ·exact hw
  exact hw.trans<|B8 f { o with full:=o.full+1,rest:=o.rest.drop 63 } _
def vp(o:fq)(b:List UInt8)(D:Dk):Rw [aK o.num] D (wrO o b D).2.1:=B8 (eq o.rest+eq b+1) { o with rest:=o.rest++b } D
def pI(A:List Int)(W:Wl)(D:Dk):Rw A D (W.sync D).2:=by
 unfold Wl.sync
 split
 ·exact Rw.refl _ D
 split
 ·exact Rw.refl _ D
 exact (Rw.refl _ D).sync _
def uy(W:Wl)(i:Nat)(D:Dk):Rw [aK W.next] D (W.begin i D).2:=by
 unfold Wl.begin
 split
 ·simp[pI]
 exact (pI _ W D).trans<|vp ⟨W.next,i,0,[]⟩ (aI i) _
def uJ(W:Wl)(A:List Int)(hA:∀ q,W.op=some q->aK q.num∈A)(b:List UInt8)(D:Dk):Rw A D (dl W b D).2.1:=by
 unfold dl;cases hop:W.op with
 | none=>exact Rw.refl _ D
 | some q=>exact (vp q (cm b) D).mono fun a ha=>by simp_all
def GV{W:Wl}{i:Nat}{D:Dk}(h:(W.begin i D).1.code=0):∀ q,(W.begin i D).1.op=some q->q.num=W.next:=by
 intro q hq;unfold Wl.begin at h hq
 split at hq
 ·simp_all
 grind [pN]
def Fj(W:Wl)(b:List UInt8)(D:Dk):Rk 1 D (W.append b D).2.1:=by
 unfold Wl.append
 split
 ·exact Rk.of D
 split
 ·exact Rk.of D
 split
 ·exact Rk.of D
 split
 ·have hb:=uy W (W.first+eq W.recs) D
  split
  ·exact ⟨_,aac _,hb⟩
  rename_i h2;have hn:=GV (Decidable.not_not.1 h2);exact ⟨[aK W.next],aac _,hb.trans (uJ _ _ (fun q hq=>by rw[hn q hq];simp) b _)⟩
 cases hop:W.op with
 | none=>exact ⟨[],aad _,uJ W [] (fun q hq=>by rw[hop] at hq;cases hq) b D⟩
 | some o=>exact ⟨[aK o.num],aac _,uJ W _ (fun q hq=>by rw[hop] at hq;cases hq;simp) b D⟩
def F8(W:Wl)(i:Nat)(D:Dk):Rk 1 D (W.truncate i D).2.1:=by
 unfold Wl.truncate
 split
 ·exact Rk.of D
 split
 ·exact Rk.of D
 split
 ·exact Rk.of D
 exact ⟨_,aac _,uy W i D⟩
theorem zM(A:List Int)(i:Nat):∀ (f:Nat) (old:List (Nat×Nat)) (D:Dk),Rw A D (wfree i f old D).2.1
 | 0,old,D=>Rw.refl _ D
 | f+1,old,D=>by
  unfold Go.En.wfree
  split
  ·split
   ·exact (Rw.refl _ D).free _
   exact ((Rw.refl _ D).free _).trans<|zM A i f _ _
  exact Rw.refl _ D
def EL(W:Wl)(i:Nat)(D:Dk):Rw [aK W.next] D (W.compact2 i D).2:=by
 unfold Wl.compact2 Wl.compact1
 split
 ·exact (uy W i D).trans<|pI _ _ _
 simp[pI]
def Fl(W:Wl)(i:Nat)(D:Dk):Rw [aK W.next] D (W.compact i D).2.1:=by
 have h2:=EL W i D;have h3:=h2.trans (zM _ i (eq (W.compact2 i D).1.old+1) (W.compact2 i D).1.old (W.compact2 i D).2);unfold Wl.compact
 split
 ·exact Rw.refl _ D
 split
 ·exact Rw.refl _ D
 split
 ·exact Rw.refl _ D
 grind
theorem t7(A:List Int):∀ (l:List Int) (D:Dk),Rw A D (wreset l D).1
 | [],D=>Rw.refl _ D
 | a::r,D=>by
  unfold Go.En.wreset
  split
  ·split
   ·exact ((Rw.refl _ D).free a).trans<|t7 A r _
   exact (Rw.refl _ D).free a
  exact t7 A r D
def He(A:List Int)(W:Wl)(first:Nat)(D:Dk):Rw A D (W.reset first D).2.1:=by
 have h1:=t7 A (aU D) D;unfold Wl.reset
 split
 ·exact Rw.refl _ D
 split
 ·exact Rw.refl _ D
 split
 all_goals omega
theorem uj(W:Wl)(i:Nat)(D:Dk):eq (W.begin i D).1.old<=eq W.old+1:=by
 unfold Wl.begin
 split
 ·rw[Wl.sync_eq];simp
 simp
theorem zz(W:Wl)(b:List UInt8)(D:Dk):(dl W b D).1.old=W.old:=by
 unfold dl
 split <;> rfl
def FO(W:Wl)(b:List UInt8)(D:Dk):eq (W.append b D).1.old<=eq W.old+1:=by
 unfold Wl.append
 split
 ·simp
 split
 ·simp
 split
 ·simp
 split
 ·grind [uj,zz]
 simp[zz]
def FU(W:Wl)(i:Nat)(D:Dk):eq (W.truncate i D).1.old<=eq W.old+1:=by
 unfold Wl.truncate
 split
 ·simp
 split
 ·simp
 split
 ·simp
 grind [uj]
def xJ(W:Wl)(i:Nat)(D:Dk):eq (W.compact2 i D).1.old<=eq W.old+1:=by
 unfold Wl.compact2;rw[Wl.sync_eq];unfold Wl.compact1
 split
 all_goals simp[uj]
theorem yE(i:Nat):∀ (f:Nat) (old:List (Nat×Nat)) (D:Dk),(wfree i f old D).1 <:+ old
 | 0,old,D=>abh _
 | f+1,old,D=>by
  unfold Go.En.wfree
  split
  ·split
   ·exact abh _
   exact (yE i f _ _).trans<|acy 1 old
  exact abh _
def EZ(W:Wl)(i:Nat)(D:Dk):eq (W.compact i D).1.old<=eq W.old+1:=by
 have h2:=xJ W i D;have h3:=(yE i (eq (W.compact2 i D).1.old+1) (W.compact2 i D).1.old (W.compact2 i D).2).length_le
 grind [Wl.compact]
def F9(W:Wl)(i:Nat)(D:Dk):eq (W.reset i D).1.old<=eq W.old:=by
 grind [Wl.reset]
structure Rn (c q:Nat) (L:Lg) (D:Dk):Prop where
 lb:bp c L
 ok:aP c D
 old:eq L.w.old<=q
 ar:eq D.areas<=q
theorem Rn.up{c q c' q':Nat}{L:Lg}{D:Dk}(o:Rn c q L D)(h:c<=c')(h':q<=q'):Rn c' q' L D:=⟨o.lb.up h,o.ok.up h,by have:=o.old;omega,by have:=o.ar;omega⟩
theorem tf(D:Dk):eq (aU D)=eq D.areas:=by unfold aU;rw[(dJ _).length_eq,aaO]
def Fk(L:Lg)(D:Dk)(t:Nat)(v:Int):Rk 1 D (L.setHard D t v).2.1:=by
 have h:Rk 1 D (L.hard.save 0 D (aI t++aI (v+1).toNat)).2.1:=⟨_,aac _,rk L.hard 0 D (aI t++aI (v+1).toNat)⟩
 grind [Rk.of,Lg.setHard]
theorem Rn.setHard{c q:Nat}{L:Lg}{D:Dk}(o:Rn c q L D)(t:Nat)(v:Int)(ht:t<=ac):Rn (c+2) (q+1) (L.setHard D t v).1 (L.setHard D t v).2.1:=by
 have hok:aP (c+2) (L.setHard D t v).2.1:=by
  have h:=o.ok.save L.hard 0 qo (aI t++aI (v+1).toNat);unfold Lg.setHard
  split
  ·exact o.ok.up qo
  split
  ·exact o.ok.up qo
  split
  ·exact o.ok.up qo
  split <;> exact h.up qo
 refine ⟨(o.lb.setHard D t v ht).up qo,hok,?_,?_⟩
 ·have:(L.setHard D t v).1.w=L.w:=by
   grind [Lg.setHard]
  rw[this];have:=o.old;omega
 have:=(Fk L D t v).len hok.ok;have:=o.ar;omega
theorem BQ:∀ (x:List af) (L:Lg) (D:Dk) (c:Nat),bp c L->aP c D->(∀ e∈x,ic e)->c+12*eq x<=999999990->Rk (eq x) D (Lg.app1 x L D).2.1/\eq (Lg.app1 x L D).1.w.old<=eq L.w.old+eq x
 | [],L,D,c,_,_,_,_=>⟨Rk.of D,aac _⟩
 | e::r,L,D,c,o,d,hx,hc=>by
  simp only[aan] at hc;have h1:=Fj L.w e.bytes D;have h2:=FO L.w e.bytes D;rw[qO]
  split
  ·exact ⟨h1.up (by simp only[aan];omega),by dsimp only;simp only[aan];omega⟩
  have h3:=BQ r _ _ (c+12) (o.w2 e.bytes D e (hx e Nm)) (d.append o.w qo e.bytes) (fun y hy=>hx y (by simp[hy])) qo;exact ⟨(h1.trans h3.1).up (by simp only[aan];omega),by have:=h3.2;dsimp only at this;simp only[aan];omega⟩
theorem zo{c:Nat}{L:Lg}(o:bp c L){D:Dk}(d:aP c D)(x:List af)(hx:∀ e∈x,e.idx<=ac/\e.term<=ac)(hc:c+12*eq x<=999999990):Rk (eq x) D (L.append x D).2.1/\eq (L.append x D).1.w.old<=eq L.w.old+eq x:=by
 unfold Lg.append
 split
 ·simp[Rk.of]
 split
 ·simp[Rk.of]
 rename_i h;have hok:=mq (Decidable.not_not.1 h);exact BQ x L D c o d (fun e he=>⟨hok e he,hx e he⟩) hc
theorem Rn.append{c q:Nat}{L:Lg}{D:Dk}(o:Rn c q L D)(x:List af)(hx:∀ e∈x,e.idx<=ac/\e.term<=ac)(hc:c+12*eq x<=999999990):Rn (c+12*eq x) (q+eq x) (L.append x D).1 (L.append x D).2.1:=by
 have h:=zo o.lb o.ok x hx hc;have h2:=o.lb.append o.ok x hx hc;have hl:=h.1.len h2.2.ok;exact ⟨h2.1,h2.2,by have:=o.old;omega,by have:=o.ar;omega⟩
theorem Rn.merge{c q:Nat}{L:Lg}{D:Dk}(o:Rn c q L D)(i t:Nat)(x:List af)(hx:∀ e∈x,e.idx<=ac/\e.term<=ac)(hc:c+2+12*eq x<=999999990):Rn (c+2+12*eq x) (q+1+eq x) (L.merge i t x D).1 (L.merge i t x D).2.1:=by
 have hb:=o.lb.merge o.ok i t x hx hc
 have h3:∀ (M:Lg) (E:Dk) (y:List af) (last b:Nat),bp b M->aP b E->(∀ e∈y,e.idx<=ac/\e.term<=ac)->b+12*eq y<=999999990->Rk (eq y) E (M.merge3 y last E).2.1/\eq (M.merge3 y last E).1.w.old<=eq M.w.old+eq y:=by
  grind [zo,Lg.merge3]
 have h2:∀ (y:List af) (last:Nat),(∀ e∈y,e.idx<=ac/\e.term<=ac)->eq y<=eq x->Rk (1+eq x) D (L.merge2 y last D).2.1/\eq (L.merge2 y last D).1.w.old<=eq L.w.old+1+eq x:=by
  intro y last hy hyl;have hsuf:=mh L.sn L.l y true;have hmem:∀ e∈(skp L.sn L.l y true).1,e.idx<=ac/\e.term<=ac:=fun e he=>hy e (hsuf.subset he);have hlen:=hsuf.length_le;unfold Lg.merge2
  split
  ·have:=h3 L D [] last c o.lb o.ok Nm (by simp;omega);exact ⟨this.1.up Nm,by grind⟩
  rename_i e r h;rw[h] at hmem hlen;have hie:e.idx<18446744073709551616:=by grind [ac]
  have hr:=F8 L.w e.idx D;have ho:=FU L.w e.idx D
  split
  ·split
   ·exact ⟨hr.up qo,aH⟩
   have:=h3 _ _ (e::r) last (c+2) ((o.lb.cutAt e.idx D).up (show c+1<=c+2 by omega)) (o.ok.truncate o.lb.w qo e.idx hie) hmem qo;exact ⟨(hr.trans this.1).up qo,by grind [Lg.cutAt]⟩
  have:=h3 L D (e::r) last c o.lb o.ok hmem qo;exact ⟨this.1.up qo,qo⟩
 have h1:∀ (i t:Nat) (y:List af) (last:Nat),(∀ e∈y,e.idx<=ac/\e.term<=ac)->eq y<=eq x->Rk (1+eq x) D (L.merge1 i t y last D).2.1/\eq (L.merge1 i t y last D).1.w.old<=eq L.w.old+1+eq x:=by
  grind [Rk.of,Lg.merge1]
 have h0:Rk (1+eq x) D D/\eq L.w.old<=eq L.w.old+1+eq x:=⟨Rk.of D,qo⟩
 have hm:Rk (1+eq x) D (L.merge i t x D).2.1/\eq (L.merge i t x D).1.w.old<=eq L.w.old+1+eq x:=by
  unfold Lg.merge
  split
  ·exact h0
  split
  ·exact h0
  split
  ·split
   ·exact h0
   split
   ·exact h0
   exact h1 _ _ _ _ (fun e he=>hx e<|aaM he) Nm
  exact h1 i t x _ hx<|aac _
 have hl:=hm.1.len hb.2.ok;exact ⟨hb.1,hb.2,by have:=hm.2;have:=o.old;omega,by have:=o.ar;omega⟩
def Hf(L:Lg)(D:Dk):Rk 0 D (L.sync D).2.1:=by
 unfold Lg.sync
 split
 ·exact Rk.of D
 exact ⟨[],aac _,pI [] L.w D⟩
def Gs(L:Lg)(D:Dk):(L.sync D).1.w.old=L.w.old:=by
 grind [Wl.sync_eq,Lg.sync]
theorem Rn.sync{c q:Nat}{L:Lg}{D:Dk}(o:Rn c q L D):Rn (c+1) q (L.sync D).1 (L.sync D).2.1:=
 ⟨(o.lb.sync D).up qo,o.ok.syncL L,by rw[Gs];exact o.old,by have:=(Hf L D).len (o.ok.syncL L).ok;have:=o.ar;omega⟩
theorem vq(place:Nat):∀ (f n:Nat) (b:List UInt8) (D:Dk),Rw [((bu place:Nat):Int)] D (lgW place f n b D).1
 | 0,_,_,D=>Rw.refl _ D
 | f+1,n,b,D=>by
  rw[pL]
  split
  ·exact Rw.refl _ D
  have h1:=(Rw.refl [((bu place:Nat):Int)] D).write (bu place) n (b.take 64) Nm
  split
  ·exact h1
  exact h1.trans<|vq place f (n+1) (b.drop 64) _
def Kr(L:Lg)(s:aX)(fr:Nat)(D:Dk):Rk 2 D (L.lay s fr D).2.1:=by
 have h1:Rk 1 D (lgW (L.place+1) (eq s.data+1) 0 s.data D).1:=⟨_,aac _,vq (L.place+1) (eq s.data+1) 0 s.data D⟩;unfold Lg.lay
 split
 ·exact h1.up qo
 unfold Lg.lay1;have h2:=h1.sync (bu (L.place+1))
 split
 ·exact h2.up qo
 unfold Lg.lay2;have h3:=h2.trans (⟨_,aac _,rk L.head 4 _ (Lg.say s (L.place+1) fr)⟩:Rk 1 _ _)
 split
 ·exact h3
 unfold Lg.lay3;exact h3.free (bu L.place)
def LF(L:Lg)(s:aX)(fr:Nat)(D:Dk):(L.lay s fr D).1.w=L.w:=by
 unfold Lg.lay
 split
 ·rfl
 unfold Lg.lay1
 split
 ·rfl
 unfold Lg.lay2
 split
 all_goals rfl
def BB{L:Lg}{s:aX}(h:L.fits s=0):(bU s.vot).isSome=true/\eq s.data<=2097152/\L.sn.idx<s.idx/\s.idx<bH:=by
 grind [Lg.fits]
def BC{L:Lg}{s:aX}(h:L.fits s=0)(ht:s.term<=ac):m7 s:=by
 obtain ⟨h1,h2,h3,h4⟩:=BB h;exact ⟨qo,ht,qx h1,h2⟩
theorem Rn.compact{c q:Nat}{L:Lg}{D:Dk}(o:Rn c q L D)(i:Nat)(hi:i<18446744073709551616)(hc:c<=1000000000):
  Rn (c+4+q) (q+1) { L with w:=(L.w.compact i D).1,code:=(L.w.compact i D).2.2 } (L.w.compact i D).2.1:=
 have hok:aP (c+4+q) (L.w.compact i D).2.1:=(o.ok.compact o.lb.w hc i hi).up (by have:=xJ L.w i D;have:=o.old;omega)
 ⟨o.lb.wc ((o.lb.w.compact i D).up qo) qo _,hok,
  by have:=EZ L.w i D;have:=o.old;dsimp only;omega,by have:=Rk.len ⟨_,aac _,Fl L.w i D⟩ hok.ok;have:=o.ar;grind⟩
def Rn.resetL{c q:Nat}{L:Lg}{D:Dk}(o:Rn c q L D)(i:Nat):
  Rn (c+q) q { L with w:=(L.w.reset i D).1,code:=(L.w.reset i D).2.2 } (L.w.reset i D).2.1:=
 have hok:aP (c+q) (L.w.reset i D).2.1:=(o.ok.reset L.w i).up (by rw[tf];have:=o.ar;omega)
 ⟨o.lb.wc ((o.lb.w.reset i D).up qo) qo _,hok,
  by have:=F9 L.w i D;have:=o.old;dsimp only;omega,by have:=Rk.len ⟨_,aac _,He [] L.w i D⟩ hok.ok;have:=o.ar;simp only[aaT] at *;omega⟩
theorem Rn.lay{c q k:Nat}{L:Lg}{D:Dk}(o:Rn c q L D)(s:aX)(hs:m7 s)(fr:Nat)(hfr:fr<=cG+(c+1))(hc:c<=999000000)(hk:(eq s.data+63) / 64<=k):Rn (c+(k+4)) (q+2) (L.lay s fr D).1 (L.lay s fr D).2.1:=
 have hok:aP (c+(k+4)) (L.lay s fr D).2.1:=(o.ok.layL o.lb hc s hs fr).up qo
 ⟨(o.lb.lay s hs fr hfr D).up qo,hok,by rw[LF];have:=o.old;omega,by have:=(Kr L s fr D).len hok.ok;have:=o.ar;omega⟩
theorem Rn.save{c q k:Nat}{L:Lg}{D:Dk}(o:Rn c q L D)(s:aX)(hst:s.term<=ac)(hc:c<=499900000)(hk:(eq s.data+63) / 64<=k):Rn (c+(2*k+q+20)) (q+3) (L.save s D).1 (L.save s D).2.1:=by
 unfold Lg.save
 split
 ·exact o.up qo qo
 rename_i hf;have hf:=Decidable.not_not.1 hf;have hs:=BC hf hst
 split
 ·exact o.up qo qo
 unfold Lg.save1;have h1:=o.sync
 split
 ·exact h1.up qo qo
 unfold Lg.save2;have hkk:(eq s.data+63) / 64<=32769:=by have:=hs.data;omega
 have h2:=h1.lay (k:=(eq s.data+63) / 64) s hs (L.sync D).1.fr (by have:=h1.lb.fr;omega) qo (aac _)
 split
 ·exact h2.up qo qo
 exact (h2.compact (s.idx+1) (by have:=hs.idx;unfold bH at this;omega) qo).up qo qo
theorem Rn.install{c q k:Nat}{L:Lg}{D:Dk}(o:Rn c q L D)(s:aX)(hst:s.term<=ac)(hc:c<=499900000)(hk:(eq s.data+63) / 64<=k):Rn (c+(2*k+q+20)) (q+3) (L.install s D).1 (L.install s D).2.1:=by
 unfold Lg.install
 split
 ·exact o.up qo qo
 rename_i hf;have hf:=Decidable.not_not.1 hf;have hs:=BC hf hst
 split
 ·exact o.save s hst hc hk
 unfold Lg.inst1;have h2:=o.lay (k:=(eq s.data+63) / 64) s hs L.w.next (by have:=o.lb.w.next;omega) qo (aac _)
 split
 ·exact h2.up qo qo
 exact (h2.resetL (s.idx+1)).up qo qo
end
section
def kD{s:aX}{l:List af}{i:Nat}(h:(trm s l i).2=true):s.idx<=i/\i<=s.idx+eq l:=by
 grind [trm]
theorem qQ{s:aX}{l:List af}{i n:Nat}(h:i<=s.idx+n)(hn:n<=eq l):trm s (l.take n) i=trm s l i:=by
 grind [trm]
theorem kC(i t:Nat)(e:af)(r:List af):cH i t (e::r)=if e.idx≠i+1\/e.term<t then 180 else cH e.idx e.term r:=rfl
def nI{i t:Nat}{e:af}{r:List af}(h:cH i t (e::r)=0):e.idx=i+1/\t<=e.term/\cH e.idx e.term r=0:=by
 grind [kC]
theorem l7:∀ (x:List af) (i t k:Nat) (e:af) (r:List af),cH i t x=0->x.drop k=e::r->e.idx=i+k+1/\cH e.idx e.term r=0
 | [],i,t,k,e,r,_,h=>by simp at h
 | a::x,i,t,0,e,r,hf,h=>by
  cases h;have:=nI hf;omega
 | a::x,i,t,k+1,e,r,hf,h=>by
  have h1:=nI hf;have:=l7 x a.idx a.term k e r h1.2.2 (by simpa using h);exact ⟨qo,this.2⟩
def z9{i t:Nat}{x:List af}(hok:∀ e∈x,e.ok)(hf:cH i t x=0):eA i t x=0:=by
 simp_all [l6,eA]
theorem nN(s:aX)(l:List af):∀ (x:List af) (i t:Nat) (b:Bool),cH i t x=0->trm s l i=(t,true)->∀ e r B,skp s l x b=(e::r,B) ->
  ∃ u,i<e.idx/\trm s l (e.idx-1)=(u,true)/\cH (e.idx-1) u (e::r)=0/\B=(trm s l e.idx).2
 | [],i,t,b,_,_,e,r,B,h=>by cases h
 | a::x,i,t,b,hf,ht,e,r,B,h=>by
  have h1:=nI hf;rw[pH] at h
  by_cases hc:(trm s l a.idx).2=false\/(trm s l a.idx).1≠a.term
  ·simp_all
  rw[aaa hc] at h;have hc:=not_or.1 hc;have h2:trm s l a.idx=(a.term,true):=Prod.ext (Decidable.not_not.1 hc.2) (by simpa using hc.1);obtain ⟨u,g1,g2⟩:=nN s l x a.idx a.term true h1.2.2 h2 e r B h;exact ⟨u,qo,g2⟩
theorem du.merge3{k q n:Nat}{L:Lg}{D:Dk}(o:du k q L)(x:List af)(last:Nat)(h:bD (n+11*eq x) D)(hx:∀ e∈x,e.idx<=ac/\e.term<=ac)(hl:L.sn.idx+eq L.l+eq x<2*bH)
  (hf:cH L.last (trm L.sn L.l L.last).1 x=0) (hok:∀ e∈x,e.ok):
  (L.merge3 x last D).2.2=(last,true,0)/\bD n (L.merge3 x last D).2.1/\du k (q+eq x) (L.merge3 x last D).1/\(L.merge3 x last D).1.rl={ L.rl with l:=L.l++x }:=by
 have h1:=o.append x h hx hl
 have h0:L.rl.append x=({ L.rl with l:=L.l++x },0):=by
  unfold Rl.append;rw[aaa (by intro hc;exact hc (z9 hok hf))]
  rfl
 rw[h0] at h1;unfold Lg.merge3
 simp_all
theorem du.merge2{k q n:Nat}{L:Lg}{D:Dk}(o:du k q L)(i t:Nat)(hi:L.sn.idx<=i)(x:List af)(last:Nat)(h:bD (n+1+11*eq x) D)(hx:∀ e∈x,e.idx<=ac/\e.term<=ac)(hl:L.sn.idx+eq L.l+eq x<2*bH)
  (hf:cH i t x=0) (hok:∀ e∈x,e.ok) (ht:trm L.sn L.l i=(t,true)):
  (L.merge2 x last D).2.2=(L.rl.merge2 x last).2/\bD n (L.merge2 x last D).2.1/\du k (q+1+eq x) (L.merge2 x last D).1/\(L.merge2 x last D).1.rl=(L.rl.merge2 x last).1:=by
 obtain ⟨⟨y,B⟩,hy⟩:∃ p,skp L.sn L.l x true=p:=⟨_,rfl⟩;have hy2:skp L.rl.sn L.rl.l x true=(y,B):=hy;have hsuf:=mh L.sn L.l x true;rw[hy] at hsuf;dsimp only at hsuf;have hlen:=hsuf.length_le;cases y with
 | nil=>
  rw[tQ hy,nf hy2];have h1:=o.merge3 (n:=n) [] last (h.mono (by simp;omega)) Nm (by simp;omega) rfl Nm;refine ⟨h1.1,h1.2.1,h1.2.2.1.up (aac _) (by simp;omega),?_⟩;rw[h1.2.2.2,aar]
  rfl
 | cons e r=>
  obtain ⟨u,g1,g2,g3,g4⟩:=nN L.sn L.l x i t true hf ht e r B hy;have hie:=hx e (hsuf.subset Nm);have hie2:e.idx<18446744073709551616:=by have:=hie.1;unfold ac at this;omega
  have g5:=kD (s:=L.sn) (l:=L.l) (i:=e.idx-1) (by rw[g2]);rw[tq hy,na hy2];cases hB:B with
  | true=>
   subst hB;have g6:=kD (s:=L.sn) (l:=L.l) (i:=e.idx) g4.symm;have hTt:=o.w.truncate (n:=n+11*eq (e::r)) (h.mono qo) e.idx hie2 (by rw[o.first];omega) (by rw[o.first,o.recs];omega);rw[aab rfl,aaa qo]
   have hat:(ei L.sn L.l e.idx).getD 0=e.idx-L.sn.idx-1:=by
    grind [ei]
   have hMl:(L.cutAt e.idx (L.w.truncate e.idx D).1).l=L.l.take (e.idx-L.sn.idx-1):=by unfold Lg.cutAt;dsimp only;rw[hat]
   have hlt:eq (L.l.take (e.idx-L.sn.idx-1))=e.idx-L.sn.idx-1:=by rw[aam];omega
   have hM:du k (q+1) (L.cutAt e.idx (L.w.truncate e.idx D).1):=
    ⟨o.code,hTt.2.1,o.hard,o.head,o.place,by have:=o.next;grind [Lg.cutAt],by have:=o.fr;unfold Lg.cutAt;dsimp only;omega,by unfold Lg.cutAt;dsimp only;rw[hTt.2.2.2.1];exact o.first,by
     rw[hMl,hlt];unfold Lg.cutAt;dsimp only;rw[hTt.2.2.2.2.1,aam,o.first,o.recs];omega⟩
   have hsn:(L.cutAt e.idx (L.w.truncate e.idx D).1).sn=L.sn:=rfl
   have hla:(L.cutAt e.idx (L.w.truncate e.idx D).1).last=e.idx-1:=by
    grind [Lg.last]
   have h3:=hM.merge3 (n:=n) (e::r) last hTt.2.2.1 (fun a ha=>hx a (hsuf.subset ha)) (by rw[hMl,hlt,hsn];omega) (by
    grind [qQ]) (fun a ha=>hok a (hsuf.subset ha))
   refine ⟨h3.1,h3.2.1,h3.2.2.1.up (aac _) qo,?_⟩;rw[h3.2.2.2,hMl]
   rfl
  | false=>
   subst hB
   have g6:e.idx=L.sn.idx+eq L.l+1:=by
    grind [trm]
   rw[aaa Nm];have hla:L.last=e.idx-1:=by unfold Lg.last;omega
   have h3:=o.merge3 (n:=n) (e::r) last (h.mono qo) (fun a ha=>hx a (hsuf.subset ha)) qo (by rw[hla,g2];exact g3) (fun a ha=>hok a (hsuf.subset ha));refine ⟨h3.1,h3.2.1,h3.2.2.1.up (aac _) qo,?_⟩;rw[h3.2.2.2]
   have:L.rl.l.take (e.idx-L.rl.sn.idx-1)=L.l:=by
    show L.l.take (e.idx-L.sn.idx-1)=L.l;rw[show e.idx-L.sn.idx-1=eq L.l by omega,aaE]
   rw[this]
theorem du.merge1{k q n:Nat}{L:Lg}{D:Dk}(o:du k q L)(i t:Nat)(hi:L.sn.idx<=i)(x:List af)(last:Nat)(h:bD (n+1+11*eq x) D)(hx:∀ e∈x,e.idx<=ac/\e.term<=ac)(hl:L.sn.idx+eq L.l+eq x<2*bH)
  (hf:cH i t x=0) (hok:∀ e∈x,e.ok):
  (L.merge1 i t x last D).2.2=(L.rl.merge1 i t x last).2/\bD n (L.merge1 i t x last D).2.1/\du k (q+1+eq x) (L.merge1 i t x last D).1/\(L.merge1 i t x last D).1.rl=(L.rl.merge1 i t x last).1:=by
 unfold Lg.merge1 Rl.merge1
 by_cases hc:(trm L.sn L.l i).2=false\/(trm L.sn L.l i).1≠t
 ·rw[aab hc,aab (show (trm L.rl.sn L.rl.l i).2=false\/(trm L.rl.sn L.rl.l i).1≠t from hc)];exact ⟨I,h.mono qo,o.up (aac _) qo,I⟩
 rw[aaa hc,aaa (show ¬((trm L.rl.sn L.rl.l i).2=false\/(trm L.rl.sn L.rl.l i).1≠t) from hc)];have hc:=not_or.1 hc;exact o.merge2 i t hi x last h hx hl hf hok (Prod.ext (Decidable.not_not.1 hc.2) (by simpa using hc.1))
theorem du.merge{k q n:Nat}{L:Lg}{D:Dk}(o:du k q L)(i t:Nat)(x:List af)(h:bD (n+1+11*eq x) D)(hx:∀ e∈x,e.idx<=ac/\e.term<=ac)(hl:L.sn.idx+eq L.l+eq x<2*bH):
  (L.merge i t x D).2.2=(L.rl.merge i t x).2/\bD n (L.merge i t x D).2.1/\du k (q+1+eq x) (L.merge i t x D).1/\(L.merge i t x D).1.rl=(L.rl.merge i t x).1:=by
 have h0:bD n D/\du k (q+1+eq x) L:=⟨h.mono qo,o.up (aac _) qo⟩;have hsn:L.rl.sn=L.sn:=rfl;unfold Lg.merge Rl.merge;rw[aaa (by rw[o.code];simp),hsn]
 by_cases hf:eA i t x≠0
 ·simp_all
 rw[aaa hf,aaa hf];have hf:=Decidable.not_not.1 hf;have hok:=mq hf;have hfR:=lw hf
 by_cases hi:i<L.sn.idx
 ·rw[aab hi,aab hi]
  by_cases h1:i+eq x<L.sn.idx
  ·simp_all
  rw[aaa h1,aaa h1]
  by_cases h2:((x.drop (L.sn.idx-i)).head?.map fun e=>decide (e.term<L.sn.term))=some true
  ·simp_all
  rw[aaa h2,aaa h2];have hdl:eq (x.drop (L.sn.idx-i))<=eq x:=by simp
  have hm:=o.merge1 (n:=n) L.sn.idx L.sn.term (aac _) (x.drop (L.sn.idx-i)) (i+eq x) (h.mono qo) (fun e he=>hx e (aaM he)) qo (by
   cases hd:x.drop (L.sn.idx-i) with
   | nil=>rfl
   | cons e r=>
    have h3:=l7 x i t _ e r hfR hd;rw[hd] at h2;simp at h2;rw[kC,aaa qo];exact h3.2) (fun e he=>hok e (aaM he))
  exact ⟨hm.1,hm.2.1,hm.2.2.1.up (aac _) qo,hm.2.2.2⟩
 rw[aaa hi,aaa hi];exact o.merge1 i t qo x _ h hx hl hfR hok
end
section
def dG(K:PH)(lb db:Nat)(L:Lg)(D:Dk)(h:PH):Prop:=∃ m,h=cZ m/\gT m/\dF K lb db L D m
theorem dG.le{K K':PH}(l:Le K K'){lb db:Nat}{L:Lg}{D:Dk}{h:PH}(x:dG K lb db L D h):dG K' lb db L D h:=let ⟨m,h1,h2,h3⟩:=x;⟨m,h1,h2,h3.le l⟩
section
variable {w0:World} {K h:PH} {hs:List PH}
def vz{f:FuncId}{args:List Value}{lb db:Nat}{L:Lg}{D:Dk}{u:Value}(hL:dG K lb db L D h)(c:∀ m,dF K lb db L D m->aj w0 f args K (m++hs) (fun v K' hs'=>K'=K/\hs'=m++hs/\v=u)):aj w0 f args K (h::hs) (fun v K' hs'=>K'=K/\hs'=h::hs/\v=u):=by
 obtain ⟨m,rfl,d,hm⟩:=hL;refine Ct.bun2 d (c m hm) ?_
 grind
def rL{f:FuncId}{args:List Value}{lb db:Nat}{L:Lg}{D:Dk}{S:Value->PH->Prop}(hL:dG K lb db L D h)(c:∀ m,dF K lb db L D m->aj w0 f args K (m++hs) (fun v K' hs'=>Le K K'/\hs'=m++hs/\S v K')):aj w0 f args K (h::hs) (fun v K' hs'=>∃ h',hs'=h'::hs/\h'=h/\Le K K'/\S v K'):=by
 obtain ⟨m,rfl,d,hm⟩:=hL;refine Ct.bun2 d (c m hm) ?_
 grind
def n9{f:FuncId}{args:List Value}{lb db:Nat}{L L':Lg}{D D':Dk}{u:Value}(hL:dG K lb db L D h)(c:∀ m,dF K lb db L D m->aj w0 f args K (m++hs) (fun v K' hs'=>Le K K'/\∃ m',hs'=m'++hs/\dF K' lb db L' D' m'/\v=u)):aj w0 f args K (h::hs) (fun v K' hs'=>∃ h',hs'=h'::hs/\Le K K'/\dG K' lb db L' D' h'/\v=u):=by
 obtain ⟨m,rfl,d,hm⟩:=hL;refine Ct.bun2 d (c m hm) ?_;rintro v K' hs' ⟨le,m',rfl,hm',rfl⟩;exact ⟨m',hs,I,fun d'=>⟨_,I,le,⟨m',I,d',hm'⟩,I⟩⟩
variable (lb db:Nat) (L:Lg) (D:Dk) (c:Nat)
def rX(hL:dG K lb db L D h):aj w0 42 [Nr lb] K (h::hs) (fun v K' hs'=>K'=K/\hs'=h::hs/\v=.agg #[.int .u64 L.kt,.int .i64 L.kv]):=
 vz hL fun m hm=>KV lb db L D hm
def j8(hb:bp c L)(hc:c<=1000000000)(hL:dG K lb db L D h):aj w0 18 [Nr lb] K (h::hs) (fun v K' hs'=>K'=K/\hs'=h::hs/\v=.int .u64 (L.sn.idx+eq L.l:Nat)):=
 vz hL fun m hm=>nQ lb db L D c hb hc hm
def lO(hb:bp c L)(hc:c<=1000000000)(hL:dG K lb db L D h)(i:Nat)(hi:i<18446744073709551616):aj w0 89 [Nr lb,.int .u64 (i:Nat)] K (h::hs) (fun v K' hs'=>K'=K/\hs'=h::hs/\v=DU (trm L.sn L.l i)):=
 vz hL fun m hm=>mp lb db L D c hb hc hm i hi
def pX(hb:bp c L)(hL:dG K lb db L D h):aj w0 17 [Nr lb] K (h::hs) (fun v K' hs'=>∃ h',hs'=h'::hs/\h'=h/\Le K K'/\DP K' L.sn v):=
 rL hL fun m hm=>B5 lb db L D c hb hm
def KY(hb:bp c L)(hc:c<=1000000000)(hL:dG K lb db L D h)(i:Nat)(hi:i<18446744073709551616):aj w0 19 [Nr lb,.int .u64 (i:Nat)] K (h::hs)
  (fun v K' hs'=>∃ h',hs'=h'::hs/\h'=h/\Le K K'/\∃ e ao cap t,v=.tuple #[.agg (af.v e ao cap),.bool t]/\aw K' ao (eq e.data) cap 1 (bv e.data) /\
   match ei L.sn L.l i with
   | none=>t=false/\e=af.zero
   | some k=>t=true/\L.l[k]?=some e):=
 rL hL fun m hm=>JH lb db L D c hb hc hm i hi
def HL(hb:bp c L)(hc:c<=1000000000)(hL:dG K lb db L D h)(i:Nat)(hi:i<18446744073709551616)(most:Int)(hmo : -9223372036854775808<=most/\most<=9223372036854775807):aj w0 16 [Nr lb,.int .u64 (i:Nat),.int .i64 most] K (h::hs)
  (fun v K' hs'=>∃ h',hs'=h'::hs/\h'=h/\Le K K'/\∃ ao cap,v=.slice ao (eq (gW L.sn L.l i most)) cap/\dn 4 (dB K') K' ao (eq (gW L.sn L.l i most)) cap (gW L.sn L.l i most)):=
 rL hL fun m hm=>GH lb db L D c hb hc hm i hi most hmo
def BI(hb:bp c L)(hc:c<=1000000000)(hL:dG K lb db L D h)(up:Nat)(hup:up<=ac):aj w0 90 [Nr lb,.int .u64 (up:Nat)] K (h::hs)
  (fun v K' hs'=>∃ h',hs'=h'::hs/\h'=h/\Le K K'/\∃ ao cap,v=.tuple #[.agg #[.slice ao (eq (eg L.sn L.l up).1) cap],.int .u64 (((eg L.sn L.l up).2:Nat):Int)]/\aw K' ao (eq (eg L.sn L.l up).1) cap 1 (iv (eg L.sn L.l up).1)):=
 rL hL fun m hm=>HP lb db L D c hb hc hm up hup
def B4(hb:bp c L)(hc:c<=1000000000)(oD:aP c D)(hL:dG K lb db L D h):aj w0 144 [Nr lb] K (h::hs)
  (fun v K' hs'=>∃ h',hs'=h'::hs/\Le K K'/\dG K' lb db (L.sync D).1 (L.sync D).2.1 h'/\v=.int .i64 (L.sync D).2.2):=
 n9 hL fun m hm=>(B3 lb db L D c hb hc oD hm).mono fun v K' hs' ⟨e,g⟩=>by subst e;exact ⟨Le.refl _,g⟩
def ux(hb:bp c L)(hc:c<=1000000000)(oD:aP c D)(hL:dG K lb db L D h)(t:Nat)(v:Int)(ht:t<=ac)(hv : -9223372036854775808<=v/\v<=9223372036854775807):aj w0 136 [Nr lb,.agg #[.int .u64 (t:Nat),.int .i64 v]] K (h::hs)
  (fun u K' hs'=>∃ h',hs'=h'::hs/\Le K K'/\dG K' lb db (L.setHard D t v).1 (L.setHard D t v).2.1 h'/\u=.int .i64 (L.setHard D t v).2.2):=
 n9 hL fun m hm=>F5 lb db L D c hb hc oD hm t v ht hv
def JV(hb:bp c L)(oD:aP c D)(hL:dG K lb db L D h)(ao:Option Addr)(cap:Nat)(x:List af)(xs:dn 4 (dB K) K ao (eq x) cap x)(hx:∀ e∈x,ke e)(hc:c+12*eq x<=999999000):aj w0 153 [Nr lb,.slice ao (eq x) cap] K (h::hs)
  (fun u K' hs'=>∃ h',hs'=h'::hs/\Le K K'/\dG K' lb db (L.append x D).1 (L.append x D).2.1 h'/\u=.int .i64 (L.append x D).2.2):=
 n9 hL fun m hm=>AC lb db L D c hb oD hm ao cap x xs hx hc
def KQ(hb:bp c L)(oD:aP c D)(hL:dG K lb db L D h)(i t:Nat)(hi:i<=ac)(ht:t<=ac)(ao:Option Addr)(cap:Nat)(x:List af)(xs:dn 4 (dB K) K ao (eq x) cap x)(hx:∀ e∈x,ke e)(hc:c+2+12*eq x<=999999000):
  aj w0 143 [Nr lb,.int .u64 (i:Nat),.int .u64 (t:Nat),.slice ao (eq x) cap] K (h::hs)
  (fun u K' hs'=>∃ h',hs'=h'::hs/\Le K K'/\dG K' lb db (L.merge i t x D).1 (L.merge i t x D).2.1 h'/\u=DV (L.merge i t x D).2.2):=
 n9 hL fun m hm=>IZ lb db L D c hb oD hm i t hi ht ao cap x xs hx hc
def Lw(hb:bp c L)(hc:c<=499900000)(oD:aP c D)(hL:dG K lb db L D h)(s:aX)(hsi:s.idx<18446744073709551616)(hst:s.term<=ac)(hvl:eq s.vot<1099511627776)(hdl:eq s.data<1099511627776)
  (aS:Option Addr) (cS:Nat) (aT:Option Addr) (cT:Nat) (xS:aw K aS (eq s.vot) cS 1 (iv s.vot)) (xT:aw K aT (eq s.data) cT 1 (bv s.data)):
  aj w0 91 [Nr lb,.agg (cP s aS cS aT cT)] K (h::hs)
  (fun u K' hs'=>∃ h',hs'=h'::hs/\Le K K'/\dG K' lb db (L.save s D).1 (L.save s D).2.1 h'/\u=.int .i64 (L.save s D).2.2):=
 n9 hL fun m hm=>B7 lb db L D c hb hc oD hm s hsi hst hvl hdl aS cS aT cT xS xT
def HC(hb:bp c L)(hc:c<=499900000)(oD:aP c D)(hL:dG K lb db L D h)(s:aX)(hsi:s.idx<18446744073709551616)(hst:s.term<=ac)(hvl:eq s.vot<1099511627776)(hdl:eq s.data<1099511627776)
  (aS:Option Addr) (cS:Nat) (aT:Option Addr) (cT:Nat) (xS:aw K aS (eq s.vot) cS 1 (iv s.vot)) (xT:aw K aT (eq s.data) cT 1 (bv s.data)):
  aj w0 149 [Nr lb,.agg (cP s aS cS aT cT)] K (h::hs)
  (fun u K' hs'=>∃ h',hs'=h'::hs/\Le K K'/\dG K' lb db (L.install s D).1 (L.install s D).2.1 h'/\u=.int .i64 (L.install s D).2.2):=
 n9 hL fun m hm=>Gy lb db L D c hb hc oD hm s hsi hst hvl hdl aS cS aT cT xS xT
end
def CP{dh:PH}(db:Nat)(D:Dk)(c:Nat)(oD:aP c D)(hc:c<=199000000)(hd:bN K db D dh)(first:List Int)(hfl:eq first<=1000000)(aF:Option Addr)(cF:Nat)(xF:aw K aF (eq first) cF 1 (iv first)):
  aj w0 22 [Nr db,.agg #[.slice aF (eq first) cF]] K (dh::hs)
   (fun v K' hs'=>∃ h',hs'=h'::hs/\Le K K'/\(((fA D first).1=none/\v=.tuple #[.pointer none,.int .i64 (fA D first).2.2]/\bN K' db (fA D first).2.1 h') \/
    (∃ L lb,(fA D first).1=some L/\v=.tuple #[Nr lb,.int .i64 (fA D first).2.2]/\dG K' lb db L (fA D first).2.1 h'))):=by
 refine Ct.fix2 (KE db D c oD hc hd first hfl aF cF xF) ?_;rintro w v K' hs' hS ⟨le,⟨h1,rfl,dh',rfl,hD⟩|⟨L,lb,m,h1,rfl,rfl,hm⟩⟩
 ·grind
 obtain ⟨d,hS'⟩:=a7.join m hS;exact ⟨K',_,⟨_,I,le,.inr ⟨L,lb,h1,I,m,I,d,hm⟩⟩,hS'⟩
end
section
structure Pr where
 mt:Nat
 nx:Nat
 rd:Nat
 ws:Bool
 of:Int
structure Nd where
 nd:Int
 hl:Bool
 role:Int
 lead:Int
 com:Nat
 el:Int
 wt:Int
 yes:List Int
 rnd:Nat
 pr:Nat->Pr
 pf:Int
 ps:aX
 out:List aB
def cM:Nat:=4611686018427387904
def Pr.new(n:Nat):Pr:=⟨0,n,0,false,0⟩
def Nd.setP(R:Nd)(v:Int)(p:Pr):Nd:={ R with pr:=fun i=>if i=v.toNat then p else R.pr i }
def Nd.p(R:Nd)(v:Int):Pr:=R.pr v.toNat
def aX.zero:aX:=⟨0,0,[],[]⟩
def Nd.new(nd:Int)(L:Lg):Nd:=⟨nd,false,0,-1,L.sn.idx,0,0,[],0,fun _=>⟨0,0,0,false,0⟩,0,aX.zero,[]⟩
def Nd.did(R:Nd)(e:Int):Nd:=if e=0 then R else { R with hl:=true,out:=[],role:=0,lead:=-1 }
def Nd.say(R:Nd)(L:Lg)(m:aB):Nd:={ R with out:=R.out++[{ m with frm:=R.nd,term:=L.kt }] }
def Lg.cfg(L:Lg):List Int×Nat:=eg L.sn L.l L.last
def Lg.trm(L:Lg)(i:Nat):Nat×Bool:=En.trm L.sn L.l i
def Nd.oth(R:Nd)(L:Lg):List Int:=L.cfg.1.filter fun v=>decide (v≠R.nd)
def Nd.foll(R:Nd)(x:Int):Nd:={ R with role:=0,lead:=x,el:=0,wt:=0 }
def n7(c yes:List Int):Bool:=decide (eq c / 2<eq (c.filter fun v=>decide (v∈yes)))
def jF(c:List Int)(f:Int->Nat):Nat:=((eI (c.map fun v=>((f v:Nat):Int))).getD ((eq c-1) / 2) 0).toNat
def Nd.send(R:Nd)(L:Lg)(v:Int):Nd:=
 if (R.p v).ws=true then R
 else if (R.p v).nx<=L.sn.idx then
  (R.setP v { R.p v with ws:=true }).say L { aB.zero with kind:=5,to:=v,idx:=L.sn.idx,lt:=L.sn.term,off:=min (R.p v).of (eq L.sn.data),whole:=eq L.sn.data,vot:=L.sn.vot,data:=(L.sn.data.drop (R.p v).of.toNat).take 256 }
 else (R.setP v { R.p v with ws:=true }).say L { aB.zero with kind:=3,to:=v,idx:=(R.p v).nx-1,lt:=(L.trm ((R.p v).nx-1)).1,com:=R.com,rnd:=R.rnd,ents:=gW L.sn L.l (R.p v).nx 8 }
def Nd.tellL(anew:Bool)(L:Lg):List Int->Nd->Nd
 | [],R=>R
 | v::r,R=>tellL anew L r ((if anew=true then R.setP v { R.p v with ws:=false } else R).send L v)
def Nd.tell(R:Nd)(L:Lg)(anew:Bool):Nd:=Nd.tellL anew L (R.oth L) (if anew=true then { R with rnd:=R.rnd+1 } else R)
def Nd.agr1(R:Nd)(L:Lg):Nd:=
 let n:=jF L.cfg.1 fun v=>if v=R.nd then L.last else (R.p v).mt
 if R.com<n/\(L.trm n).1=L.kt then { R with com:=n } else R
def Nd.agr2(R:Nd)(L:Lg):Nd:=if L.cfg.2<=R.com/\R.nd∉L.cfg.1 then (R.tell L true).foll (-1) else R
def Nd.agree(R:Nd)(L:Lg):Nd:=(R.agr1 L).agr2 L
def Nd.lay2(R:Nd)(L:Lg):Nd:=if (R.agree L).role=2 then (R.agree L).tell L false else R.agree L
abbrev qj:Type:=Nat×Nat×Int
def Nd.lay(R:Nd)(L:Lg)(D:Dk)(kind:Int)(data:List UInt8):Nd×Lg×Dk×qj:=
 let A:=L.append [⟨L.last+1,L.kt,kind,data⟩] D
 if A.2.2≠0 then (R.did A.2.2,A.1,A.2.1,0,0,A.2.2)
 else
  let B:=A.1.sync A.2.1
  if B.2.2≠0 then (R.did B.2.2,B.1,B.2.1,0,0,B.2.2) else (R.lay2 B.1,B.1,B.2.1,L.last+1,L.kt,0)
def Nd.up(R:Nd)(L:Lg):Nd:={ R with role:=2,lead:=R.nd,el:=0,pr:=fun _=>Pr.new (L.last+1) }
abbrev ip:Type:=Nd×Lg×Dk×Int
def Nd.elect(R:Nd)(L:Lg)(D:Dk)(c:List Int):ip:=
 if n7 c R.yes=false then (R,L,D,0) else let A:=(R.up L).lay L D 0 [];(A.1,A.2.1,A.2.2.1,A.2.2.2.2.2)
def Nd.asks(L:Lg):List Int->Nd->Nd
 | [],R=>R
 | v::r,R=>asks L r (R.say L { aB.zero with kind:=1,to:=v,idx:=L.last,lt:=(L.trm L.last).1 })
def Nd.cand(R:Nd):Nd:={ R with role:=1,lead:=-1,yes:=[R.nd],el:=0,wt:=0 }
def Nd.stand(R:Nd)(L:Lg)(D:Dk)(c:List Int):ip:=
 let A:=L.setHard D (L.kt+1) R.nd
 if A.2.2≠0 then (R.did A.2.2,A.1,A.2.1,A.2.2) else (Nd.asks A.1 (R.cand.oth A.1) R.cand).elect A.1 A.2.1 c
def Nd.idle0(R:Nd)(d:Nat):Nd:={ R with wt:=if R.wt=0 then ((10+d % 22:Nat):Int) else R.wt,el:=R.el+1 }
def Nd.idle(R:Nd)(L:Lg)(D:Dk)(d:Nat):ip:=
 if (R.idle0 d).el<(R.idle0 d).wt\/R.nd∉L.cfg.1\/cM<=L.kt then (R.idle0 d,L,D,0) else (R.idle0 d).stand L D L.cfg.1
def Nd.beat(R:Nd)(L:Lg):Nd:=if 3<=R.el+1 then { R with el:=0 }.tell L true else { R with el:=R.el+1 }
def Nd.tick(R:Nd)(L:Lg)(D:Dk)(d:Nat):ip:=
 if R.hl=true then (R,L,D,202) else if R.role=2 then (R.beat L,L,D,0) else R.idle L D d
def Nd.raise(R:Nd)(L:Lg)(D:Dk)(t:Nat):ip:=
 let A:=L.setHard D t (-1)
 (if A.2.2=0 then { R with role:=0,lead:=-1 } else R.did A.2.2,A.1,A.2.1,A.2.2)
def Nd.content(R:Nd):Bool:=decide (R.role=2\/0<=R.lead/\R.el<10)
def Nd.stale(R:Nd)(L:Lg)(m:aB):Nd:=
 if m.kind=1 then R.say L { aB.zero with kind:=2,to:=m.frm } else if m.kind=3\/m.kind=5 then R.say L { aB.zero with kind:=4,to:=m.frm } else R
def gX(t i lt last:Nat):Bool:=decide (lt<t\/t=lt/\last<=i)
def gz(ht:Nat)(hv:Int)(t:Nat)(c:Int)(nw:Bool):(Nat×Int)×Bool:=
 if t<ht then ((ht,hv),false)
 else
  let h:=if ht<t then (t,-1) else (ht,hv)
  if nw=false\/h.2 ≠ -1/\h.2≠c then (h,false) else ((h.1,c),true)
def Nd.asked(R:Nd)(L:Lg)(D:Dk)(m:aB):ip:=
 let g:=gz L.kt L.kv m.term m.frm (gX m.lt m.idx (L.trm L.last).1 L.last)
 if g.2=true then
  let A:=L.setHard D g.1.1 g.1.2
  if A.2.2≠0 then (R.did A.2.2,A.1,A.2.1,A.2.2)
  else ({ R with el:=0,wt:=0 }.say A.1 { aB.zero with kind:=2,to:=m.frm,good:=true },A.1,A.2.1,0)
 else (R.say L { aB.zero with kind:=2,to:=m.frm },L,D,0)
def Nd.voted(R:Nd)(L:Lg)(D:Dk)(m:aB):ip:=
 if R.role≠1\/m.good=false then (R,L,D,0) else { R with yes:=R.yes++[m.frm] }.elect L D L.cfg.1
def iK(L:Lg)(com i t:Nat):Bool:=decide (i<=com) && ((L.trm i).2 && decide ((L.trm i).1≠t))
def Nd.clashes(R:Nd)(L:Lg)(m:aB):Bool:=iK L R.com m.idx m.lt || m.ents.any fun e=>iK L R.com e.idx e.term
def Nd.appE(R:Nd)(L:Lg)(D:Dk)(m:aB)(n:Nat)(good:Bool):Nd×Lg×Dk×Int:=
 ({ R with com:=if good=true then max R.com (min m.com n) else R.com }.say L { aB.zero with kind:=4,to:=m.frm,good:=good,idx:=n,rnd:=m.rnd },L,D,0)
def Nd.app(R:Nd)(L:Lg)(D:Dk)(m:aB):ip:=
 if R.role=2\/R.clashes L m=true then (R,L,D,0)
 else
  let A:=L.merge m.idx m.lt m.ents D
  if A.2.2.2.2=180\/A.2.2.2.2=181 then (R.foll m.frm,A.1,A.2.1,0)
  else if A.2.2.2.2≠0 then ((R.foll m.frm).did A.2.2.2.2,A.1,A.2.1,A.2.2.2.2)
  else if A.2.2.2.1=false then (R.foll m.frm).appE A.1 A.2.1 m A.2.2.1 false
  else
   let B:=A.1.sync A.2.1
   if B.2.2≠0 then ((R.foll m.frm).did B.2.2,B.1,B.2.1,B.2.2) else (R.foll m.frm).appE B.1 B.2.1 m A.2.2.1 true
def kM(nx mt hint:Nat):Nat:=max (min ((hint+1) % 18446744073709551616) (max nx 1-1)) (mt+1)
def Nd.appd1(R:Nd)(L:Lg)(m:aB):Nd:=
 let p:=R.p m.frm
 let q:Pr:={ p with ws:=false,rd:=max p.rd (min m.rnd R.rnd) }
 if m.good=true then (R.setP m.frm { q with mt:=max p.mt (min m.idx L.last),nx:=max p.nx (max p.mt (min m.idx L.last)+1) }).agree L
 else R.setP m.frm { q with nx:=kM p.nx p.mt m.idx,of:=0 }
def Nd.appd2(R:Nd)(L:Lg)(m:aB):Nd:=
 if R.role=2/\(m.good=false\/(R.p m.frm).nx<=L.last)/\m.frm∈L.cfg.1 then R.send L m.frm else R
def Nd.appended(R:Nd)(L:Lg)(m:aB):Nd:=if R.role≠2 then R else (R.appd1 L m).appd2 L m
def Nd.piece(R:Nd)(m:aB):Nd:=
 let fresh:=m.off=0\/R.pf≠m.frm\/R.ps.idx≠m.idx\/R.ps.term≠m.lt
 let R1:=if fresh then { R with pf:=m.frm,ps:=⟨m.idx,m.lt,m.vot,[]⟩ } else R
 if m.off=eq R1.ps.data then { R1 with ps:={ R1.ps with data:=R1.ps.data++m.data } } else R1
def Nd.inst(R:Nd)(L:Lg)(D:Dk)(m:aB):ip:=
 let A:=L.install R.ps D
 let R2:Nd:={ R with pf:=0,ps:=aX.zero }
 if A.2.2=180\/A.2.2=181 then (R2,A.1,A.2.1,0)
 else if A.2.2≠0 then (R2.did A.2.2,A.1,A.2.1,A.2.2)
 else ({ R2 with com:=max R.com m.idx }.say A.1 { aB.zero with kind:=4,to:=m.frm,good:=true,idx:=m.idx },A.1,A.2.1,0)
def Nd.chunk(R:Nd)(L:Lg)(D:Dk)(m:aB):ip:=
 if R.role=2 then (R,L,D,0)
 else if m.idx<=R.com then ((R.foll m.frm).say L { aB.zero with kind:=4,to:=m.frm,good:=true,idx:=m.idx },L,D,0)
 else
  let R1:=(R.foll m.frm).piece m
  if eq R1.ps.data<m.whole then (R1.say L { aB.zero with kind:=6,to:=m.frm,idx:=m.idx,off:=eq R1.ps.data },L,D,0)
  else R1.inst L D m
def Nd.chunked(R:Nd)(L:Lg)(m:aB):Nd:=
 if R.role≠2\/m.idx≠L.sn.idx\/m.idx<(R.p m.frm).nx then R else (R.setP m.frm { R.p m.frm with ws:=false,of:=m.off }).send L m.frm
def Nd.take3(R:Nd)(L:Lg)(D:Dk)(m:aB):ip:=
 if m.kind=1 then R.asked L D m else if m.kind=2 then R.voted L D m else if m.kind=3 then R.app L D m
 else if m.kind=4 then (R.appended L m,L,D,0) else if m.kind=5 then R.chunk L D m else if m.kind=6 then (R.chunked L m,L,D,0) else (R,L,D,0)
def Nd.take2(R:Nd)(L:Lg)(D:Dk)(m:aB):ip:=if m.term<L.kt then (R.stale L m,L,D,0) else R.take3 L D m
def Nd.take1(R:Nd)(L:Lg)(D:Dk)(m:aB):ip:=
 if L.kt<m.term then let A:=R.raise L D m.term;if A.2.2.2≠0 then A else A.1.take2 A.2.1 A.2.2.1 m else R.take2 L D m
def Nd.take(R:Nd)(L:Lg)(D:Dk)(m:aB):ip:=
 if R.hl=true then (R,L,D,202)
 else if (enc m).isSome=false\/m.to≠R.nd\/cM<m.term then (R,L,D,0)
 else if m.kind=1/\R.content=true then (R,L,D,0)
 else R.take1 L D m
def Nd.leads(R:Nd):Int:=if R.hl=true then 202 else if R.role≠2 then 200 else 0
def Nd.settled(R:Nd)(L:Lg):Bool:=decide ((L.trm R.com).1=L.kt)
def Nd.propose(R:Nd)(L:Lg)(D:Dk)(b:List UInt8):Nd×Lg×Dk×qj:=
 if R.leads≠0 then (R,L,D,0,0,R.leads) else if (iJ b).isSome=false then (R,L,D,0,0,1) else R.lay L D 1 b
def iz(c:List Int)(n:Int):List Int×Int:=
 if ¬(confOK (-1) c/\c≠[]/\0<=n/\n<7) then ([],190) else if n∈c then ([],191) else (eI (c++[n]),0)
def iW(c:List Int)(n:Int):List Int×Int:=
 if ¬(confOK (-1) c/\c≠[]/\0<=n/\n<7) then ([],190) else if n∉c\/eq c=1 then ([],191) else (c.filter fun v=>decide (v≠n),0)
def Nd.change(R:Nd)(L:Lg)(D:Dk)(add:Bool)(n:Int):Nd×Lg×Dk×qj:=
 if R.leads≠0 then (R,L,D,0,0,R.leads)
 else if R.settled L=false\/R.com<L.cfg.2 then (R,L,D,0,0,201)
 else
  let c:=if add=true then iz L.cfg.1 n else iW L.cfg.1 n
  if c.2≠0 then (R,L,D,0,0,c.2) else (if add=true then R.setP n (Pr.new (L.last+1)) else R).lay L D 2 (ob (bU c.1))
def Nd.read(R:Nd)(L:Lg):Nd×qj:=
 if R.leads≠0 then (R,0,0,R.leads) else if R.settled L=false then (R,0,0,201) else let A:=R.tell L true;(A,A.rnd,A.com,0)
def Nd.save(R:Nd)(L:Lg)(D:Dk)(i:Nat)(data:List UInt8):ip:=
 if R.hl=true then (R,L,D,202)
 else if R.com<i\/i<=L.sn.idx then (R,L,D,1)
 else
  let A:=L.save ⟨i,(L.trm i).1,(eg L.sn L.l i).1,data⟩ D
  (if A.2.2=181 then R else R.did A.2.2,A.1,A.2.1,A.2.2)
end
section
def Lg.sam(L M:Lg):Prop:=M.kt=L.kt/\M.kv=L.kv/\M.sn=L.sn
theorem AE:∀ (x:List af) (L:Lg) (D:Dk),L.sam (L.app1 x D).1
 | [],L,D=>⟨rfl,rfl,rfl⟩
 | e::r,L,D=>by
  unfold Lg.app1
  split
  ·exact ⟨I,I,I⟩
  exact AE r { L with w:=(L.w.append e.bytes D).1,l:=L.l++[e] } _
theorem qE(L:Lg)(x:List af)(D:Dk):L.sam (L.append x D).1:=by
 unfold Lg.append
 split
 ·exact ⟨I,I,I⟩
 split
 ·exact ⟨I,I,I⟩
 simp[AE]
theorem qR(L:Lg)(D:Dk):L.sam (L.sync D).1:=by
 unfold Lg.sync
 split <;> exact ⟨rfl,rfl,rfl⟩
def tO(L:Lg)(x:List af)(last:Nat)(D:Dk):L.sam (L.merge3 x last D).1:=by
 grind [qE,Lg.merge3]
def Fy(L:Lg)(x:List af)(last:Nat)(D:Dk):L.sam (L.merge2 x last D).1:=by
 unfold Lg.merge2
 split
 ·simp[tO]
 split
 ·split
  ·exact ⟨I,I,I⟩
  exact tO (L.cutAt _ _) _ last _
 simp[tO]
def y7(L:Lg)(i t:Nat)(x:List af)(D:Dk):L.sam (L.merge i t x D).1:=by
 unfold Lg.merge Lg.merge1
 repeat' split
 all_goals first|exact ⟨rfl,rfl,rfl⟩|simp[Fy]
def pc(L:Lg)(D:Dk)(t:Nat)(v:Int):(L.setHard D t v).1.sn=L.sn/\(L.setHard D t v).1.l=L.l/\(((L.setHard D t v).2.2=0/\(L.setHard D t v).1.kt=t/\(L.setHard D t v).1.kv=v/\L.kt<=t)\/((L.setHard D t v).2.2≠0/\(L.setHard D t v).1.kt=L.kt/\(L.setHard D t v).1.kv=L.kv)):=by
 unfold Lg.setHard
 grind
theorem y9(L:Lg)(s:aX)(fr:Nat)(D:Dk):(L.lay s fr D).1.kt=L.kt/\(L.lay s fr D).1.kv=L.kv/\((L.lay s fr D).1.sn=L.sn\/(L.lay s fr D).1.sn=s):=by
 grind [Lg.lay,Lg.lay1,Lg.lay2,Lg.lay3,Lg.laid]
theorem tF(L:Lg)(s:aX)(D:Dk):(L.save s D).1.kt=L.kt/\(L.save s D).1.kv=L.kv/\((L.save s D).1.sn=L.sn\/(L.save s D).1.sn=s/\L.fits s=0):=by
 grind [qR,y9,Lg.save,Lg.save1,Lg.save2,Lg.sam]
def xf(L:Lg)(s:aX)(D:Dk):(L.install s D).1.kt=L.kt/\(L.install s D).1.kv=L.kv/\((L.install s D).1.sn=L.sn\/(L.install s D).1.sn=s/\L.fits s=0):=by
 grind [tF,y9,Lg.install,Lg.inst1]
def Lg.cf(L:Lg):Prop:=(bU L.sn.vot).isSome=true
theorem Lg.cf.sam{L M:Lg}(h:L.cf)(g:L.sam M):M.cf:=by
 unfold Lg.cf;rw[g.2.2];exact h
theorem Lg.cf.setHard{L:Lg}(h:L.cf)(D:Dk)(t:Nat)(v:Int):(L.setHard D t v).1.cf:=by
 simp_all [pc,Lg.cf]
theorem Lg.cf.of{L M:Lg}{s:aX}(h:L.cf)(g:M.sn=L.sn\/M.sn=s/\L.fits s=0):M.cf:=by
 unfold Lg.cf;rcases g with g|⟨g,f⟩
 ·rw[g];exact h
 rw[g];exact (BB f).1
def tJ{c:List Int}(h:(bU c).isSome=true):c≠[]/\confOK (-1) c:=by
 unfold bU at h
 grind
def fS(c:List Int):Prop:=c≠[]/\confOK (-1) c
def fS.mem{c:List Int}(h:fS c){v:Int}(hv:v∈c):0<=v/\v<7:=by
 exact pp c _ h.2 qo v hv
def Fa:∀ n<128,n≠0->fS (gG n 7):=by unfold fS;decide
theorem EW{b:List UInt8}{c:List Int}(h:ft b=some c):fS c:=by
 unfold ft at h
 split at h
 ·split at h
  ·simp at h
  rename_i x hx;obtain rfl:=aaU h;exact Fa _ qo qo
 simp at h
def iV{c:Nat}{L:Lg}(o:bp c L)(h:L.cf)(up:Nat):fS (eg L.sn L.l up).1:=by
 unfold eg
 split
 ·rename_i e he;have h1:=List.find?_some he;have h2:=o.ents e (List.mem_reverse.1 (List.mem_of_find?_eq_some he));obtain ⟨⟨-,-,h3⟩,-⟩:=h2
  grind [Option.isSome_iff_exists,EW,lT]
 exact tJ h
def fS.len{c:List Int}(h:fS c):eq c<=7:=by
 have:=pq c _ h.2 qo qo;omega
def Lg.last_le{c:Nat}{L:Lg}(o:bp c L)(hc:c<=1000000000):L.last+1<=cM:=by
 have h1:=o.idx;have h2:=o.len
 grind [bH,Lg.last,cM]
def Pr.ok(p:Pr):Prop:=p.mt+1<=cM/\p.nx<=cM/\p.rd<=ac/\0<=p.of/\p.of<=2097152
structure Rb (z k:Nat) (R:Nd):Prop where
 nd:0<=R.nd/\R.nd<7
 role:R.role=0\/R.role=1\/R.role=2
 lead : -1<=R.lead/\R.lead<7
 com:R.com<=ac
 el:0<=R.el/\R.el<=k
 wt:0<=R.wt/\R.wt<=31
 yes:eq R.yes<=k
 rnd:R.rnd<=k
 pr:∀ v,(R.pr v).ok
 ps:R.ps.idx<=ac/\R.ps.term<=ac/\eq R.ps.vot<=7/\eq R.ps.data<=256*z
 out:eq R.out<=k
theorem Rb.up{z k j:Nat}{R:Nd}(o:Rb z k R)(h:k<=j):Rb z j R:=by
 obtain ⟨h1,h2,h3,h4,h5,h6,h7,h8,h9,h10,h11⟩:=o;exact ⟨h1,h2,h3,h4,qo,h6,qo,qo,h9,qo,qo⟩
def Rb.upz{z z' k j:Nat}{R:Nd}(o:Rb z k R)(h':z<=z')(h:k<=j):Rb z' j R:={ o.up h with ps:=by have:=o.ps;omega }
section
variable {z k c:Nat} {R:Nd} {L:Lg}
theorem Rb.say(o:Rb z k R)(L:Lg)(m:aB):Rb z (k+1) (R.say L m):={ o.up (aau k) with out:=by have:=o.out;simp[Nd.say];omega }
theorem Rb.setP(o:Rb z k R)(v:Int){p:Pr}(h:p.ok):Rb z k (R.setP v p):={ o with pr:=fun i=>by unfold Nd.setP;dsimp only;split;exact h;exact o.pr i }
theorem Rb.send(o:Rb z k R)(L:Lg)(v:Int):Rb z (k+1) (R.send L v):=by
 have h:=o.setP v (p:={ R.p v with ws:=true }) (o.pr v.toNat);unfold Nd.send
 repeat' split
 ·exact o.up<|aau k
 all_goals exact h.say L _
theorem Rb.tellL(a:Bool)(L:Lg):∀ (l:List Int) {k:Nat} {R:Nd},Rb z k R->Rb z (k+eq l) (Nd.tellL a L l R)
 | [],k,R,o=>o
 | v::r,k,R,o=>by
  unfold Nd.tellL;refine (Rb.tellL a L r (k:=k+1) ?_).up (by simp;omega)
  split
  ·exact (o.setP v (p:={ R.p v with ws:=false })<|o.pr v.toNat).send L v
  exact o.send L v
def mj(R:Nd){c:Nat}{L:Lg}(b:bp c L)(f:L.cf):eq (R.oth L)<=7:=aas (acb _ _) (iV b f L.last).len
theorem Rb.tell(o:Rb z k R)(b:bp c L)(f:L.cf)(a:Bool):Rb z (k+8) (R.tell L a):=by
 unfold Nd.tell;have:=mj R b f;refine (Rb.tellL a L _ (k:=k+1) ?_).up qo
 split
 ·exact { o.up (aau k) with rnd:=by have:=o.rnd;dsimp only;omega }
 exact o.up<|aau k
def yy{c:List Int}{f:Int->Nat}{B:Nat}(h:∀ v∈c,f v<=B):jF c f<=B:=by
 unfold jF;rw[aaG];cases hg:(eI (c.map fun v=>((f v:Nat):Int)))[(eq c-1) / 2]? with
 | none=>simp
 | some x=>
  have h1:=(dJ _).mem_iff.1 (aao hg)
  grind
theorem Rb.agr1(o:Rb z k R)(b:bp c L)(hc:c<=1000000000):Rb z k (R.agr1 L):=by
 unfold Nd.agr1;dsimp only
 split
 ·refine { o with com:=aas (yy (B:=cM) fun v hv=>?_) (show cM<=ac by decide) };have h1:=Lg.last_le b hc;have h2:=(o.pr v.toNat).1;unfold Nd.p
  split <;> omega
 exact o
theorem Rb.foll(o:Rb z k R){x:Int}(h : -1<=x/\x<7):Rb z k (R.foll x):={ o with role:=.inl rfl,lead:=h,el:=⟨aaC 0,by have:=o.el;show (0:Int)<=_;omega⟩,wt:=⟨aaC 0,by show (0:Int)<=31;decide⟩ }
theorem Rb.agr2(o:Rb z k R)(b:bp c L)(f:L.cf):Rb z (k+8) (R.agr2 L):=by
 unfold Nd.agr2
 split
 ·exact (o.tell b f true).foll Nn
 exact o.up qo
theorem Rb.agree(o:Rb z k R)(b:bp c L)(f:L.cf)(hc:c<=1000000000):Rb z (k+8) (R.agree L):=(o.agr1 b hc).agr2 b f
theorem Rb.lay2(o:Rb z k R)(b:bp c L)(f:L.cf)(hc:c<=1000000000):Rb z (k+16) (R.lay2 L):=by
 unfold Nd.lay2
 split
 ·exact (o.agree b f hc).tell b f false
 exact (o.agree b f hc).up qo
theorem Rb.did(o:Rb z k R)(e:Int):Rb z k (R.did e):=by
 unfold Nd.did
 split
 ·exact o
 exact { o with role:=.inl I,lead:=by simp,out:=aad _ }
end
structure NI (c q z k:Nat) (R:Nd) (L:Lg) (D:Dk):Prop where
 rb:Rb z k R
 rn:Rn c q L D
 cf:L.cf
theorem NI.up{c q z k c' q' k':Nat}{R:Nd}{L:Lg}{D:Dk}(o:NI c q z k R L D)(h1:c<=c')(h2:q<=q')(h3:k<=k'):NI c' q' z k' R L D:=⟨o.rb.up h3,o.rn.up h1 h2,o.cf⟩
theorem NI.upz{c q z k c' q' z' k':Nat}{R:Nd}{L:Lg}{D:Dk}(o:NI c q z k R L D)(h1:c<=c')(h2:q<=q')(h3:k<=k')(h4:z<=z'):NI c' q' z' k' R L D:=⟨o.rb.upz h4 h3,o.rn.up h1 h2,o.cf⟩
def NI.r{c q z z' k k':Nat}{R R':Nd}{L:Lg}{D:Dk}(o:NI c q z k R L D)(h:Rb z' k' R'):NI c q z' k' R' L D:=⟨h,o.rn,o.cf⟩
section
variable {c q z k:Nat} {R:Nd} {L:Lg} {D:Dk}
theorem NI.last(o:NI c q z k R L D)(hc:c<=1000000000):L.last+1<=cM:=L.last_le o.rn.lb hc
theorem NI.setHard(o:NI c q z k R L D)(t:Nat)(v:Int)(ht:t<=ac):NI (c+2) (q+1) z k R (L.setHard D t v).1 (L.setHard D t v).2.1:=⟨o.rb,o.rn.setHard t v ht,o.cf.setHard D t v⟩
theorem NI.sync(o:NI c q z k R L D):NI (c+1) q z k R (L.sync D).1 (L.sync D).2.1:=⟨o.rb,o.rn.sync,o.cf.sam (qR L D)⟩
theorem NI.append(o:NI c q z k R L D)(e:af)(h:e.idx<=ac/\e.term<=ac)(hc:c<=900000000):NI (c+12) (q+1) z k R (L.append [e] D).1 (L.append [e] D).2.1:=
 ⟨o.rb,(o.rn.append [e] (by simpa using h) (by simp only[abv];omega)).up Nm Nm,o.cf.sam (qE L [e] D)⟩
theorem NI.merge(o:NI c q z k R L D)(i t:Nat)(x:List af)(hx:∀ e∈x,e.idx<=ac/\e.term<=ac)(hl:eq x<=8)(hc:c<=900000000):NI (c+98) (q+9) z k R (L.merge i t x D).1 (L.merge i t x D).2.1:=
 ⟨o.rb,(o.rn.merge i t x hx qo).up qo qo,o.cf.sam (y7 L i t x D)⟩
theorem NI.lay(o:NI c q z k R L D)(hc:c<=900000000)(kind:Int)(data:List UInt8):NI (c+13) (q+1) z (k+16) (R.lay L D kind data).1 (R.lay L D kind data).2.1 (R.lay L D kind data).2.2.1:=by
 have h1:=o.last qo;have hk:=o.rn.lb.kt;have a:=o.append ⟨L.last+1,L.kt,kind,data⟩ ⟨by grind [cM,ac],hk⟩ hc;have b:=a.sync;unfold Nd.lay;dsimp only
 split
 ·exact (a.r<|a.rb.did _).up qo qo qo
 split
 ·exact (b.r<|b.rb.did _).up qo qo qo
 exact b.r<|b.rb.lay2 b.rn.lb b.cf qo
def NI.upR(o:NI c q z k R L D)(hc:c<=1000000000):NI c q z k (R.up L) L D:=by
 have h:=o.last hc;have h0:=o.rb;refine o.r { h0 with role:=.inr (.inr I),lead:=?_,el:=⟨aaC 0,?_⟩,pr:=fun v=>?_ }
 ·have:=h0.nd;show -1<=R.nd/\R.nd<7;omega
 ·have:=h0.el;show (0:Int)<=_;omega
 exact ⟨by unfold cM;exact (by decide:0+1<=4611686018427387904),h,by show 0<=ac;omega,aaC 0,by show (0:Int)<=2097152;omega⟩
theorem NI.elect(o:NI c q z k R L D)(hc:c<=900000000)(l:List Int):NI (c+13) (q+1) z (k+16) (R.elect L D l).1 (R.elect L D l).2.1 (R.elect L D l).2.2.1:=by
 unfold Nd.elect
 split
 ·exact o.up qo qo qo
 exact (o.upR qo).lay hc 0 []
theorem Rb.asks(L:Lg):∀ (l:List Int) {k:Nat} {R:Nd},Rb z k R->Rb z (k+eq l) (Nd.asks L l R)
 | [],k,R,o=>o
 | v::r,k,R,o=>by
  unfold Nd.asks;exact (Rb.asks L r (o.say L _)).up (by simp;omega)
theorem Rb.cand(o:Rb z k R):Rb z (k+1) R.cand:=
 { o.up (aau k) with role:=.inr (.inl rfl),lead:=by show -1<=(-1:Int)/\(-1:Int)<7;decide,el:=⟨aaC 0,by show (0:Int)<=_;omega⟩,wt:=⟨aaC 0,by show (0:Int)<=31;decide⟩,yes:=by show 1<=k+1;omega }
theorem NI.stand(o:NI c q z k R L D)(hc:c<=800000000)(hk:L.kt<cM)(l:List Int):NI (c+15) (q+2) z (k+24) (R.stand L D l).1 (R.stand L D l).2.1 (R.stand L D l).2.2.1:=by
 have a:=o.setHard (L.kt+1) R.nd (by unfold cM at hk;unfold ac;omega);unfold Nd.stand;dsimp only
 split
 ·exact (a.r<|a.rb.did _).up qo qo qo
 have h1:=mj R.cand a.rn.lb a.cf;exact ((a.r ((Rb.asks _ _ a.rb.cand).up (j:=k+8) qo)).elect qo l).up qo qo qo
theorem Rb.idle0(o:Rb z k R)(d:Nat):Rb z (k+1) (R.idle0 d):=by
 have h1:=o.el;have h2:=o.wt;refine { o.up (aau k) with el:=?_,wt:=?_ }
 ·show 0<=R.el+1/\R.el+1<=_;omega
 show 0<=(if R.wt=0 then _ else R.wt)/\(if R.wt=0 then _ else R.wt)<=31;omega
theorem NI.idle(o:NI c q z k R L D)(hc:c<=800000000)(d:Nat):NI (c+15) (q+2) z (k+25) (R.idle L D d).1 (R.idle L D d).2.1 (R.idle L D d).2.2.1:=by
 have h:=o.r (o.rb.idle0 d);unfold Nd.idle
 split
 ·exact h.up qo qo qo
 exact (h.stand hc qo _).up qo qo qo
def Rb.el0{z k:Nat}{R:Nd}(o:Rb z k R):Rb z k { R with el:=0 }:={ o with el:=⟨aaC 0,Nm⟩ }
theorem NI.beat(o:NI c q z k R L D):NI c q z (k+9) (R.beat L) L D:=by
 unfold Nd.beat
 split
 ·exact o.r<|(o.rb.el0.tell o.rn.lb o.cf true).up qo
 have h1:=o.rb.el;exact o.r { o.rb.up (show k<=k+9 by omega) with el:=by grind }
theorem NI.tick(o:NI c q z k R L D)(hc:c<=800000000)(d:Nat):NI (c+15) (q+2) z (k+25) (R.tick L D d).1 (R.tick L D d).2.1 (R.tick L D d).2.2.1:=by
 unfold Nd.tick
 repeat' split
 ·exact o.up qo qo qo
 ·exact o.beat.up qo qo qo
 exact o.idle hc d
def Rb.fl(o:Rb z k R):Rb z k { R with role:=0,lead:=-1 }:={ o with role:=.inl rfl,lead:=by simp }
theorem NI.raise(o:NI c q z k R L D)(t:Nat)(ht:t<=ac):NI (c+2) (q+1) z k (R.raise L D t).1 (R.raise L D t).2.1 (R.raise L D t).2.2.1:=by
 have a:=o.setHard t (-1) ht;unfold Nd.raise;dsimp only
 split
 ·exact a.r a.rb.fl
 exact a.r<|a.rb.did _
theorem Rb.stale(o:Rb z k R)(L:Lg)(m:aB):Rb z (k+1) (R.stale L m):=by
 unfold Nd.stale
 repeat' split
 all_goals first|exact o.say L _|exact o.up (aau k)
def qZ{ht t:Nat}{hv c:Int}{nw:Bool}(h1:ht<=ac)(h2:t<=ac):(gz ht hv t c nw).1.1<=ac:=by
 unfold gz
 grind
theorem NI.asked(o:NI c q z k R L D)(m:aB)(hb:m.bd):NI (c+2) (q+1) z (k+1) (R.asked L D m).1 (R.asked L D m).2.1 (R.asked L D m).2.2.1:=by
 unfold Nd.asked;dsimp only
 split
 ·have a:=o.setHard (gz L.kt L.kv m.term m.frm (gX m.lt m.idx (L.trm L.last).1 L.last)).1.1 (gz L.kt L.kv m.term m.frm (gX m.lt m.idx (L.trm L.last).1 L.last)).1.2 (qZ o.rn.lb.kt hb.term)
  split
  ·exact (a.r<|a.rb.did _).up qo qo qo
  have h:Rb z k { R with el:=0,wt:=0 }:={ o.rb.el0 with wt:=⟨aaC 0,Nm⟩ };exact a.r (h.say _ _)
 exact (o.r<|o.rb.say L _).up qo qo qo
theorem NI.voted(o:NI c q z k R L D)(hc:c<=900000000)(m:aB):NI (c+13) (q+1) z (k+17) (R.voted L D m).1 (R.voted L D m).2.1 (R.voted L D m).2.2.1:=by
 unfold Nd.voted
 split
 ·exact o.up qo qo qo
 have h:Rb z (k+1) { R with yes:=R.yes++[m.frm] }:={ o.rb.up (aau k) with yes:=by have:=o.rb.yes;simp;omega };exact (o.r h).elect hc _
theorem NI.appE(o:NI c q z k R L D)(m:aB)(hb:m.bd)(n:Nat)(g:Bool):NI c q z (k+1) (R.appE L D m n g).1 (R.appE L D m n g).2.1 (R.appE L D m n g).2.2.1:=by
 unfold Nd.appE;have h1:=o.rb.com;have h2:=hb.com;have h:Rb z k { R with com:=if g=true then max R.com (min m.com n) else R.com }:={ o.rb with com:=by dsimp only;split <;> omega };exact o.r (h.say _ _)
def gx{m:aB}(h:m.ok):0<=m.frm/\m.frm<7:=h.1.2.1
def lA{m:aB}(h:m.ok)(hk:m.kind=3):entsOK m.idx 0 m.ents/\eq m.ents<=8:=by
 have:=h.2.1 .ents (by rw[hk];simp[cJ]);exact this
def vu{m:aB}(h:m.ok)(hk:m.kind=5\/m.kind=6):0<=m.off/\m.off<=2097152:=by
 have:=h.2.1 .off (by grind [cJ]);exact this
def KH{m:aB}(h:m.ok)(hk:m.kind=5):fS m.vot:=by
 have:=h.2.1 .vot (by rw[hk];simp[cJ]);exact tJ this
def A9{m:aB}(h:m.ok)(hk:m.kind=5):eq m.data<=256:=by
 have:=h.2.1 .data (by rw[hk];simp[cJ]);exact this.1
theorem NI.app(o:NI c q z k R L D)(hc:c<=900000000)(m:aB)(hb:m.bd)(ho:m.ok)(hk:m.kind=3):NI (c+99) (q+9) z (k+1) (R.app L D m).1 (R.app L D m).2.1 (R.app L D m).2.2.1:=by
 unfold Nd.app;dsimp only;have hf:=gx ho
 split
 ·exact o.up qo qo qo
 have a:=(o.r (o.rb.foll (x:=m.frm) qo)).merge m.idx m.lt m.ents (fun e he=>⟨(hb.ents e he).1,(hb.ents e he).2.1⟩) (lA ho hk).2 hc;have b:=a.sync
 repeat' split
 ·exact a.up qo qo qo
 ·exact (a.r<|a.rb.did _).up qo qo qo
 ·exact (a.appE m hb _ _).up qo qo qo
 ·exact (b.r<|b.rb.did _).up qo qo qo
 exact (b.appE m hb _ _).up qo qo qo
theorem NI.appd1(o:NI c q z k R L D)(hc:c<=900000000)(m:aB)(hb:m.bd):NI c q z (k+8) (R.appd1 L m) L D:=by
 have hl:=o.last qo;have hp:=o.rb.pr m.frm.toNat;have hr:=hb.rnd;unfold Pr.ok at hp;refine o.r ?_;unfold Nd.appd1;dsimp only;unfold Nd.p
 split
 ·refine Rb.agree (o.rb.setP m.frm ?_) o.rn.lb o.cf qo;unfold Pr.ok;dsimp only;omega
 refine (o.rb.setP m.frm ?_).up qo;unfold Pr.ok kM;dsimp only;omega
theorem NI.appended(o:NI c q z k R L D)(hc:c<=900000000)(m:aB)(hb:m.bd):NI c q z (k+9) (R.appended L m) L D:=by
 unfold Nd.appended
 split
 ·exact o.up qo qo qo
 have h:=o.appd1 hc m hb;unfold Nd.appd2
 split
 ·exact h.r<|h.rb.send L _
 exact h.up qo qo qo
theorem Rb.piece(o:Rb z k R)(m:aB)(hb:m.bd)(ho:m.ok)(hk:m.kind=5):Rb (z+1) (k+1) (R.piece m):=by
 have h1:=o.ps;have h2:=A9 ho hk;have h3:=(KH ho hk).len;have h4:=hb.idx;have h5:=hb.lt;unfold Nd.piece;dsimp only
 repeat' split
 all_goals refine { o.upz (aau z) (aau k) with ps:=?_ }
 all_goals grind
def Rb.ps0(o:Rb z k R):Rb z k { R with pf:=0,ps:=aX.zero }:={ o with ps:=⟨aad _,aad _,aad _,aad _⟩ }
theorem NI.inst(o:NI c q z k R L D)(hc:c<=499900000)(m:aB)(hb:m.bd):NI (c+(8*z+q+22)) (q+3) z (k+1) (R.inst L D m).1 (R.inst L D m).2.1 (R.inst L D m).2.2.1:=by
 have hp:=o.rb.ps
 have a:NI (c+(8*z+q+22)) (q+3) z k R (L.install R.ps D).1 (L.install R.ps D).2.1:=
  ⟨o.rb,(o.rn.install (k:=4*z+1) R.ps hp.2.1 hc qo).up qo qo,o.cf.of (xf L R.ps D).2.2⟩
 have h1:=o.rb.com;have h2:=hb.idx;unfold Nd.inst;dsimp only
 repeat' split
 ·exact (a.r a.rb.ps0).up qo qo qo
 ·exact (a.r<|a.rb.ps0.did _).up qo qo qo
 have h:Rb z k { R with pf:=0,ps:=aX.zero,com:=max R.com m.idx }:={ a.rb.ps0 with com:=by dsimp only;omega };exact a.r (h.say _ _)
theorem NI.chunk(o:NI c q z k R L D)(hc:c<=499900000)(m:aB)(hb:m.bd)(ho:m.ok)(hk:m.kind=5):NI (c+(8*z+q+30)) (q+3) (z+1) (k+2) (R.chunk L D m).1 (R.chunk L D m).2.1 (R.chunk L D m).2.2.1:=by
 have hf:=gx ho;have h1:=o.rb.foll (x:=m.frm) qo;have h2:=h1.piece m hb ho hk;unfold Nd.chunk;dsimp only
 repeat' split
 ·exact o.upz qo qo qo qo
 ·exact (o.r<|h1.say L _).upz qo qo qo qo
 ·exact (o.r<|h2.say L _).up qo qo qo
 exact ((o.r h2).inst hc m hb).up qo qo qo
theorem NI.chunked(o:NI c q z k R L D)(m:aB)(ho:m.ok)(hk:m.kind=6):NI c q z (k+1) (R.chunked L m) L D:=by
 have h1:=vu ho (.inr hk);have hp:=o.rb.pr m.frm.toNat;unfold Nd.chunked
 split
 ·exact o.up qo qo qo
 exact o.r<|(o.rb.setP m.frm (p:={ R.p m.frm with ws:=false,of:=m.off }) ⟨hp.1,hp.2.1,hp.2.2.1,h1⟩).send L _
theorem NI.take3(o:NI c q z k R L D)(hc:c<=499900000)(m:aB)(hb:m.bd)(ho:m.ok):NI (c+(8*z+q+110)) (q+9) (z+1) (k+17) (R.take3 L D m).1 (R.take3 L D m).2.1 (R.take3 L D m).2.2.1:=by
 unfold Nd.take3
 by_cases h1:m.kind=1
 ·rw[aab h1];exact (o.asked m hb).upz qo qo qo qo
 by_cases h2:m.kind=2
 ·rw[aaa h1,aab h2];exact (o.voted qo m).upz qo qo qo qo
 by_cases h3:m.kind=3
 ·rw[aaa h1,aaa h2,aab h3];exact (o.app qo m hb ho h3).upz qo qo qo qo
 by_cases h4:m.kind=4
 ·rw[aaa h1,aaa h2,aaa h3,aab h4];exact (o.appended qo m hb).upz qo qo qo qo
 by_cases h5:m.kind=5
 ·rw[aaa h1,aaa h2,aaa h3,aaa h4,aab h5];exact (o.chunk hc m hb ho h5).upz qo qo qo qo
 rw[aaa h1,aaa h2,aaa h3,aaa h4,aaa h5]
 split
 ·rename_i h6;exact (o.chunked m ho h6).upz qo qo qo qo
 exact o.upz qo qo qo qo
theorem NI.take2(o:NI c q z k R L D)(hc:c<=499900000)(m:aB)(hb:m.bd)(ho:m.ok):NI (c+(8*z+q+110)) (q+9) (z+1) (k+17) (R.take2 L D m).1 (R.take2 L D m).2.1 (R.take2 L D m).2.2.1:=by
 unfold Nd.take2
 split
 ·exact (o.r<|o.rb.stale L m).upz qo qo qo qo
 exact o.take3 hc m hb ho
theorem NI.take(o:NI c q z k R L D)(hc:c<=499800000)(m:aB)(hb:m.bd):NI (c+(8*z+q+120)) (q+10) (z+1) (k+17) (R.take L D m).1 (R.take L D m).2.1 (R.take L D m).2.2.1:=by
 unfold Nd.take
 split
 ·exact o.upz qo qo qo qo
 split
 ·exact o.upz qo qo qo qo
 split
 ·exact o.upz qo qo qo qo
 rename_i h _
 have ho:m.ok:=by
  simp_all [enc]
 unfold Nd.take1;dsimp only
 split
 ·have a:=o.raise m.term hb.term
  split
  ·exact a.upz qo qo qo qo
  exact (a.take2 qo m hb ho).upz qo qo qo qo
 exact (o.take2 qo m hb ho).upz qo qo qo qo
theorem NI.propose(o:NI c q z k R L D)(hc:c<=900000000)(b:List UInt8):NI (c+13) (q+1) z (k+16) (R.propose L D b).1 (R.propose L D b).2.1 (R.propose L D b).2.2.1:=by
 unfold Nd.propose
 repeat' split
 ·exact o.up qo qo qo
 ·exact o.up qo qo qo
 exact o.lay hc 1 b
theorem NI.change(o:NI c q z k R L D)(hc:c<=900000000)(a:Bool)(n:Int):NI (c+13) (q+1) z (k+16) (R.change L D a n).1 (R.change L D a n).2.1 (R.change L D a n).2.2.1:=by
 have hl:=o.last qo;unfold Nd.change;dsimp only
 split
 ·exact o.up qo qo qo
 split
 ·exact o.up qo qo qo
 generalize (if a=true then iz L.cfg.1 n else iW L.cfg.1 n)=x
 split
 ·exact o.up qo qo qo
 split
 ·exact (o.r (o.rb.setP n (p:=Pr.new (L.last+1)) ⟨by unfold cM;exact (by decide:0+1<=4611686018427387904),hl,by show 0<=ac;omega,aaC 0,by show (0:Int)<=2097152;omega⟩)).lay hc 2 _
 exact o.lay hc 2 _
theorem NI.read(o:NI c q z k R L D):NI c q z (k+8) (R.read L).1 L D:=by
 unfold Nd.read
 repeat' split
 ·exact o.up qo qo qo
 ·exact o.up qo qo qo
 exact o.r<|o.rb.tell o.rn.lb o.cf true
def Lg.trm_le{c:Nat}{L:Lg}(o:bp c L)(i:Nat):(L.trm i).1<=ac:=by
 unfold Lg.trm En.trm;have h1:=o.st
 repeat' split
 ·exact h1
 ·omega
 cases h:L.l[i-L.sn.idx-1]? with
 | none=>exact aad _
 | some e=>exact (o.ents e (aao h)).2.2
theorem NI.save(o:NI c q z k R L D)(hc:c<=499900000)(i:Nat)(data:List UInt8)(d:Nat)(hd:(eq data+63) / 64<=d):NI (c+(2*d+q+20)) (q+3) z k (R.save L D i data).1 (R.save L D i data).2.1 (R.save L D i data).2.2.1:=by
 unfold Nd.save;dsimp only
 split
 ·exact o.up qo qo qo
 split
 ·exact o.up qo qo qo
 have a:NI (c+(2*d+q+20)) (q+3) z k R (L.save ⟨i,(L.trm i).1,(eg L.sn L.l i).1,data⟩ D).1 (L.save ⟨i,(L.trm i).1,(eg L.sn L.l i).1,data⟩ D).2.1:=
  ⟨o.rb,o.rn.save _ (Lg.trm_le o.rn.lb i) hc hd,o.cf.of (tF L _ D).2.2⟩
 split
 ·exact a
 exact a.r<|a.rb.did _
end
end
end Go.En
