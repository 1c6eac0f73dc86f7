/-
  Part 3.
-/
import Derived.Lib.Bytealg
import Derived.Test.YtgaefgbgfmpobaaGreatDoorSz2
set_option linter.defProp false
set_option linter.unusedSectionVars false
set_option linter.unusedSimpArgs false
set_option linter.unusedVariables false
namespace Go.En
open Go.Proofs Go.Proofs.YtgaefgbgfmpobaaGreatDoor
open List renaming length -> ba
variable {w0 : World} {K : PH} {hs : List PH} {P : Program}
section
open Go.Proofs.YtgaefgbgfmpobaaGreatDoor
abbrev jC:gj:=⟨0,0,0⟩
theorem Lc(l:List bg)(s:bg):eN (l++[s])=eN l++[jG (eN l) s]:=by simp[eN,aco]
theorem wZ:∀ (t:List bg) (tb:List gj),∃ r,t.foldl (fun tb s=>tb++[jG tb s]) tb=tb++r/\ba r=ba t
 | [],tb=>⟨[],ST,rfl⟩
 | s::t,tb=>by
  obtain ⟨r,h,hl⟩:=wZ t (tb++[jG tb s])
  simp_all
theorem n6(l:List bg):ba (eN l)=ba l:=by
 obtain ⟨r,h,hl⟩:=wZ l [];unfold eN;rw[h];simpa using hl
def M9(l t:List bg):∃ r,eN (l++t)=eN l++r:=by
 obtain ⟨r,h,_⟩:=wZ t (eN l)
 simp_all [eN]
theorem EJ(l t:List bg){i:Nat}(h:i<ba l):(eN (l++t))[i]?=(eN l)[i]?:=by
 obtain ⟨r,e⟩:=M9 l t
 simp_all [aa3,n6]
theorem w9{tb tb':List gj}:∀ {l:List dv} (x:gj),(∀ a∈l,tb.getD a.to.toNat jC=tb'.getD a.to.toNat jC)->l.foldl (jg tb) x=l.foldl (jg tb') x
 | [],x,h=>rfl
 | a::l,x,h=>by
  have h1:jg tb x a=jg tb' x a:=by
   unfold jg;rw[h a ST]
  rw[acp,acp,h1];exact w9 _ fun b hb=>h b (by simp[hb])
structure pj (x:gj) (W:List Wd):Prop where
 w:x.w=(ba W:Int)
 d0:0<=x.d
 d:∀ D:Nat,(∀ y∈W,ba y.1<=D)->x.d<=(D:Int)
 t0:0<=x.t
 t:∀ T:Int,0<=T->(∀ y∈W,y.2<=T)->x.t<=T
def fM(s:bg):List Wd:=if s.fin=true then [([],s.out)] else []
theorem yd{tb:List gj}{wtb:List (List Wd)}:∀ (l:List dv) (x:gj) (W:List Wd),pj x W->(∀ a∈l,0<=a.out/\pj (tb.getD a.to.toNat jC) (wtb.getD a.to.toNat [])/\wtb.getD a.to.toNat []≠[]/\∀ y∈wtb.getD a.to.toNat [],0<=y.2) ->
  pj (l.foldl (jg tb) x) (W++wa wtb l)
 | [],x,W,h,_=>by simpa[wa] using h
 | a::l,x,W,h,hl=>by
  obtain ⟨h1,h2,h3,h4⟩:=hl a ST
  have hs:pj (jg tb x a) (W++(wtb.getD a.to.toNat []).map (jX a)):=by
   obtain ⟨y0,hy0⟩:=ab7 _ h3;refine ⟨?_,?_,fun D hD=>?_,?_,fun T hTt hW=>?_⟩
   ·show x.w+(tb.getD a.to.toNat jC).w=_;rw[h.w,h2.w,aaf,aaP];omega
   ·show 0<=mY x.d _;have:=h.d0
    grind [mY]
   ·have hd:=h.d D fun y hy=>hD y (by simp[hy]);have hp:∀ y∈wtb.getD a.to.toNat [],ba y.1+1<=D:=fun y hy=>hD (jX a y) (aal.2 (.inr (aak.2 ⟨y,hy,rfl⟩)));have h5:=hp y0 hy0;have h6:=h2.d (D-1) fun y hy=>by have:=hp y hy;omega
    show mY x.d ((tb.getD a.to.toNat jC).d+1)<=_;unfold mY;omega
   ·show 0<=mY x.t _;have:=h.t0
    grind [mY]
   have hd:=h.t T hTt fun y hy=>hW y (by simp[hy]);have hp:∀ y∈wtb.getD a.to.toNat [],a.out+y.2<=T:=fun y hy=>hW (jX a y) (aal.2 (.inr (aak.2 ⟨y,hy,rfl⟩)));have h5:=hp y0 hy0;have h7:=h4 y0 hy0;have h6:=h2.t (T-a.out) qo fun y hy=>by have:=hp y hy;omega
   show mY x.t (a.out+(tb.getD a.to.toNat jC).t)<=_;unfold mY;omega
  have:=yd l _ _ hs fun b hb=>hl b (by simp[hb]);simpa[wa,aax] using this
def GG{i:Nat}{s:bg}(h:p8 i s):pj (kW s) (fM s):=by
 have ho:=h.out;have hf:=h.fin;unfold kW fM
 by_cases e:s.fin=true
 ·rw[aab e,aab e];exact ⟨I,abo _,fun D _=>by simp,ho.1,fun T _ h=>h ([],s.out) ST⟩
 rw[aaa e,aaa e];rcases hf with hf|hf
 ·exact absurd hf e
 exact ⟨I,abo _,fun D _=>by simp,ho.1,fun T h _=>by dsimp only;omega⟩
def yw{sts:List bg}{i:Nat}{s:bg}(h:sts[i]?=some s)(ht:∀ a∈s.arcs,0<=a.to/\a.to<(i:Int)):(eN sts)[i]?=some (jG (eN sts) s):=by
 have hi:=(aas.1 h).1;have hs:sts[i]=s:=(aas.1 h).2
 have e:sts=sts.take i++[s]++sts.drop (i+1):=by
  grind [List.getElem_cons_drop,List.take_append_drop]
 have hl:ba (sts.take i)=i:=by simp;omega
 have e2:jG (eN (sts.take i)) s=jG (eN sts) s:=by
  unfold jG;refine w9 _ fun a ha=>?_;have:=ht a ha
  conv=>rhs;rw[e,aax]
  rw[aaB,aaB,EJ _ _ qo]
 grind [EJ,Lc,n6]
theorem jL.to{sts:List bg}(h:jL sts){i:Nat}{s:bg}(hs:sts[i]?=some s):∀ a∈s.arcs,0<=a.to/\a.to<(i:Int):=fun a ha=>((h i s hs).arc a ha).to
def t8{sts:List bg}(hf:jL sts):∀ (i:Nat),i<ba sts->pj ((eN sts).getD i jC) ((wt sts).getD i [])/\(wt sts).getD i []≠[]/\∀ y∈(wt sts).getD i [],0<=y.2:=by
 intro i
 induction i using Nat.strongRecOn with
 | _ i ih=>
  intro hi;obtain ⟨s,hs⟩:∃ s,sts[i]?=some s:=⟨_,aae hi⟩;have fm:=hf i s hs;have h1:=mQ hs (hf.to hs);have h2:=yw hs (hf.to hs);have e1:(wt sts).getD i []=fM s++wa (wt sts) s.arcs:=by rw[aaB,h1];rfl
  have e2:(eN sts).getD i jC=jG (eN sts) s:=by rw[aaB,h2];rfl
  have hA:∀ a∈s.arcs,0<=a.out/\pj ((eN sts).getD a.to.toNat jC) ((wt sts).getD a.to.toNat [])/\(wt sts).getD a.to.toNat []≠[]/\∀ y∈(wt sts).getD a.to.toNat [],0<=y.2:=fun a ha=>by
   have g:=(fm.arc a ha).to;exact ⟨(fm.arc a ha).out.1,ih a.to.toNat qo qo⟩
  rw[e1,e2];refine ⟨yd s.arcs _ _ (GG fm) hA,?_,?_⟩
  ·rcases fm.low with ⟨h3,_⟩|⟨a,ha,_⟩
   ·unfold fM;rw[aab h3];simp
   obtain ⟨y,hy⟩:=ab7 _ (hA a ha).2.2.1;have:jX a y∈wa (wt sts) s.arcs:=acq.2 ⟨a,ha,aak.2 ⟨y,hy,rfl⟩⟩;exact List.ne_nil_of_mem (aal.2 (.inr this))
  intro y hy;rcases aal.1 hy with hy|hy
  ·unfold fM at hy
   split at hy
   ·simp only[aaK] at hy;rw[hy];exact fm.out.1
   cases hy
  obtain ⟨a,ha,hy⟩:=acq.1 hy;obtain ⟨z,hz,rfl⟩:=aak.1 hy;have h5:=(hA a ha).2.2.2 z hz;have h6:=(hA a ha).1;show 0<=a.out+z.2;omega
def MF{sts:List bg}{P:Nat->Prop}(hP:∀ (i:Nat) s,sts[i]?=some s->P i->∀ a∈s.arcs,P a.to.toNat){i k:Nat}(v:jv sts i k):P i->∀ j,k<=j->j<=i->P j:=by
 refine jv.rec (motive_1:=fun i k _=>P i->∀ j,k<=j->j<=i->P j) (motive_2:=fun l k m _=>(∀ a∈l,P a.to.toNat)->∀ j,k<=j->j<m->P j) ?_ ?_ ?_ ?_ v
 all_goals grind
def tp(W:List Wd):Prop:=ba W<=4096/\∀ y∈W,ba y.1<=24/\y.2<=1048576
def Oq{tb:List (List Wd)}{l:List dv}{a:dv}(h:a∈l):ba (tb.getD a.to.toNat [])<=ba (wa tb l):=by
 induction l with
 | nil=>cases h
 | cons b l ih=>
  simp only[wa,List.flatMap_cons,aaf,aaP] at ih ⊢
  grind
def MD{sts:List bg}(hf:jL sts)(i:Nat)(s:bg)(hs:sts[i]?=some s)(h:tp ((wt sts).getD i [])):∀ a∈s.arcs,tp ((wt sts).getD a.to.toNat []):=by
 intro a ha;have h1:=mQ hs (hf.to hs);have e1:(wt sts).getD i []=fM s++wa (wt sts) s.arcs:=by rw[aaB,h1];rfl
 rw[e1] at h;refine ⟨?_,fun y hy=>?_⟩
 ·have:=Oq (tb:=wt sts) ha;have h2:=h.1;rw[aaf] at h2;omega
 have:=h.2 (jX a y) (aal.2 (.inr (acq.2 ⟨a,ha,aak.2 ⟨y,hy,rfl⟩⟩)));have h3:=((hf i s hs).arc a ha).out
 grind [jX]
structure iL (base:Int) (sts:List bg):Prop where
 ne:0<ba sts
 len:ba sts<=98305
 bas:1<=base/\base<=1048576
 root:∀ s,sts[ba sts-1]?=some s->s.fin=false
 fm:jL sts
 nd:sts.Nodup
 wd:∀ i,i<ba sts->tp ((wt sts).getD i [])
 top:∀ y∈(wt sts).getD (ba sts-1) [],base+y.2<=1048576
 vis:jv sts (ba sts-1) 0
def iL.sums{base:Int}{sts:List bg}(h:iL base sts){i:Nat}{s:bg}(hs:sts[i]?=some s):∀ j,j<=ba s.arcs->mo ((s.arcs.take j).foldl (jg (eN sts)) (kW s)):=by
 intro j hj;have hi:=(aas.1 hs).1;have fm:=h.fm i s hs
 have hA:∀ a∈s.arcs,0<=a.out/\pj ((eN sts).getD a.to.toNat jC) ((wt sts).getD a.to.toNat [])/\(wt sts).getD a.to.toNat []≠[]/\∀ y∈(wt sts).getD a.to.toNat [],0<=y.2:=fun a ha=>by
  have g:=(fm.arc a ha).to;exact ⟨(fm.arc a ha).out.1,t8 h.fm a.to.toNat qo⟩
 have h1:=mQ hs (h.fm.to hs);have e1:(wt sts).getD i []=fM s++wa (wt sts) s.arcs:=by rw[aaB,h1];rfl
 have hw:=h.wd i hi;rw[e1] at hw;have g:=yd (s.arcs.take j) _ _ (GG fm) fun a ha=>hA a (aaR ha)
 have e2:wa (wt sts) s.arcs=wa (wt sts) (s.arcs.take j)++wa (wt sts) (s.arcs.drop j):=by
  unfold wa;rw[<-acL,aaC]
 rw[e2,<-aax] at hw;have hl:=hw.1;rw[aaf] at hl;have hD:=g.d 24 fun y hy=>(hw.2 y (aal.2 (.inl hy))).1;have hTt:=g.t 1048576 SU fun y hy=>(hw.2 y (aal.2 (.inl hy))).2;have hww:=g.w;exact ⟨qo,qo,g.d0,qo,g.t0,hTt⟩
def iL.topT{base:Int}{sts:List bg}(h:iL base sts):0<=((eN sts).getD (ba sts-1) jC).t/\base+((eN sts).getD (ba sts-1) jC).t<=1048576:=by
 have hn:=h.ne;have hb:=h.bas;obtain ⟨h1,_,_⟩:=t8 h.fm (ba sts-1) qo;have:=h1.t (1048576-base) qo fun y hy=>by have:=h.top y hy;omega
 exact ⟨h1.t0,qo⟩
def Kg{l:List cX}(ok:lD 24 l)(hl:l≠[])(hn:ba l<=4096)(hne:∀ r∈l,r.rs≠[])(hw:∀ r∈l,1<=r.w)(ht:dO l<=98304):
  iL (dp l) (dV 25 bld0 l).1.sts/\(wt (dV 25 bld0 l).1.sts).getD (ba (dV 25 bld0 l).1.sts-1) []=jW (dp l) l:=by
 have hB:zd bld0 l (dV 25 bld0 l):=AB 24 bld0 l BI.bld0 (by intro i s h;simp[bld0] at h) ok hl (by simp[bld0];omega);have hlen:ba (dV 25 bld0 l).1.sts<=ba bld0.sts+dO l+1:=ww 24 bld0 l ok.ok hl;have hfm:=hB.fm;have hnd:=hB.bi.nodup;obtain ⟨n,h1,h2,h3⟩:=hB.idx;clear hB;rcases h3 with ⟨_,h3⟩|⟨h3,_,h5⟩
 ·simp[bld0] at h3
 generalize hS:(dV 25 bld0 l).1.sts=sts at *;have hlen':ba sts<=dO l+1:=by simpa[bld0] using hlen
 have hn':n=ba sts-1:=qo
 subst hn';have hroot:(wt sts).getD (ba sts-1) []=jW (dp l) l:=by rw[aaB,h2];rfl
 have h5':jv sts (ba sts-1) 0:=h5;obtain ⟨r0,hr0,hr0'⟩:=wF hl
 have hPr:tp ((wt sts).getD (ba sts-1) []):=by
  rw[hroot];refine ⟨by simp[jW];exact hn,fun y hy=>?_⟩;obtain ⟨r,hr,rfl⟩:=aak.1 hy;have g1:=ok.ok.dep r hr;have g2:=ok.wt r hr
  grind
 refine ⟨⟨qo,qo,⟨by rw[<-hr0'];exact hw r0 hr0,by rw[<-hr0'];exact ok.wt r0 hr0⟩,fun s hs=>?_,hfm,hnd,fun i hi=>MF (P:=fun i=>tp ((wt sts).getD i [])) (fun i s hs h=>MD hfm i s hs h) h5' hPr i (aag _) qo,fun y hy=>?_,h5'⟩,hroot⟩
 ·cases hf:s.fin with
  | false=>rfl
  | true=>
   have e1:(wt sts).getD (ba sts-1) []=fM s++wa (wt sts) s.arcs:=by rw[aaB,mQ hs (hfm.to hs)];rfl
   have:(([],s.out):Wd)∈jW (dp l) l:=by
    simp_all [fM]
   obtain ⟨r,hr,he⟩:=aak.1 this
   simp_all
 rw[hroot] at hy;obtain ⟨r,hr,rfl⟩:=aak.1 hy;have:=ok.wt r hr;omega
end
section
def kS(k:Int×Int)(a:dv):Int×Int:=(fL (fL (fL (k.1*31)+a.lb)+a.out),fL (fL (k.2*37)+a.to))
def kF(l:List dv):Int×Int:=l.foldl kS (0,0)
def dW(s:bg):Int×Int×Int×Int:=(s.out,(ba s.arcs:Int),(kF s.arcs).1,(kF s.arcs).2)
def MG{sts:List bg}{k m:Nat}(h:iQ sts [] k m):k=m:=by cases h;rfl
def KQ{sts:List bg}{a:dv}{l:List dv}{k m:Nat}(h:iQ sts (a::l) k m):(a.to.toNat<k/\iQ sts l k m)\/(k<=a.to.toNat/\jv sts a.to.toNat k/\iQ sts l (a.to.toNat+1) m):=by
 cases h with
 | old h g=>exact .inl ⟨h,g⟩
 | new h v g=>exact .inr ⟨h,v,g⟩
def ME{sts:List bg}{i k:Nat}(h:jv sts i k):∃ s,sts[i]?=some s/\iQ sts s.arcs k i:=by
 cases h with
 | mk h g=>exact ⟨_,h,g⟩
attribute [local irreducible] Code.wp wpList Calls
def Qw(s:bg)(ao:Option Addr)(n c:Nat)(x:bF 3 jd K ao n c s.arcs)(hn:ba s.arcs<=1000000)(hA:∀ a∈s.arcs,0<=a.lb/\a.lb<=1114111):
  aj w0 147 [.agg (dc s ao n c).toArray] K hs (fun v K' hs'=>K'=K/\hs'=hs/\v=oM (dW s)):=by
 obtain rfl:=x.len;refine dj Tryz.func147 ?_;refine ac9 (bx 0 I fun b1=>al 0 (.agg #[.int .i64 0,.int .i64 0,.int .i64 0,.int .i64 0]) I qk fun b2=>au ?_);refine bd 1 (.agg #[.int .i64 s.out,.int .i64 (ba s.arcs),.int .i64 0,.int .i64 0]) I (fun w=>by kernel_rfl) (al 0 (.agg #[.int .i64 0,.int .i64 0,.int .i64 0,.int .i64 0]) I qk fun b3=>?_);refine bJ 0 0 I I qk I I ?_;refine fin 0 I (ac5 (bE 1 2 I I I (fin 2 I (th (bk ?_)))))
 refine loop (σ:=Nat) (fun j=>[(2,SX b2),(3,SX b3),(13,.slice ao (ba s.arcs) c),(14,.int .i64 (ba s.arcs)),(15,.int .i64 (j:Nat))]) (fun _=>K)
  (fun j=>pt b3 #[.int .i64 s.out,.int .i64 (ba s.arcs),.int .i64 (kF (s.arcs.take j)).1,.int .i64 (kF (s.arcs.take j)).2] 257::pt b2 #[.int .i64 0,.int .i64 0,.int .i64 0,.int .i64 0] 257::pt b1 (dc s ao (ba s.arcs) c).toArray 206::hs) (fun j=>j<=ba s.arcs) (fun j=>ba s.arcs-j) 0 (aag _) ⟨rfl,rfl,rfl,rfl,rfl,trivial⟩ rfl rfl ?_
 intro j hj;refine ac9 (af 0 I fun b16 h16=>au ?_);refine ah h16 I (fun e2=>?_) (fun e2=>?_)
 ·have hjl:j<ba s.arcs:=qo
  obtain ⟨a,ha⟩:=bC (s.arcs[j]);have ham:a∈s.arcs:=by rw[ha];simp
  have ht:kF (s.arcs.take (j+1))=kS (kF (s.arcs.take j)) a:=by
   have:s.arcs.take (j+1)=s.arcs.take j++[a]:=by simp_all
   grind [kF]
  obtain ⟨h1,h2⟩:=hA a ham;generalize kF (s.arcs.take j)=q at ht ⊢;obtain ⟨ad,rfl⟩:=x.addr qo SU;obtain ⟨vs,xv⟩:=x.isS;obtain ⟨cs,hc,hcl,hcell⟩:=x.cells (i:=j) (x:=a) (by rw[aae hjl,ha]);obtain rfl:=hc;refine au ?_;refine dz 0 j I I xv hjl SU fun a32 ha=>?_;cases ha;refine eD 0 (fy a) I qk (.inl I) hcell (al 0 (.agg #[.int .i32 0,.int .i64 0,.int .i64 0]) I qk fun b5=>?_);refine bJ 0 0 I I qk I I ?_;refine fin 0 I (ac6 (nQ 0 (sz:=1) 2 I Tryz.underlying257 qk I SU ?_));simp only[bz,aah,aaD];refine au ?_;refine ar 0 I (v':=.int .i64 (fL (q.1*31))) I (au ?_);refine ar 0 I (ac (x:=a.lb) qo) (ar 0 I (v':=.int .i64 (fL (fL (q.1*31)+a.lb))) I (au ?_));refine ar 0 I (v':=.int .i64 (fL (fL (fL (q.1*31)+a.lb)+a.out))) I (nQ 0 (sz:=1) 2 I Tryz.underlying257 qk I SU ?_)
  simp only[bz,aah,aaD];refine au ?_;refine nQ 0 (sz:=1) 3 I Tryz.underlying257 qk I SU ?_;simp only[bz,aah,aaD];refine au ?_;refine ar 0 I (v':=.int .i64 (fL (q.2*37))) I (au ?_);refine ar 0 I (v':=.int .i64 (fL (fL (q.2*37)+a.to))) I (nQ 0 (sz:=1) 3 I Tryz.underlying257 qk I SU ?_);simp only[bz,aah,aaD];refine au ?_;refine ar 0 I (ac (x:=((j+1:Nat):Int)) qo) (fin 1 I (WQ.drop ?_));exact bc (x:=j) (j+1) sb I (by rw[ht];rfl) hjl qo
 obtain rfl:j=ba s.arcs:=qo
 rw[aav];refine ex (xt (xt (xb (ac6 (dy 0 0 I I qk ?_)))));refine bJ 0 1 I I qk I I ?_;exact fin 0 I (adb (ml 1 3 I I I qk ⟨I,I,I⟩))
def vI(w0:World)(K:PH)(hs:List PH)(n b1 b3 b4 b5 bS i k:Nat):Prop:=
 aj w0 172 [.int .i64 (i:Nat),SX b1,SX b4,SX b5,SX b3] K
   (pt b3 #[.int .i64 (k:Nat)] 3::pt bS (lT n k) 4::hs)
   (fun v K' hs'=>K'=K/\hs'=pt b3 #[.int .i64 (i+1:Nat)] 3::pt bS (lT n (i+1)) 4::hs/\v=.bool true)
def PT(sts:List bg)(hf:jL sts)(aoS:Option Addr)(cS b1 b3 b4 b5 bS:Nat)(hS:bF 3 (gF K) K aoS (ba sts) cS sts)(h1:bR K ⟨b1,1,none⟩ (.slice aoS (ba sts) cS))
  (h4:bR K ⟨b4,0,none⟩ (.slice (some ⟨bS,0,none⟩) (ba sts) (ba sts))) (h5:bR K ⟨b5,0,none⟩ (zM b1 b4 b5 b3)) (hn:ba sts<=1000000) (hal:∀ s∈sts,ba s.arcs<=1000000)
  (i k:Nat) (hi:i<ba sts) (hv:jv sts i k) (hki:k<=i) (ih:∀ i' k',i'<i->k'<=i'->jv sts i' k'->vI w0 K hs (ba sts) b1 b3 b4 b5 bS i' k'):vI w0 K hs (ba sts) b1 b3 b4 b5 bS i k:=by
 obtain ⟨s,hs0,hvas⟩:=ME hv;have fm:=hf i s hs0;have hal':=hal s (aap hs0);obtain ⟨ad,rfl⟩:=hS.addr qo SU;obtain ⟨vs,xv⟩:=hS.isS;obtain ⟨cs,⟨aoA,nA,cA,rfl,xA⟩,hcl,hcell⟩:=hS.cells hs0;obtain rfl:=xA.len;refine bH Tryz.func172 ?_;refine ld 1 I (.inl I) h1 (dz 1 i I I xv qo SU fun a12 ha=>?_);cases ha;refine ld 1 I (.inl I) (hcell 2 _ I) (au ?_)
 refine loop (σ:=Nat×Nat) (fun x=>[(0,.int .i64 (i:Nat)),(1,SX b1),(2,SX b4),(3,SX b5),(4,SX b3),(14,.slice aoA (ba s.arcs) cA),(15,.int .i64 (ba s.arcs)),(16,.int .i64 x.1)]) (fun _=>K)
  (fun x=>pt b3 #[.int .i64 x.2] 3::pt bS (lT (ba sts) x.2) 4::hs) (fun x=>x.1<=ba s.arcs/\x.2<=i/\iQ sts (s.arcs.drop x.1) x.2 i) (fun x=>ba s.arcs-x.1) (0,k) ⟨aag _,hki,hvas⟩ ⟨rfl,rfl,rfl,rfl,rfl,rfl,rfl,rfl,trivial⟩ rfl rfl ?_
 rintro ⟨j,q⟩ ⟨hj,hq,hV⟩;dsimp only at *;refine ac9 (aX 0 I (fun e2=>?_) (fun e2=>?_))
 ·refine au ?_;have hjl:j<ba s.arcs:=qo
  obtain ⟨a,ha0⟩:=bC (s.arcs[j]);have ham:a∈s.arcs:=by rw[ha0];simp
  have hto:=(fm.arc a ham).to;have htn:((a.to.toNat:Nat):Int)=a.to:=qo
  rw[aaF hjl,<-ha0] at hV;obtain ⟨adA,rfl⟩:=xA.addr qo SU;obtain ⟨vsA,xvA⟩:=xA.isS;obtain ⟨csA,hcs,hclA,hcellA⟩:=xA.cells (i:=j) (x:=a) (by rw[aae hjl,ha0]);obtain rfl:=hcs;have xs:=(aZ.ofPt (b:=bS) (c:=lT (ba sts) q) (e:=4) (n:=ba sts) (size:=1) (by simp[rL]) (by unfold maxLen;omega)).isS;refine au ?_;refine dz 0 j I I xvA hjl SU fun a18 ha=>?_;cases ha;refine eD 0 (fy a) I qk (.inl I) hcellA (al 0 (.agg #[.int .i32 0,.int .i64 0,.int .i64 0]) I qk fun b8=>?_);refine bJ 0 0 I I qk I I ?_;refine fin 0 I (ac6 (ld 0 I (.inl I) h4 (au ?_)));refine fe 0 a.to.toNat I htn.symm I xs (by rw[abM];exact qe qo) fun a23 hc23=>?_;refine ld 0 I (.inr ⟨2,I⟩) hc23 ?_;rcases KQ hV with ⟨g1,g2⟩|⟨g1,g2,g3⟩
  ·rw[show decide (a.to.toNat<q)=true from by simpa using g1];exact fin 8 I (th (dt I (sk (ac7 (WL.drop (ar 0 I (ac (x:=((j+1:Nat):Int)) qo) (fin 1 I (bc (x:=(j,q)) (j+1,q) sb I I ⟨hjl,hq,g2⟩ qo))))))))
  rw[show decide (a.to.toNat<q)=false from by simpa using g1];have hrec:=ih a.to.toNat q qo g1 g2;unfold vI at hrec;rw[htn] at hrec;refine ld 2 I (.inl I) h5 (bE 1 0 I I I (WL.drop (cl 0 I hrec ?_)));rintro v30 K30 hs30 ⟨rfl,rfl,rfl⟩;refine au ?_;exact ar 0 I (ac (x:=((j+1:Nat):Int)) qo) (fin 1 I (bc (x:=(j,q)) (j+1,a.to.toNat+1) sb I I ⟨hjl,qo,g3⟩ ax))
 refine au ?_;have hje:j=ba s.arcs:=qo
 rw[hje,aaS] at hV;obtain rfl:=MG hV;have xs:=(aZ.ofPt (b:=bS) (c:=lT (ba sts) q) (e:=4) (n:=ba sts) (size:=1) (by simp[rL]) (by unfold maxLen;omega)).isS;refine au ?_;refine ld 0 I (.inl I) h4 (dz 1 q I I xs qo SU fun a36 ha=>?_);cases ha;simp only[bz,aaD,aah];refine stp 0 1 I I (qe qo) I (au ?_);refine ar 0 I (ac qo) (au ?_);refine ar 1 I (ac qo) (aX 0 I (fun h42=>au ?_) (fun h42=>absurd I h42));exact ay I I ⟨I,by rw[JS qo];rfl,rfl⟩
def PU(sts:List bg)(hf:jL sts)(aoS:Option Addr)(cS b1 b3 b4 b5 bS:Nat)(hS:bF 3 (gF K) K aoS (ba sts) cS sts)(h1:bR K ⟨b1,1,none⟩ (.slice aoS (ba sts) cS))
  (h4:bR K ⟨b4,0,none⟩ (.slice (some ⟨bS,0,none⟩) (ba sts) (ba sts))) (h5:bR K ⟨b5,0,none⟩ (zM b1 b4 b5 b3)) (hn:ba sts<=1000000) (hal:∀ s∈sts,ba s.arcs<=1000000):
  ∀ (i k:Nat),i<ba sts->k<=i->jv sts i k->vI w0 K hs (ba sts) b1 b3 b4 b5 bS i k:=by
 intro i
 induction i using Nat.strongRecOn with
 | _ i ih=>exact fun k hi hki hv=>PT sts hf aoS cS b1 b3 b4 b5 bS hS h1 h4 h5 hn hal i k hi hv hki fun i' k' h1' h2' h3'=>ih i' h1' k' qo h2' h3'
def J9(sts:List bg)(hf:jL sts)(hv:jv sts (ba sts-1) 0)(hl:0<ba sts)(base:Int)(aoS:Option Addr)(cS:Nat)(hS:bF 3 (gF K) K aoS (ba sts) cS sts)(hn:ba sts<=1000000)(hal:∀ s∈sts,ba s.arcs<=1000000):
  aj w0 149 [.agg #[.int .i64 base,.slice aoS (ba sts) cS]] K hs (fun v K' hs'=>K'=K/\hs'=hs/\v=.bool true):=by
 refine dj Tryz.func149 ?_;refine ac9 (bx 0 I fun b1=>au ?_);refine al 0 (.int .i64 0) I qk fun b3=>au ?_;refine Sd 1 (ba sts) (.bool false) I I I I (by show ba sts*1<=2 ^ 47;omega) qo qo SU fun bS oS=>?_;rw[Ng];refine al 0 (.slice none 0 0) I qk fun b4=>au ?_;refine al 0 (.nilFunc) I qk fun b5=>fin 0 I (ac6 (stp 1 0 I I I I (fin 0 I (th (WC.frz fun K1 le1 l5=>WC.frz fun K2 le2 l4=>WC.perm (ig _ 2 _ I) (WC.frz fun K3 le3 l1=>WC.perm (aaq _ _ _) (ac9 ?_)))))));have c1:bR K3 ⟨b1,1,none⟩ (.slice aoS (ba sts) cS):=(bR.pt rfl).le l1;have c4:bR K3 ⟨b4,0,none⟩ (.slice (some ⟨bS,0,none⟩) (ba sts) (ba sts)):=((bR.pt rfl).le l4).le le3;have c5:bR K3 ⟨b5,0,none⟩ (zM b1 b4 b5 b3):=(((bR.pt rfl).le l5).le le2).le le3;have hS3:bF 3 (gF K3) K3 aoS (ba sts) cS sts:=FM (le1.trans (le2.trans le3)) hS
 refine ld 0 I (.inl I) c5 (ld 1 I (.inl I) c1 (ar 1 I (v':=.int .i64 (ba sts-1:Nat)) (by grind [ac]) (cl 0 I (PU sts hf aoS cS b1 b3 b4 b5 bS hS3 c1 c4 c5 hn hal (ba sts-1) 0 qo (aag _) hv) ?_)));rintro v16 K16 hs16 ⟨rfl,rfl,rfl⟩;refine au ?_;exact ld 1 I (.inl I) c1 (aX 1 I (fun h22=>fin 2 I (adb (WQ.drop (WQ.drop (WQ.weak (le1.trans (le2.trans le3)) (ay I I ⟨I,I,I⟩)))))) (fun h22=>absurd qo h22))
end
section
section u5
variable {P:Program} {T:br} {w0:World} {ops:Array Oper} {Q:Exit->Act->World->Prop} {plan plan':List Nat} {z:Nat} {listed listed':Array Bool} {n:Nat} {l l':Sl} {K K0:PH} {hs A:List PH}
def Gk(T:br)(ops:Array Oper)(n z k:Nat)(plan:List Nat)(L:Array Bool)(l:Sl):Option (Nat×Oper×Bool×Nat×Array Value×Array Value×List Nat×Array Bool×Sl):=
 match mV T ops n z k plan L l with
 | some (d,o,r,L',l')=>match o.op with
  | .binOp .eql t x y _=>match ev l' x,ev l' y with
   | some (.agg xs),some (.agg ys)=>some (d,o,true,t,xs,ys,r,L',l')
   | _,_=>none
  | .binOp .neq t x y _=>match ev l' x,ev l' y with
   | some (.agg xs),some (.agg ys)=>some (d,o,false,t,xs,ys,r,L',l')
   | _,_=>none
  | _=>none
 | none=>none
def u5[hT:TabOK P T](hsel:Region.noSelect ops=true)(k:Nat){d t:Nat}{o:Oper}{same b:Bool}{xs ys:Array Value}(h0:Gk T ops n z k plan listed l=some (d,o,same,t,xs,ys,plan',listed',l'))(hg0:P.eqGuardType P.depth t=false)
  (hr:∀ w,(Op.equalIn 10000 t (.agg xs) (.agg ys)).run P w=.ok b w) (hk:WA P w0 ops Q K0 A z plan' listed' n ((d,.bool (b == same))::l') K hs):WA P w0 ops Q K0 A z plan listed n l K hs:=by
 unfold Gk at h0
 split at h0
 ·rename_i d' o' r L' l2 hh
  split at h0
  ·rename_i t' x y ty hop
   split at h0
   ·rename_i xs' ys' hx hy;simp only[aad,aai] at h0;obtain ⟨rfl,rfl,rfl,rfl,rfl,rfl,rfl,rfl,rfl⟩:=h0;refine nR hsel k hh (fun a w ha=>?_) hk;simp only[execOp,hop,ha.ev hx,ha.ev hy];simp[run_eqGuard_agg,hg0,run_eql_struct,hr]
   simp at h0
  ·rename_i t' x y ty hop
   split at h0
   ·rename_i xs' ys' hx hy;simp only[aad,aai] at h0;obtain ⟨rfl,rfl,rfl,rfl,rfl,rfl,rfl,rfl,rfl⟩:=h0;refine nR hsel k hh (fun a w ha=>?_) hk;simp only[execOp,hop,ha.ev hx,ha.ev hy];simp[run_eqGuard_agg,hg0,run_neq_struct,hr]
   simp at h0
  simp at h0
 simp at h0
end u5
def JJ{α:Type}{l m:List α}{j:Nat}{x y:α}(h:l.take j=m.take j)(hx:l[j]?=some x)(hy:m[j]?=some y)(e:x=y):l.take (j+1)=m.take (j+1):=by
 rw[aaA,aaA,h,hx,hy,e]
attribute [local irreducible] Code.wp wpList Calls
def QK(a b:dv)(w:World):(Op.equalIn 10000 208 (.agg (fy a).toArray) (.agg (fy b).toArray)).run Tryz.prog w=.ok (decide (a=b)) w:=by
 have u3:=Tryz.underlying3;have a3:=Tryz.isAgg3;have z3:=Tryz.sizeOf3;have u4:=Tryz.underlying21;have a4:=Tryz.isAgg21;have z4:=Tryz.sizeOf21;obtain ⟨a1,a2,a3'⟩:=a;obtain ⟨b1,b2,b3'⟩:=b;unfold fy;rw[show (10000:Nat)=9999+1 from rfl,run_equalIn_agg w 9999 208 _ _ qk qk];simp only[Program.fieldsOf,Tryz.underlying208]
 go_simp
 by_cases h1:a1=b1 <;> by_cases h2:a2=b2 <;> by_cases h3:a3'=b3' <;> simp[h1,h2,h3]
def PQ{w0:World}{K:PH}{hs:List PH}(s t:bg)(ao:Option Addr)(n c:Nat)(bo:Option Addr)(m d:Nat)(x:bF 3 jd K ao n c s.arcs)(y:bF 3 jd K bo m d t.arcs)(hn:ba s.arcs<=1000000)(hm:ba t.arcs<=1000000):
  aj w0 148 [.agg (dc s ao n c).toArray,.agg (dc t bo m d).toArray] K hs (fun v K' hs'=>K'=K/\hs'=hs/\∃ b:Bool,v=.bool b/\(b=true↔s=t)):=by
 obtain rfl:=x.len;obtain rfl:=y.len;refine dj Tryz.func148 ?_;refine ac9 (bx 0 I fun b2=>bx 0 I fun b3=>fin 1 I (ac5 (WL.hs (pt b3 (dc t bo (ba t.arcs) d).toArray 206::pt b2 (dc s ao (ba s.arcs) c).toArray 206::hs) I (bE 1 1 (v:=.bool s.fin) I I I (bE 1 0 (v:=.bool t.fin) I I I (eE 0 (¬s.fin=t.fin) I (by cases s.fin <;> cases t.fin <;> simp) fun b10 h10=>?_))))))
 refine' eB (q:=¬s.out=t.out) 1 6 17 [10,11] h10 I I I I I I I (fun _=>?x2) (fun b17 h17=>?_)
 case x2=>
  exact bE 1 1 (v:=.int .i64 s.out) I I I<|bE 1 0 (v:=.int .i64 t.out) I I I (af 0 I fun b16 h16=>fin 1 I<|dk h16 I I I)
 refine' eB (q:=¬ba s.arcs=ba t.arcs) 1 8 26 [17,18] h17 I I I I I I I (fun _=>?x4) (fun b26 h26=>?_)
 case x4=>
  exact bE 1 1 (v:=.slice ao (ba s.arcs) c) I I I<|bE 2 0 (v:=.slice bo (ba t.arcs) d) I I I (af 1 I fun b25 h25=>fin 1 I<|dk (h25.trans qo) I I I)
 refine fin 0 I<|th (ah h26 I (fun e6=>?_) (fun e6=>?_))
 ·refine ac9 (fin 1 I (adb (rT (WQ.drop (WQ.drop (ay I I ⟨I,I,false,I,⟨(fun h=>by cases h),fun h=>?_⟩⟩))))));subst h;rcases e6 with (e6|e6)|e6 <;> exact absurd rfl e6
 have e6:=not_or.1 e6;have e6':=not_or.1 e6.1;have g1:s.fin=t.fin:=Decidable.not_not.1 e6'.1;have g2:s.out=t.out:=Decidable.not_not.1 e6'.2;have g3:ba s.arcs=ba t.arcs:=Decidable.not_not.1 e6.2;refine sk (ac5 (bE 1 1 (v:=.slice ao (ba s.arcs) c) I I I (au ?_)))
 refine loop (σ:=Nat) (fun j=>[(2,SX b2),(3,SX b3),(29,.int .i64 (ba s.arcs)),(30,.int .i64 (j:Nat))]) (fun _=>K)
  (fun _=>pt b3 (dc t bo (ba t.arcs) d).toArray 206::pt b2 (dc s ao (ba s.arcs) c).toArray 206::hs) (fun j=>j<=ba s.arcs/\s.arcs.take j=t.arcs.take j) (fun j=>ba s.arcs-j) 0 ⟨aag _,rfl⟩ ⟨rfl,rfl,rfl,rfl,trivial⟩ rfl rfl ?_
 rintro j ⟨hj,hJ⟩;refine ac9 (af 0 I fun b31 h31=>au ?_);refine ah h31 I (fun e8=>?_) (fun e8=>?_)
 ·have hjl:j<ba s.arcs:=qo
  obtain ⟨p,hp⟩:∃ p,s.arcs[j]?=some p:=⟨_,aae hjl⟩;obtain ⟨q,hq⟩:∃ q,t.arcs[j]?=some q:=⟨_,aae qo⟩;obtain ⟨ad,rfl⟩:=x.addr qo SU;obtain ⟨bd',rfl⟩:=y.addr qo SU;obtain ⟨cs,hc,hcl,hcell⟩:=x.cells hp;obtain rfl:=hc;obtain ⟨ds,hd,hdl,hdell⟩:=y.cells hq;obtain rfl:=hd;refine au ?_;refine bI [pt b3 (dc t (some bd') (ba t.arcs) d).toArray 206,pt b2 (dc s (some ad) (ba s.arcs) c).toArray 206] 11 [0,2,4,6,8,10,12,14,16,18,20] ST qk qk (dF qk 1 1 (v:=.slice (some ad) (ba s.arcs) c) I I I (bh qk 1 j I I hjl (ip qk 0 (fy p) I qk qk (.inl I) hcell (dF qk 1 0 (v:=.slice (some bd') (ba t.arcs) d) I I I (bh qk 1 j I I qo (ip qk 0 (fy q) I qk qk (.inl I) hdell (u5 qk 0 I qk (fun w=>QK p q w) (au ?_))))))))
  refine nt I (fun e9=>?_) (fun e9=>?_)
  ·have hpq:¬p=q:=by simpa using e9
   refine ac9 (fin 1 I (adb (rB (rT (rT (rB (rT (WQ.drop (WQ.drop (ay I I ⟨I,I,false,I,⟨(fun h=>by cases h),fun h=>?_⟩⟩))))))))));subst h;rw[hp] at hq;exact absurd (aa8 hq) hpq
  have hpq:p=q:=by simpa using e9
  exact sk<|ac7 (ar 0 I (ac (x:=((j+1:Nat):Int)) qo)<|fin 1 I (bc (x:=j) (j+1) sb I I ⟨hjl,JJ hJ hp hq hpq⟩ qo))
 refine ex (xt (xt (xb (ac6 (fin 1 I (adb (WQ.drop (WQ.drop (ay I I ⟨I,I,true,I,⟨fun _=>?_,fun _=>I⟩⟩)))))))));obtain ⟨f1,o1,l1⟩:=s;obtain ⟨f2,o2,l2⟩:=t;dsimp only at *;have hje:j=ba l1:=qo
 rw[hje,aav,aar qo] at hJ;rw[g1,g2,hJ]
end
section
section zN
variable {P:Program} {T:br} {w0:World} {ops:Array Oper} {Q:Exit->Act->World->Prop} {rest rest':List Oper} {n:Nat} {l l':Sl} {K:PH} {hs:List PH}
variable {κ:Type} [DecidableEq κ] {enc:κ->Value} {h:PH} {b:Nat} {m:List (κ×Value)}
theorem Gh(k:κ):∀ (m:List (κ×Value)) (i:Nat) (v:Value),fk k m 0=some (i,v)->m[i]?=some (k,v)
 | [],i,v,h=>by simp[fk] at h
 | (k',v')::m,i,v,h=>by
  by_cases hk:k=k'
  ·simp only[fk,hk,if_true,aad,aai] at h;obtain ⟨rfl,rfl⟩:=h;rw[hk];rfl
  simp only[fk,hk,if_false] at h;rw[px] at h;cases hf2:fk k m 0 with
  | none=>simp[hf2] at h
  | some y=>
   rw[hf2] at h;simp only[aa2,aad,aai] at h;obtain ⟨rfl,rfl⟩:=h;have:=Gh k m y.1 y.2 hf2;rw[show 0+1+y.1=y.1+1 from qo];simpa using this
def tt(enc:κ->Value)(h:PH)(b:Nat)(m:List (κ×Value))(j:κ)(c:Nat):Prop:=
 ∃ (es:Array MapEntry) (clock i:Nat) (v0:Value),h=sg b (.map es clock)/\es.toList.map (fun e=>(e.key,e.val))=m.map (fun x=>(enc x.1,x.2))/\(es.toList.map (·.born)).Pairwise (· < ·)/\(∀ e∈es.toList,e.born<clock) /\
  es[i]?=some { key:=enc j,val:=v0,born:=c }/\fk j m 0=some (i,v0)
def tt.map{j:κ}{c:Nat}(x:tt enc h b m j c):dG enc id h b m:=by
 obtain ⟨es,k,i,v0,h1,h2,h3,h4,_⟩:=x;exact ⟨es,k,h1,h2,h3,h4⟩
def zN[hT:TabOK P T](k i:Nat){d t kt et:Nat}{o:Oper}{v v0:Value}(j:κ)(h0:vq T ops n k rest l=some (d,o,t,.map (some b),v,rest',l'))(hi:hs[i]?=some h)(hu:P.underlying t=some (.map kt et))(hK:ga P kt enc)(hv:v=enc j)(hm:dG enc id h b m)
  (hex:aK j m=some v0) (hk:∀ h' c,tt enc h' b m j c->WL P w0 ops Q rest' n ((d,.tuple #[v0,.int .i64 (c:Nat)])::l') K (hs.set i h')):WL P w0 ops Q rest n l K hs:=by
 obtain ⟨h1,h2⟩:=Cc h0;subst hv;refine pc k (R:=fun v K' hs'=>∃ h' c,tt enc h' b m j c/\v=.tuple #[v0,.int .i64 (c:Nat)]/\K'=K/\hs'=hs.set i h') h1 (fun a w ha hw=>?_) ?_
 ·have hm0:=hm;obtain ⟨es,c,rfl,g2,g3,g4⟩:=hm;have hb:w.heap[b]?=some (.map es c):=hw.own i _ hi b _ ST;have hid:(m.map fun x=>(x.1,(id:Value->Value) x.2))=m:=by simp
  have g2':es.toList.map (fun e=>(e.key,e.val))=m.map (fun x=>(enc x.1,x.2)):=g2;have hf:=hK.fnd j es.toList m w g2'
  obtain ⟨q,hfq⟩:∃ q,fk j m 0=some (q,v0):=by
   have:=sL (encv:=(id:Value->Value)) j m 0;rw[hid,hex] at this;cases hq:fk j m 0 with
   | none=>rw[hq] at this;cases this
   | some y=>
    rw[hq] at this;simp only[aa2,aad,id] at this;exact ⟨y.1,by rw[<-this]⟩
  have hkey:=yI (enc:=enc) j g2' hfq;have hmq:=Gh j m q v0 hfq;have hq2:(es.toList.map fun e=>(e.key,e.val))[q]?=some (enc j,v0):=by rw[g2',aa4,hmq];rfl
  rw[aa4] at hq2;obtain ⟨e,he,hee⟩:=abY.1 hq2;simp only[aai] at hee;have heq:e={ key:=enc j,val:=v0,born:=e.born }:=by cases e;simp_all
  have hes:es[q]?=some e:=by rw[<-abM];exact he
  have hmod:(es.modify q fun e=>{ e with key:=enc j })=es:=by
   apply acK
   intro p;rw[Array.getElem?_modify]
   by_cases e':q=p
   ·subst e';rw[aab rfl,hes,heq];rfl
   rw[aaa e']
  have hset:∀ o:Obj,(setObj b o).run P w=.ok () (w.putObj b o):=fun o=>by simp[setObj,Sem.run,hb,World.putObj]
  have hst:(Instr.keyThatStays (enc j) (enc j)).run P w=.ok (enc j) w:=by unfold Instr.keyThatStays;simp[hK.sam]
  refine ⟨.tuple #[v0,.int .i64 e.born],w.putObj b (.map es c),K,hs.set i (sg b (.map es c)),?_,hw.putObj hi _,_,e.born,⟨es,c,q,v0,I,g2',g3,g4,by rw[hes];exact congrArg some heq,hfq⟩,I,I,I⟩;rw[h2 a ha];unfold Instr.mapEntry;have hk2:((es[q]?).map (·.key)).getD (enc j)=enc j:=by rw[hes,heq];rfl
  have hb2:(Option.map (fun x:MapEntry=>((x.born:Nat):Int)) es[q]?).getD 0=((e.born:Nat):Int):=by rw[hes];rfl
  simp only[Sem.run_bind,run_underlying hu,Result.andThen,kC hb,Sem.run_pure,hK.chk,hf,hfq,hk2,hst,hmod,hset,hb2]
  rfl
 rintro v K' hs' ⟨h',c,g1,rfl,rfl,rfl⟩;exact hk h' c g1
def Sw[hT:TabOK P T](k i:Nat){t:Nat}{o:Oper}{x y:Value}{c:Nat}{j:κ}(h0:uY T ops n k rest l=some (o,t,.map (some b),x,y,rest',l'))(hi:hs[i]?=some h)(hx:x=.int .i64 (c:Nat))(hm:tt enc h b m j c)
  (hk:∀ h',dG enc id h' b (cG j y m)->WL P w0 ops Q rest' n l' K (hs.set i h')):WL P w0 ops Q rest n l K hs:=by
 obtain ⟨h1,h2⟩:=Bv h0;subst hx;refine vQ k (R:=fun K' hs'=>∃ h',dG enc id h' b (cG j y m)/\K'=K/\hs'=hs.set i h') h1 (fun a w ha hw=>?_) ?_
 ·obtain ⟨es,clock,q,v0,rfl,g2,g3,g4,g5,g6⟩:=hm;have hb:w.heap[b]?=some (.map es clock):=hw.own i _ hi b _ ST;have hset:∀ o:Obj,(setObj b o).run P w=.ok () (w.putObj b o):=fun o=>by simp[setObj,Sem.run,hb,World.putObj]
  obtain ⟨hql,hqe⟩:=acf.1 g5
  have hfi:es.findIdx? (fun e=>(e.born:Int) == ((c:Nat):Int))=some q:=by
   rw[Array.findIdx?_eq_some_iff_getElem];refine ⟨hql,by rw[hqe];simp,fun p hp=>?_⟩;have hp':=abd.1 g3 p q (by simpa using (show p<es.size by omega)) (by simpa using hql) hp;simp only[List.getElem_map,Array.getElem_toList,hqe] at hp';simp only[beq_eq_false_iff_ne,ne_eq,Bool.not_eq_true];omega
  have e1:=ud (enc:=enc) (encv:=(id:Value->Value)) j y clock es.toList m (by simpa using g2);have e2:=wU (enc j) y clock (some (q,v0)) es.toList g3 g4;have hid:(m.map fun x=>(x.1,(id:Value->Value) x.2))=m:=by simp
  rw[hid,g6] at e1;simp only[kQ] at e1 e2
  have hmod:es.toList.modify q (fun e=>{ e with key:=enc j,val:=y })=es.toList.modify q (fun e=>{ e with val:=y }):=by
   apply abi
   intro p;rw[List.getElem?_modify,List.getElem?_modify]
   by_cases e':q=p
   ·subst e';rw[abM,g5];simp
   simp[e']
  refine ⟨w.putObj b (.map (es.modify q fun e=>{ e with val:=y }) clock),K,hs.set i (sg b (.map (es.modify q fun e=>{ e with val:=y }) clock)),?_,hw.putObj hi _,_,⟨es.modify q fun e=>{ e with val:=y },clock,I,?_,?_,?_⟩,I,I⟩
  ·rw[h2 a ha];unfold Instr.entryStore;have hai:(asInt (.int .i64 (c:Nat))).run P w=.ok ((c:Nat):Int) w:=rfl;simp only[Sem.run_bind,kC hb,Result.andThen,hai,hfi,hset]
   rfl
  ·rw[abw,<-hmod];exact e1
  ·rw[abw,<-hmod];exact e2.1
  rw[abw,<-hmod];exact e2.2
 rintro K' hs' ⟨h',g1,rfl,rfl⟩;exact hk h' g1
end zN
end
section
open Go.Proofs.YtgaefgbgfmpobaaGreatDoor
def fN(sts:List bg)(j:Nat):List gj:=(eN sts).take j++List.replicate (ba sts-j) jC
def MX(sts:List bg){j:Nat}(h:j<=ba sts):ba (fN sts j)=ba sts:=by
 simp_all [n6,fN]
def FH(sts:List bg){i j:Nat}(h:i<j)(hj:j<=ba sts):(fN sts j)[i]?=(eN sts)[i]?:=by
 simp_all [aa3,n6,fN]
def MW(sts:List bg){j:Nat}(h:j<ba sts){x:gj}(hx:(eN sts)[j]?=some x):(fN sts j).set j x=fN sts (j+1):=by
 have hl:ba (eN sts)=ba sts:=n6 sts;unfold fN;rw[acr _ _ (by rw[aam];omega),aam,show j-min j (ba (eN sts))=0 by omega,show ba sts-j=(ba sts-(j+1))+1 by omega,List.replicate_succ,List.set_cons_zero,aaA,hx]
 simp
def PY(sts:List bg):fN sts 0=List.replicate (ba sts) jC:=by simp[fN]
def MY(sts:List bg):fN sts (ba sts)=eN sts:=by
 simp[aar,n6,fN]
def PX(sts:List bg){i j:Nat}(h:i<j)(hj:j<=ba sts):(fN sts j).getD i jC=(eN sts).getD i jC:=by
 rw[aaB,aaB,FH sts h hj]
def iL.tbd{base:Int}{sts:List bg}(h:iL base sts){j:Nat}(hj:j<=ba sts):∀ y∈fN sts j,mo y:=by
 intro y hy;obtain ⟨i,hi⟩:=aa1.1 hy
 by_cases e:i<j
 ·rw[FH sts e hj] at hi;obtain ⟨s,hs⟩:∃ s,sts[i]?=some s:=⟨_,aae qo⟩;rw[yw hs (h.fm.to hs)] at hi;have:=h.sums hs (ba s.arcs) (aac _);rw[aav] at this;rw[<-aa8 hi];exact this
 unfold fN at hi;rw[aa9 (by rw[aam,n6];omega)] at hi;have:=aap hi
 simp_all [SE]
def iL.arcsL{base:Int}{sts:List bg}(h:iL base sts){i:Nat}{s:bg}(hs:sts[i]?=some s):ba s.arcs<=4096:=by
 have hi:=(aas.1 hs).1;have fm:=h.fm i s hs;have e1:(wt sts).getD i []=fM s++wa (wt sts) s.arcs:=by rw[aaB,mQ hs (h.fm.to hs)];rfl
 have hw:=(h.wd i hi).1;rw[e1,aaf] at hw
 have:∀ l:List dv,(∀ a∈l,(wt sts).getD a.to.toNat []≠[])->ba l<=ba (wa (wt sts) l):=by
  intro l
  induction l with
  | nil=>simp
  | cons a l ih=>
   intro hl;have h1:=abc.2 (hl a ST)
   grind [wa]
 have:=this s.arcs fun a ha=>(t8 h.fm a.to.toNat (by have:=(fm.arc a ha).to;omega)).2.1;omega
structure mg where
 k:Int×Int×Int×Int
 ao:Option Addr
 cap:Nat
 js:List Nat
 g:PH
def rp(l:List Nat):List Value:=l.map fun q=>Value.int .i64 (q:Nat)
def ky(es:List mg):List ((Int×Int×Int×Int)×Value):=es.map fun e=>(e.k,.slice e.ao (ba e.js) e.cap)
def LX(es:List mg):(ky es).map (·.1)=es.map (·.k):=by simp[ky]
theorem yc:∀ {es:List mg} {k:Int×Int×Int×Int} {v:Value},aK k (ky es)=some v->∃ e1 e e2,es=e1++e::e2/\e.k=k/\v=.slice e.ao (ba e.js) e.cap
 | [],k,v,h=>by simp[ky,aK] at h
 | e::es,k,v,h=>by
  simp only[ky,aao,aK] at h
  split at h
  ·rename_i hk;exact ⟨[],e,es,I,hk.symm,(aa8 h).symm⟩
  obtain ⟨e1,e',e2,h1,h2,h3⟩:=yc (es:=es) h
  grind
def NI{e1 e2:List mg}{e e':mg}(hn:((e1++e::e2).map (·.k)).Nodup)(hk:e'.k=e.k):cG e.k (.slice e'.ao (ba e'.js) e'.cap) (ky (e1++e::e2))=ky (e1++e'::e2):=by
 induction e1 with
 | nil=>simp[ky,cG,hk]
 | cons x e1 ih=>
  grind [ky,cG]
structure H8 (j:Nat) (e:mg) (t:Nat):Prop where
 own:aZ e.g e.ao (ba e.js) e.cap t 1 (rp e.js)
 lt:∀ q∈e.js,q<j
 len:ba e.js<=j
section lk
variable {P:Program} {T:br} {w0:World} {ops:Array Oper} {Q:Exit->Act->World->Prop} {rest rest':List Oper} {n:Nat} {l l':Sl} {K:PH} {hs:List PH} {κ:Type} [DecidableEq κ] {enc:κ->Value} {h:PH} {b:Nat} {m:List (κ×Value)}
def Rx[hT:TabOK P T](k:Nat){d t kt et:Nat}{o:Oper}{z v:Value}(j:κ)(u:Value)(h0:sX T ops n k rest l=some (d,o,t,.map (some b),v,false,rest',l'))(hu:P.underlying t=some (.map kt et))(hz:(P.info? et).bind (·.zero)=some z)(hK:ga P kt enc)(hv:v=enc j)(hin:In K hs h)(hm:dG enc id h b m)
  (hval:(aK j m=none/\u=z)\/aK j m=some u) (hk:WL P w0 ops Q rest' n ((d,u)::l') K hs):WL P w0 ops Q rest n l K hs:=by
 refine jJ k j h0 hu hz hK hv hin hm ?_;rcases hval with ⟨g,rfl⟩|g
 ·rw[g];exact hk
 rw[g];exact hk
end lk
theorem WQ.dropL{w0:World}{Q:Exit->Act->World->Prop}{e:Exit}{n:Nat}{l:Sl}{K:PH}{hs:List PH}:∀ m:List PH,WQ w0 Q e n l K hs->WQ w0 Q e n l K (m++hs)
 | [],h=>h
 | _::m,h=>WQ.drop (WQ.dropL m h)
structure tq where
 j:Nat
 hm:PH
 es:List mg
def Ld{b e:Nat}(xs:List gj)(h:ba xs<=1000000):ej 3 e zH (pt b (gZ xs) e) (some ⟨b,0,none⟩) (ba xs) (ba xs) xs:=
 ⟨xs.map jF,rfl,by simpa[gZ] using aZ.ofPt (b:=b) (c:=gZ xs) (e:=e) (n:=ba xs) (size:=3) (CS xs) (by unfold maxLen;omega),FN xs,uB xs⟩
attribute [local irreducible] Code.wp wpList Calls
def FQ(ss:List bg)(base:Int)(hM0:iL base ss)(aoS:Option Addr)(cS:Nat)(hS:bF 3 (gF K) K aoS (ba ss) cS ss)(hG:d8 K):
  aj w0 110 [.agg #[.int .i64 base,.slice aoS (ba ss) cS]] K hs (fun v K' hs'=>K'=K/\hs'=hs/\v=.bool true):=by
 have hne:=hM0.ne;have hle:=hM0.len;have hb:=hM0.bas;obtain ⟨R,hR⟩:∃ R,ba ss=R+1:=⟨ba ss-1,qo⟩;obtain ⟨top,htop⟩:∃ s,ss[R]?=some s:=⟨_,aae qo⟩;have hfin:top.fin=false:=hM0.root top (by rw[hR];exact htop);obtain ⟨ad,rfl⟩:=hS.addr qo SU;obtain ⟨vs,xv⟩:=hS.isS;refine dj Tryz.func110 ?_;refine ac9 (bx 0 I fun b1=>fin 1 I (th (HP (sq (ac9 (au ?_))))));refine aX 1 I (fun h2=>absurd h2 qo) (fun h2=>au ?_);refine ar 1 I (v':=.int .i64 (R:Nat)) (by grind [ac]) (au ?_);refine aX 0 I (fun h2=>absurd h2 qo) (fun h2=>au ?_);refine aX 0 I (fun h3=>absurd h3 qo) (fun h3=>aX 3 I (fun h4=>absurd h4 qo) (fun h4=>au ?_));refine dz 1 R I I xv qo SU fun a39 ha=>?_;cases ha;obtain ⟨csT,⟨aoA,nA,cA,rfl,xA⟩,hcl,hcell⟩:=hS.cells htop;refine ld 1 I (.inl I) (hcell 0 _ I) ?_;rw[hfin];refine au ?_
 refine Rv 1 (ba ss) #[.int .i64 0,.int .i64 0,.int .i64 0] I I I qk I SU (by show ba ss*24<=2 ^ 47;omega) qo qo SU fun bO=>?_
 rw[show (List.replicate (ba ss) (#[Value.int .i64 0,.int .i64 0,.int .i64 0]:Array Value).toList).flatten.toArray=gZ (fN ss 0) from by
  unfold gZ;rw[PY,List.map_replicate];rfl]
 refine au ?_;refine rk 0 I fun bm=>fin 1 I (th (sq (zO (ac5 (au ?_)))))
 refine loop (σ:=tq) (fun x=>[(1,SX b1),(2,.bool false),(3,.int .i64 (R:Nat)),(4,.slice (some ⟨bO,0,none⟩) (ba ss) (ba ss)),(5,.map (some bm)),(49,.slice (some ad) (ba ss) cS),(50,.int .i64 (ba ss)),(51,.int .i64 x.j)]) (fun _=>K)
  (fun x=>x.hm::pt bO (gZ (fN ss x.j)) 254::pt b1 #[.int .i64 base,.slice (some ad) (ba ss) cS] 99::(x.es.map (·.g)++hs))
  (fun x=>x.j<=ba ss/\dG oM id x.hm bm (ky x.es)/\(x.es.map (·.k)).Nodup/\∀ e∈x.es,H8 x.j e 3) (fun x=>ba ss-x.j) ⟨0,_,[]⟩ ⟨aag _,dG.empty bm 0,ST,ST⟩ ⟨rfl,rfl,rfl,rfl,rfl,rfl,rfl,rfl,trivial⟩ rfl rfl ?_
 rintro ⟨j,hm,es⟩ ⟨hj,hM,hnd,hes⟩;dsimp only at *;refine ac9 (aX 0 I (fun e7=>?_) (fun e7=>?_))
 ·refine au ?_;have hjl:j<ba ss:=qo
  obtain ⟨s,hget⟩:∃ s,ss[j]?=some s:=⟨_,aae hjl⟩;have hfm:p8 j s:=hM0.fm j s hget;have hA1:=hM0.arcsL hget;obtain ⟨cs,⟨ao7,n7,c7,rfl,x7⟩,hcl7,hcell7⟩:=hS.cells hget;obtain rfl:=x7.len;have htl:=MX ss hj;have xO:=Ld (b:=bO) (e:=254) (fN ss j) qo;have xOS:=xO.slS;rw[htl] at xOS;obtain ⟨vO,xvO⟩:=xOS.isS
  have hcg:∀ l:List dv,(∀ a∈l,a∈s.arcs)->l.foldl (jg (fN ss j)) (kW s)=l.foldl (jg (eN ss)) (kW s):=fun l hl=>w9 _ fun a ha=>by
   have:=(hfm.arc a (hl a ha)).to;exact PX ss qo hj
  have hsm:(eN ss)[j]?=some (jG (fN ss j) s):=by
   rw[yw hget (hM0.fm.to hget)]
   simp_all [jG]
  refine au ?_;refine dz 1 j I I xv hjl SU fun a54 ha=>?_;cases ha;refine eD 0 (dc s ao7 (ba s.arcs) c7) I qk (.inl I) hcell7 (al 0 (.agg #[.bool false,.int .i64 0,.slice none 0 0]) I qk fun b7=>?_);refine bJ 1 0 I I qk I I ?_;refine fin 0 I (ac6 (dy 0 0 I I qk (cl 1 I (NU j s ao7 (ba s.arcs) c7 hfm x7 hG qo) ?_)));rintro v58 K58 hs58 ⟨rfl,rfl,rfl⟩;refine fin 1 I (ac5 (fin 1 I (th (dY I (rg (dy 2 0 I I qk (cl 1 I (P0 s ao7 (ba s.arcs) c7 (some ⟨bO,0,none⟩) (ba ss) (ba ss) (fN ss j) x7 (.inr ⟨2,I⟩) xOS (fun a ha=>by have:=(hfm.arc a ha).to;have:=(hfm.arc a ha).out;omega) (hM0.tbd hj) (fun i hi=>by rw[hcg _ fun a ha=>aaR ha];exact hM0.sums hget i hi) qo) ?_)))))));rintro v65 K65 hs65 ⟨rfl,rfl,rfl⟩;refine dz 3 j I I xvO hjl SU fun a68 ha=>?_;cases ha;simp only[bz,aaD]
  refine sts 0 2 I I qk (by rw[CS,htl];show j*3+3<=_;omega) (fun v hv=>by simp[jF] at hv;rcases hv with rfl|rfl|rfl <;> rfl) ?_;rw[Nb (j:=j) qo,MW ss hjl hsm]
  have hq4:∀ q,q<j->∃ sq aq cq,ss[q]?=some sq/\bF 3 jd K65 aq (ba sq.arcs) cq sq.arcs/\ba sq.arcs<=4096/\¬s=sq/\∀ (i:Nat) v,(dc sq aq (ba sq.arcs) cq)[i]?=some v->bR K65 ((ad.add (q*3)).add i) v:=by
   intro q hq;obtain ⟨sq,hsq⟩:∃ sq,ss[q]?=some sq:=⟨_,aae qo⟩;obtain ⟨csq,⟨aq,nq,cq,rfl,xq⟩,hclq,hcellq⟩:=hS.cells hsq;obtain rfl:=xq.len;refine ⟨sq,aq,cq,hsq,xq,hM0.arcsL hsq,fun e=>?_,hcellq⟩;subst e;have:=(List.getElem?_inj qo hM0.nd).1 (hsq.trans hget.symm);omega
  refine fin 1 I (ac5 (fin 2 I (th (dt I (sk (ac6 (dy 0 0 I I qk (cl 0 I (Qw s ao7 (ba s.arcs) c7 x7 qo (fun a ha=>by have h10:=(hfm.arc a ha).lb;have h11:=h10.2.2.1;omega)) ?_))))))));rintro v72 K72 hs72 ⟨rfl,rfl,rfl⟩;refine al 0 (.agg #[.int .i64 0,.int .i64 0,.int .i64 0,.int .i64 0]) I qk fun b9=>?_;refine bJ 0 0 I I qk I I ?_;refine fin 0 I (ac5 (WL.hs (pt b9 #[.int .i64 (dW s).1,.int .i64 (dW s).2.1,.int .i64 (dW s).2.2.1,.int .i64 (dW s).2.2.2] 257::pt b7 (dc s ao7 (ba s.arcs) c7).toArray 206::hm::pt bO (gZ (fN ss (j+1))) 254::pt b1 #[.int .i64 base,.slice (some ad) (ba ss) cS] 99::(es.map (·.g)++hs)) I (dy 1 0 I I qk ?_)))
  obtain ⟨ao9,c9,js9,hq9,hin9,xs9,hlt9,hlen9,hval⟩:∃ ao9 c9 js9 hq9,In K72 (pt b9 #[.int .i64 (dW s).1,.int .i64 (dW s).2.1,.int .i64 (dW s).2.2.1,.int .i64 (dW s).2.2.2] 257::pt b7 (dc s ao7 (ba s.arcs) c7).toArray 206::hm::pt bO (gZ (fN ss (j+1))) 254::pt b1 #[.int .i64 base,.slice (some ad) (ba ss) cS] 99::(es.map (·.g)++hs)) hq9 /\
    aH hq9 ao9 (ba js9) c9 1 (rp js9)/\(∀ q∈js9,q<j)/\ba js9<=j/\((aK (dW s) (ky es)=none/\Value.slice ao9 (ba js9) c9=.slice none 0 0)\/aK (dW s) (ky es)=some (.slice ao9 (ba js9) c9)):=by
   cases hg:aK (dW s) (ky es) with
   | none=>exact ⟨none,0,[],K72,.inl rfl,aH.nil _ _ _ _,ST,aag _,.inl ⟨rfl,rfl⟩⟩
   | some v=>
    obtain ⟨e1,e,e2,g1,g2,rfl⟩:=yc hg;have he:=hes e (by rw[g1];simp);exact ⟨e.ao,e.cap,e.js,e.g,.inr (aa1.1 (by rw[g1];simp)),he.own.isS,he.lt,he.len,.inr rfl⟩
  refine Rx 0 (z:=.slice none 0 0) (dW s) (.slice ao9 (ba js9) c9) I Tryz.underlying251 qk yG I (.inr ⟨2,I⟩) hM hval<|au ?_
  refine loop (σ:=Nat) (fun p=>[(1,SX b1),(2,.bool false),(3,.int .i64 (R:Nat)),(4,.slice (some ⟨bO,0,none⟩) (ba ss) (ba ss)),(5,.map (some bm)),(6,.int .i64 (j:Nat)),(7,SX b7),(9,SX b9),(49,.slice (some ad) (ba ss) cS),(50,.int .i64 (ba ss)),(51,.int .i64 (j:Nat)),(75,.slice ao9 (ba js9) c9),(76,.int .i64 (ba js9)),(77,.int .i64 (p:Nat))]) (fun _=>K72)
   (fun _=>pt b9 #[.int .i64 (dW s).1,.int .i64 (dW s).2.1,.int .i64 (dW s).2.2.1,.int .i64 (dW s).2.2.2] 257::pt b7 (dc s ao7 (ba s.arcs) c7).toArray 206::hm::pt bO (gZ (fN ss (j+1))) 254::pt b1 #[.int .i64 base,.slice (some ad) (ba ss) cS] 99::(es.map (·.g)++hs)) (fun p=>p<=ba js9) (fun p=>ba js9-p) 0 (aag _) ⟨rfl,rfl,rfl,rfl,rfl,rfl,rfl,rfl,rfl,rfl,rfl,rfl,rfl,rfl,trivial⟩ rfl rfl ?_
  intro p hp;refine ac9 (af 0 I fun b78 h78=>au ?_);refine ah h78 I (fun e22=>?_) (fun e22=>?_)
  ·have hpl:p<ba js9:=qo
   obtain ⟨q,hqe⟩:∃ q,js9[p]?=some q:=⟨_,aae hpl⟩;have hqj:=hlt9 q (aap hqe);obtain ⟨sq',aq,cq,hsq,xq,hql,hne',hcq⟩:=hq4 q hqj;refine au ?_;refine fe 0 p I I I xs9 (show (rp js9)[p]?=some (.int .i64 (q:Nat)) by unfold rp;rw[aa4,hqe];rfl) fun a79 hc79=>?_;refine ld 0 I hin9 hc79 (au ?_);refine bI [pt b7 (dc s ao7 (ba s.arcs) c7).toArray 206,pt b1 #[.int .i64 base,.slice (some ad) (ba ss) cS] 99] 7 [0,2,4,6,8,10,13] ST qk qk (ja qk 0 0 I qk I qk (dF qk 1 1 I I I (bh qk 1 q I I qo (ip qk 0 (dc sq' aq (ba sq'.arcs) cq) I qk qk (.inl I) hcq (au ?_)))));refine cl 0 I (PQ s sq' ao7 (ba s.arcs) c7 aq (ba sq'.arcs) cq x7 xq qo qo) ?_;rintro v87 K87 hs87 ⟨rfl,rfl,b87,rfl,h87⟩;obtain rfl:b87=false:=by simp_all
   exact bp ST I<|be qk 0 I (th<|dt I (sk<|ac7 (ar 0 I (ac (x:=((p+1:Nat):Int)) qo)<|fin 1 I (bc (x:=p) (p+1) sb I I hpl qo))))
  refine ex (xt (xt (xb (ac8 (dy 1 0 I I qk (lit 1 #[.int .i64 (j:Nat)] I SU qk fun b93=>?_))))));have hup:∀ e∈es,H8 (j+1) e 3:=fun e he=>⟨(hes e he).own,fun q hq=>by have:=(hes e he).lt q hq;omega,by have:=(hes e he).len;omega⟩;cases hg:aK (dW s) (ky es) with
  | none=>
   refine Sc 0 3 (z:=.slice none 0 0) (dW s) I I Tryz.underlying251 qk yG I hM hg fun hm2 cc hE=>WL.em (app 1 0 I I (aZ.nil _ _) (.inr ⟨1,I⟩) (aZ.ofPt (b:=b93) (c:=#[.int .i64 (j:Nat)]) (e:=3) (n:=1) (size:=1) I (by simp[maxLen])).isS I SU (fun u hu=>by simp at hu;subst hu;rfl) SU (by simp[maxLen]) fun ao95 c95 g95 o95=>SA 1 4 rfl rfl rfl hE fun hm3 hM3=>fin 0 rfl (ac7 (WL.perm (hs':=pt b93 #[.int .i64 (j:Nat)] 3::pt b9 #[.int .i64 (dW s).1,.int .i64 (dW s).2.1,.int .i64 (dW s).2.2.1,.int .i64 (dW s).2.2.2] 257::pt b7 (dc s ao7 (ba s.arcs) c7).toArray 206::hm3::pt bO (gZ (fN ss (j+1))) 254::pt b1 #[.int .i64 base,.slice (some ad) (ba ss) cS] 99::((es++[(⟨dW s,ao95,c95,[j],g95⟩:mg)]).map (·.g)++hs)) ?_ (WL.drop (WL.drop (WL.drop ?_))))))
   ·have h1:=(aaI (a:=g95) (l₁:=[pt b93 #[.int .i64 (j:Nat)] 3,pt b9 #[.int .i64 (dW s).1,.int .i64 (dW s).2.1,.int .i64 (dW s).2.2.1,.int .i64 (dW s).2.2.2] 257,pt b7 (dc s ao7 (ba s.arcs) c7).toArray 206,hm3,pt bO (gZ (fN ss (j+1))) 254,pt b1 #[.int .i64 base,.slice (some ad) (ba ss) cS] 99]++es.map (·.g)) (l₂:=hs)).symm;simpa[aax] using h1
   refine ar 0 I (ac (x:=((j+1:Nat):Int)) qo) (fin 1 I (bc (x:=(⟨j,hm,es⟩:tq)) (⟨j+1,hm3,es++[(⟨dW s,ao95,c95,[j],g95⟩:mg)]⟩:tq) sb I I ⟨ax,?_,?_,?_⟩ ax))
   ·simp_all [ky]
   ·simp_all [iC,LX,abR]
   dsimp only;intro e he;rcases aal.1 he with he|he
   ·exact hup e he
   rw[aaK.1 he];exact ⟨by simpa[rp] using o95,fun q hq=>by simp at hq;omega,ST⟩
  | some v=>
   obtain ⟨e1,e,e2,rfl,hke,rfl⟩:=yc hg;have he:=hes e ST;have hel:=he.len;refine WL.perm (hs':=e.g::pt b93 #[.int .i64 (j:Nat)] 3::pt b9 #[.int .i64 (dW s).1,.int .i64 (dW s).2.1,.int .i64 (dW s).2.2.1,.int .i64 (dW s).2.2.2] 257::pt b7 (dc s ao7 (ba s.arcs) c7).toArray 206::hm::pt bO (gZ (fN ss (j+1))) 254::pt b1 #[.int .i64 base,.slice (some ad) (ba ss) cS] 99::(e1.map (·.g)++(e2.map (·.g)++hs))) ?_ ?_
   ·have h1:=aaI (a:=e.g) (l₁:=[pt b93 #[.int .i64 (j:Nat)] 3,pt b9 #[.int .i64 (dW s).1,.int .i64 (dW s).2.1,.int .i64 (dW s).2.2.1,.int .i64 (dW s).2.2.2] 257,pt b7 (dc s ao7 (ba s.arcs) c7).toArray 206,hm,pt bO (gZ (fN ss (j+1))) 254,pt b1 #[.int .i64 base,.slice (some ad) (ba ss) cS] 99]++e1.map (·.g)) (l₂:=e2.map (·.g)++hs);simpa[aax] using h1
   refine zN 0 4 (dW s) I I Tryz.underlying251 yG I hM hg fun hm2 cc hE=>app 1 0 I I he.own (.inr ⟨1,I⟩) (aZ.ofPt (b:=b93) (c:=#[.int .i64 (j:Nat)]) (e:=3) (n:=1) (size:=1) I (by simp[maxLen])).isS I SU (fun u hu=>by simp at hu;subst hu;rfl) (by show (ba e.js+1)*8<=_;omega) (by simp only[maxLen];omega) fun ao95 c95 g95 o95=>Sw 1 4 rfl rfl rfl hE fun hm3 hM3=>fin 0 rfl (ac7 (WL.perm (hs':=pt b93 #[.int .i64 (j:Nat)] 3::pt b9 #[.int .i64 (dW s).1,.int .i64 (dW s).2.1,.int .i64 (dW s).2.2.1,.int .i64 (dW s).2.2.2] 257::pt b7 (dc s ao7 (ba s.arcs) c7).toArray 206::hm3::pt bO (gZ (fN ss (j+1))) 254::pt b1 #[.int .i64 base,.slice (some ad) (ba ss) cS] 99::((e1++(⟨e.k,ao95,c95,e.js++[j],g95⟩:mg)::e2).map (·.g)++hs)) ?_ (WL.drop (WL.drop (WL.drop ?_)))))
   ·have h1:=(aaI (a:=g95) (l₁:=[pt b93 #[.int .i64 (j:Nat)] 3,pt b9 #[.int .i64 (dW s).1,.int .i64 (dW s).2.1,.int .i64 (dW s).2.2.1,.int .i64 (dW s).2.2.2] 257,pt b7 (dc s ao7 (ba s.arcs) c7).toArray 206,hm3,pt bO (gZ (fN ss (j+1))) 254,pt b1 #[.int .i64 base,.slice (some ad) (ba ss) cS] 99]++e1.map (·.g)) (l₂:=e2.map (·.g)++hs)).symm;simpa[aax] using h1
   refine ar 0 I (ac (x:=((j+1:Nat):Int)) qo) (fin 1 I (bc (x:=(⟨j,hm,e1++e::e2⟩:tq)) (⟨j+1,hm3,e1++(⟨e.k,ao95,c95,e.js++[j],g95⟩:mg)::e2⟩:tq) sb I I ⟨ax,?_,?_,?_⟩ ax))
   ·dsimp only;rw[<-NI (e:=e) (e':=(⟨e.k,ao95,c95,e.js++[j],g95⟩:mg)) hnd rfl]
    simp_all
   ·dsimp only;simpa using hnd
   dsimp only;intro x hx;rcases aal.1 hx with hx|hx
   ·exact hup x (by simp[hx])
   rcases aau.1 hx with rfl|hx
   ·refine ⟨?_,fun q hq=>?_,by simp_all⟩
    ·simp_all [rp]
    rcases aal.1 hq with hq|hq
    ·have:=he.lt q hq;omega
    simp at hq;omega
   exact hup x (by simp[hx])
 refine au ?_;obtain rfl:j=ba ss:=qo
 have hT0:=hM0.topT;rw[show ba ss-1=R by omega] at hT0;obtain ⟨t,ht⟩:=bC ((eN ss).getD R jC);rw[<-ht] at hT0
 have h20:(eN ss)[R]?=some t:=by
  simp_all [n6]
 have hcell2:(gZ (eN ss))[R*3+2]?=some (.int .i64 t.t):=by
  have:=qq (uB (eN ss)) (i:=R) (c:=jF t) (by rw[aa4,h20];rfl) 2 (.int .i64 t.t) rfl;simpa[gZ] using this
 rw[MY];refine au ?_;refine bI [pt bO (gZ (eN ss)) 254,pt b1 #[.int .i64 base,.slice (some ad) (ba ss) cS] 99] 18 [0,2,4,6,8,10,12,14,16,18,20,22,24,26,28,31,32,34] ST qk qk (H3 qk 1 I (fun h13=>au ?_) (fun h13=>absurd h13 ST));refine bh qk 2 R I I qo ?_;simp only[bz,aaD];refine dF qk 1 0 I I (v:=.int .i64 t.t) hcell2 (bQ qk 0 I (ac (x:=base+t.t) qo) (gD qk 0 (base+t.t<=1048576) I ST (fun h14=>ja qk 2 1 I qk I qk (aG qk 0 I (cl 0 I (J9 ss hM0.fm hM0.vis hne base (some ad) cS hS qo (fun s hs=>by obtain ⟨i,hi⟩:=aa1.1 hs;have:=hM0.arcsL hi;omega)) ?_))) (fun h14=>absurd hT0.2 h14)));rintro v113 K113 hs113 ⟨rfl,rfl,rfl⟩;exact bp ST I (be qk 2 I (adb (HS (WQ.drop (WQ.drop (WQ.drop (WQ.dropL _ (ay I I ⟨I,I,I⟩))))))))
end
section
theorem DX:∀ {css:List (List Value)} {l:List dv},eO jd css l->∀ u∈css.flatten,u.oneCell'=true
 | [],[],_,u,hu=>by simp at hu
 | c::css,x::l,h,u,hu=>by
  rw[abD,aal] at hu;rcases hu with hu|hu
  ·have e:c=fy x:=h.1;subst e;simp[fy] at hu;rcases hu with rfl|rfl|rfl <;> rfl
  exact DX h.2 u hu
 | _::_,[],h,_,_=>h.elim
 | [],_::_,h,_,_=>h.elim
structure y9 (K:PH) (b:Nat) (base:Int) (sts:List bg):Prop where
 bas:bR K ⟨b,0,none⟩ (.int .i64 base)
 sta:∃ a c,bR K ⟨b,1,none⟩ (.slice (some a) (ba sts) c)/\bF 3 (gF K) K (some a) (ba sts) c sts
attribute [local irreducible] Code.wp wpList Calls
def N7(ao:Option Addr)(n c:Nat)(l:List dv)(x:bF 3 jd K ao n c l)(hl:n<=1000000):aj w0 134 [.slice ao n c] K hs
  (fun v K' hs'=>Le K K'/\hs'=hs/\∃ ao' c',v=.slice ao' n c'/\bF 3 jd K' ao' n c' l):=by
 cases ao with
 | none=>
  obtain rfl:n=0:=by
   rcases abq n with h|h
   ·exact h
   obtain ⟨a,ha⟩:=x.addr h SU;cases ha
  have hl0:l=[]:=aaX x.len.symm;subst hl0;refine bH Tryz.func134 ?_;refine eE 1 True I ST fun b4 h4=>fin 0 I (th (ah h4 I (fun e2=>au ?_) (fun e2=>absurd trivial e2)));exact ay I I ⟨Le.refl _,I,none,_,I,bF.nil _ _ _ _⟩
 | some a=>
  obtain rfl:=x.len;refine bH Tryz.func134 ?_;refine eE 1 False I ST fun b4 h4=>fin 0 I (th (ah h4 I (fun e2=>e2.elim) (fun e2=>sk (ac6 (lit 0 #[] I SU qk fun b5=>?_)))));obtain ⟨css,q1,q2,q3,q4⟩:=x;refine app 1 0 I I (aZ.ofPt (b:=b5) (c:=#[]) (e:=208) (n:=0) (size:=3) I (by simp[maxLen])) (.inl I) q2 I SU (DX q3) (by show (0+ba l)*24<=_;omega) (by simp only[maxLen];omega) fun ao7 c7 g7 o7=>fin 1 rfl (adb (WQ.frz fun K2 le1 le2=>ay rfl rfl ⟨le1,rfl,ao7,c7,ST,⟨css,rfl,?_,q3,q4⟩⟩));have:=o7.isS.le le2;simpa using this
section joinx
variable {P:Program} {w0:World} {Q:Exit->Act->World->Prop} {n:Nat} {l:Sl} {K:PH} {hs:List PH} {r:Option Nat} {ds:List Deferred}
def JX(ds:List Deferred)(w0:World){σ:Type}(F:σ->Sl)(HK:σ->PH)(H:σ->List PH)(J:σ->Prop)(n:Nat)(Q:Exit->Act->World->Prop):Exit->Act->World->Prop
 | .normal,a',w=>∃ s a,J s/\a'=wd ds a/\Ag n (F s) a/\aY w0 w (HK s) (H s)
 | e,a,w=>Q e a w
def Sh{σ:Type}{x y:Code}(F:σ->Sl)(HK:σ->PH)(H:σ->List PH)(J:σ->Prop)(h1:WX P w0 r ds x (JX ds w0 F HK H J n Q) n l K hs)(h2:∀ s,J s->WX P w0 r ds y Q n (F s) (HK s) (H s)):WX P w0 r ds (.seq x y) Q n l K hs:=
 de fun a w ha hw=>wpIn_mono (h1 a w ha hw) (fun e a w h=>by
  cases e with
  | normal=>obtain ⟨s,a1,hJ,rfl,ha,hw⟩:=h;exact h2 s hJ a1 w ha hw
  | _=>exact h)
def H0{σ:Type}{F:σ->Sl}{HK:σ->PH}{H:σ->List PH}{J:σ->Prop}(s:σ)(hJ:J s)(hF:lh l (F s))(hK:K=HK s)(hH:hs=H s):cH ds w0 (JX ds w0 F HK H J n Q) .normal n l K hs:=
 fun a w ha hw=>⟨s,a,hJ,rfl,ha.sub hF,by rw[<-hK,<-hH];exact hw⟩
end joinx
end
section
def cP(sts:List bg)(i:Nat):Nat:=ba ((wt sts).getD i [])
def cV(sts:List bg)(n:Nat):List Value:=(List.range n).map fun i:Nat=>Value.int .i64 (cP sts i:Nat)
def lB(sts:List bg)(s:bg)(j:Nat):Nat:=ba (fM s++wa (wt sts) (s.arcs.take j))
def LJ{sts:List bg}{s:bg}{j:Nat}{a:dv}(h:s.arcs[j]?=some a):lB sts s (j+1)=lB sts s j+cP sts a.to.toNat:=by
 have ht:s.arcs.take (j+1)=s.arcs.take j++[a]:=by rw[aaA,h];rfl
 grind [lB,cP,wa]
def Nv{sts:List bg}(hf:jL sts){i:Nat}{s:bg}(hs:sts[i]?=some s):lB sts s (ba s.arcs)=cP sts i:=by
 have e1:(wt sts).getD i []=fM s++wa (wt sts) s.arcs:=by rw[aaB,mQ hs (hf.to hs)];rfl
 unfold lB cP;rw[e1,aav]
def LK(sts:List bg)(s:bg)(j:Nat):lB sts s j<=lB sts s (ba s.arcs):=by
 unfold lB;rw[aav,aaf,aaf]
 have e2:wa (wt sts) s.arcs=wa (wt sts) (s.arcs.take j)++wa (wt sts) (s.arcs.drop j):=by
  unfold wa;rw[<-acL,aaC]
 rw[e2,aaf];omega
def iL.cnt{base:Int}{sts:List bg}(h:iL base sts){i:Nat}(hi:i<ba sts):cP sts i<=4096:=(h.wd i hi).1
structure zX where
 j:Nat
 K:PH
 gS:PH
 gN:PH
 aoW:Option Addr
 cW:Nat
 aoN:Option Addr
 cN:Nat
attribute [local irreducible] Code.wp wpList Calls
def Qp(ss:List bg)(base:Int)(hM0:iL base ss)(aoS:Option Addr)(cS:Nat)(hS:bF 3 (gF K) K aoS (ba ss) cS ss)(hG:d8 K):
  aj w0 89 [.agg #[.int .i64 base,.slice aoS (ba ss) cS]] K hs (fun v K' hs'=>Le K K'/\hs'=hs/\∃ b,v=.tuple #[SX b,.bool true]/\y9 K' b base ss):=by
 have hne:=hM0.ne;have hle:=hM0.len;have hS':=hS;obtain ⟨ad,rfl⟩:=hS.addr qo SU;obtain ⟨vs,xv⟩:=hS.isS;refine dj Tryz.func89 ?_;refine ac9 (bx 0 I fun b1=>fin 2 I (ac5 (dy 0 0 I I qk (cl 0 I (FQ ss base hM0 (some ad) cS hS hG) ?_))));rintro v11 K11 hs11 ⟨rfl,rfl,rfl⟩;refine au ?_;refine bd 0 (.agg #[.int .i64 base,.slice none 0 0,.slice none 0 0]) I (fun w=>by kernel_rfl) (bx 0 I fun b16=>fin 1 I (ac5 (bE 1 1 I I I (fin 2 I (th (bk (WC.em (WC.em ?_))))))))
 refine loop (σ:=zX) (fun x=>[(2,.pointer none),(3,.bool false),(4,SX b16),(18,.slice (some ad) (ba ss) cS),(19,.int .i64 (ba ss)),(20,.int .i64 x.j)]) (fun x=>x.K)
  (fun x=>x.gS::x.gN::pt b16 #[.int .i64 base,.slice x.aoW x.j x.cW,.slice x.aoN x.j x.cN] 240::pt b1 #[.int .i64 base,.slice (some ad) (ba ss) cS] 99::hs)
  (fun x=>x.j<=ba ss/\Le K11 x.K/\ej 3 206 (gF x.K) x.gS x.aoW x.j x.cW (ss.take x.j)/\aZ x.gN x.aoN x.j x.cN 3 1 (cV ss x.j)) (fun x=>ba ss-x.j) ⟨0,K11,em,em,none,0,none,0⟩
  ⟨aag _,Le.refl _,ej.nil _ _,aZ.nil _ _⟩ ⟨rfl,rfl,rfl,rfl,rfl,rfl,trivial⟩ rfl rfl ?_
 rintro ⟨j,K,gS,gN,aoW,cW,aoN,cN⟩ ⟨hj,le0,oS,oN⟩;dsimp only at *;refine ac9 (af 0 I fun b21 h21=>au ?_);refine ah h21 I (fun e3=>?_) (fun e3=>?_)
 ·have hjl:j<ba ss:=qo
  obtain ⟨s,hget⟩:∃ s,ss[j]?=some s:=⟨_,aae hjl⟩;have hfm:=hM0.fm j s hget;have hA1:=hM0.arcsL hget;have hpe:=Nv hM0.fm hget;have hcj:=hM0.cnt hjl;obtain ⟨vs2,xv2⟩:=(hS.le le0 (fun _ _ h=>h)).isS;obtain ⟨cs,⟨ao7,n7,c7,rfl,x7⟩,hcl7,hcell7⟩:=(FM le0 hS).cells hget;obtain rfl:=x7.len;refine au ?_;refine dz 0 j I I xv2 hjl SU fun a22 ha=>?_;cases ha;refine eD 0 (dc s ao7 (ba s.arcs) c7) I qk (.inl I) hcell7 (al 0 (.agg #[.bool false,.int .i64 0,.slice none 0 0]) I qk fun b6=>?_);refine bJ 0 0 I I qk I I ?_;refine fin 0 I (ac6 (bE 1 0 I I I (cl 0 I (N7 ao7 (ba s.arcs) c7 s.arcs x7 qo) ?_)));rintro v26 K26 hs26 ⟨le26,rfl,ao2,c2,rfl,x2⟩;refine stp 1 0 I I I I (fin 0 I (ac6 (fin 1 I (th (jn (σ:=Int) (fun m=>[(2,.pointer none),(3,.bool false),(4,SX b16),(6,SX b6),(7,.int .i64 m),(18,.slice (some ad) (ba ss) cS),(19,.int .i64 (ba ss)),(20,.int .i64 (j:Nat))]) (fun m=>pt b6 (dc s ao2 (ba s.arcs) c2).toArray 206::gS::gN::pt b16 #[.int .i64 base,.slice aoW j cW,.slice aoN j cN] 240::pt b1 #[.int .i64 base,.slice (some ad) (ba ss) cS] 99::hs) (fun m=>m=((lB ss s 0:Nat):Int)) ?_ ?_)))))
  ·refine ac9 (bE 1 0 I I I (nP fun b29 h29=>fin 0 I<|th (ah h29 I (fun e4=>?_) (fun e4=>?_))))
   ·exact rg<|fin 1 I (jx 1 (by simp[lB,fM,e4,wa]) sb I I)
   exact sk<|jx 0 (by simp[lB,fM,e4,wa]) sb I I
  rintro m0 hm0;refine au ?_
  refine loop (σ:=Nat) (fun i=>[(2,.pointer none),(3,.bool false),(4,SX b16),(6,SX b6),(7,.int .i64 (lB ss s i:Nat)),(18,.slice (some ad) (ba ss) cS),(19,.int .i64 (ba ss)),(20,.int .i64 (j:Nat)),(31,.slice ao2 (ba s.arcs) c2),(32,.int .i64 (ba s.arcs)),(33,.int .i64 (i:Nat))]) (fun _=>K26)
   (fun i=>pt b6 (dc s ao2 (ba s.arcs) c2).toArray 206::gS::gN::pt b16 #[.int .i64 base,.slice aoW j cW,.slice aoN j cN] 240::pt b1 #[.int .i64 base,.slice (some ad) (ba ss) cS] 99::hs) (fun i=>i<=ba s.arcs) (fun i=>ba s.arcs-i) 0 (aag _) ⟨rfl,rfl,rfl,rfl,by rw[hm0];rfl,rfl,rfl,rfl,rfl,rfl,rfl,trivial⟩ rfl rfl ?_
  intro i hi;refine ac9 (aX 0 I (fun e6=>?_) (fun e6=>?_))
  ·refine au ?_;have hil:i<ba s.arcs:=qo
   obtain ⟨a,ha0⟩:∃ a,s.arcs[i]?=some a:=⟨_,aae hil⟩;have hto:=(hfm.arc a (aap ha0)).to;have htn:((a.to.toNat:Nat):Int)=a.to:=qo
   have hpn:=LJ (sts:=ss) ha0;have hp2:=LK ss s (i+1);obtain ⟨adA,rfl⟩:=x2.addr qo SU;obtain ⟨csA,hcs,hclA,hcellA⟩:=x2.cells ha0;obtain rfl:=hcs;obtain ⟨vsA,xvA⟩:=x2.isS
   have hcv:(cV ss j)[a.to.toNat]?=some (.int .i64 (cP ss a.to.toNat:Nat)):=by
    simp_all [cV]
   obtain ⟨aN,rfl⟩:=oN.isS.addr (j:=a.to.toNat) qo SU
   have hcN:bR gN (aN.add (a.to.toNat*1)) (.int .i64 (cP ss a.to.toNat:Nat)):=by
    obtain ⟨a',e,hc⟩:=oN.isS.2.2 a.to.toNat _ hcv;cases e;simpa using hc
   refine au ?_;refine dz 0 i I I xvA hil SU fun a35 ha=>?_;cases ha;refine eD 0 (fy a) I qk (.inl I) hcellA (al 0 (.agg #[.int .i32 0,.int .i64 0,.int .i64 0]) I qk fun b9=>?_);refine bJ 0 0 I I qk I I ?_;refine fin 0 I (th (bI [pt b9 (fy a).toArray 208,pt b16 #[.int .i64 base,.slice aoW j cW,.slice (some aN) j cN] 240,gN] 11 [0,2,4,6,8,10,12,14,16,18,20] ST qk qk (au ?_)));refine bh qk 0 a.to.toNat I htn.symm qo (lc qk 0 I (.inr ⟨2,I⟩) hcN (bQ qk 0 I (v':=.int .i64 ((lB ss s (i+1):Nat):Int)) (by grind [ac]) (au ?_)));exact ar 0 I (ac (x:=((i+1:Nat):Int)) qo) (fin 1 I (WQ.drop (bc (x:=i) (i+1) sb I I hil qo)))
  refine au ?_;obtain rfl:i=ba s.arcs:=qo
  rw[hpe];refine au ?_;refine bI [pt b16 #[.int .i64 base,.slice aoW j cW,.slice aoN j cN] 240,pt b6 (dc s ao2 (ba s.arcs) c2).toArray 206] 10 [0,2,4,6,8,10,13,15,16,18,21] ST qk qk (dC qk 4 0 I qk I I (ja qk 0 1 I qk I qk (aG qk 0 I (lit 0 (dc s ao2 (ba s.arcs) c2).toArray I SU qk fun b54=>bp ST I (aG qk 0 I (nM 0 2 (dc s ao2 (ba s.arcs) c2) s I I I (oS.imp fun _ _ h=>h.le le26) ⟨ao2,_,c2,I,x2⟩ I (by simp[dc,Value.oneCell']) I SU (by show _*40<=_;omega) (by simp only[maxLen];omega) fun ao55 c55 g55 o55=>bp ST rfl (aG qk 2 rfl (stp 0 4 rfl rfl rfl rfl (di (.inl qk) (be qk 0 rfl (ac8 (bE 4 4 rfl rfl rfl (lit 1 #[.int .i64 (cP ss j:Nat)] rfl SU qk fun b64=>app 0 4 rfl rfl oN (.inr ⟨0,rfl⟩) (aZ.ofPt (b:=b64) (c:=#[.int .i64 (cP ss j:Nat)]) (e:=3) (n:=1) (size:=1) rfl (by simp[maxLen])).isS rfl SU (fun u hu=>by simp at hu;subst hu;rfl) (by show (j+1)*8<=_;omega) (by simp only[maxLen];omega) fun ao65 c65 g65 o65=>stp 2 5 rfl rfl rfl rfl (fin 0 rfl (ac7 (WL.drop (WL.drop (WL.drop (ar 0 rfl (ac (x:=((j+1:Nat):Int)) qo) (fin 1 rfl ?_))))))))))))))))))))
  refine bc (x:=(⟨j,K,gS,gN,aoW,cW,aoN,cN⟩:zX)) (⟨j+1,K26,g55,g65,ao55,c55,ao65,c65⟩:zX) sb I I ⟨ax,le0.trans le26,?_,?_⟩ ax
  all_goals simp_all [aaA,List.range_succ,cV]
 obtain rfl:j=ba ss:=qo
 refine ex (xt (xt (xb (th (WC.perm (ig _ 2 _ I) (WC.frz fun K2 le2 l2=>WC.frz fun K3 le3 l3=>ac9 (fin 3 I (adb (WQ.drop (WQ.drop ?_))))))))));have xS:=oS.slS;rw[aav] at xS;obtain ⟨aW,rfl⟩:=xS.addr qo SU;have xS3:bF 3 (gF K3) K3 (some aW) (ba ss) cW ss:=xS.le l3 (fun _ _ h=>(h.le le2).le le3);exact bL I I I ⟨le0.trans (le2.trans le3),I,b16,I,((bR.pt I).le l2).le le3,aW,cW,((bR.pt I).le l2).le le3,xS3⟩
end
section
open Go.Proofs.YtgaefgbgfmpobaaGreatDoor
def nL(l:List dv)(r:Nat):Option dv:=l.find? fun a=>decide (a.lb=(r:Int))
def lV(ss:List bg):List Nat->Nat->Option Int
 | [],i=>match ss[i]? with
  | some s=>if s.fin=true then some s.out else none
  | none=>none
 | r::rs,i=>match ss[i]? with
  | some s=>match nL s.arcs r with
   | some a=>(lV ss rs a.to.toNat).map (a.out + ·)
   | none=>none
  | none=>none
def iU(W:List Wd)(rs:List Nat):Option Int:=(W.find? fun y=>decide (y.1=rs)).map (·.2)
theorem Cl(a:dv)(r:Nat)(rs:List Nat)(h0:0<=a.lb):∀ W:List Wd,iU (W.map (jX a)) (r::rs)=if a.lb=(r:Int) then (iU W rs).map (a.out + ·) else none
 | []=>by simp[iU]
 | y::W=>by
  have ih:=Cl a r rs h0 W
  grind [iU,jX]
def AG(V W:List Wd)(rs:List Nat):iU (V++W) rs=match iU V rs with|some x=>some x|none=>iU W rs:=by
 grind [iU]
theorem DO(tb:List (List Wd))(r:Nat)(rs:List Nat):∀ l:List dv,(∀ a∈l,0<=a.lb)->(l.Pairwise fun a b=>a.lb<b.lb)->iU (wa tb l) (r::rs)=match nL l r with|some a=>(iU (tb.getD a.to.toNat []) rs).map (a.out + ·)|none=>none
 | [],_,_=>rfl
 | a::l,h0,hp=>by
  have hp:=aaE.1 hp;have ih:=DO tb r rs l (fun b hb=>h0 b (by simp[hb])) hp.2;have e:wa tb (a::l)=(tb.getD a.to.toNat []).map (jX a)++wa tb l:=by simp[wa]
  rw[e,AG,Cl a r rs (h0 a ST),ih]
  grind [nL,iU]
theorem Kt(tb:List (List Wd))(l:List dv):iU (wa tb l) []=none:=by
 unfold iU
 rw[show (wa tb l).find? (fun y=>decide (y.1=[]))=none from by
  rw[List.find?_eq_none];intro y hy;obtain ⟨a,_,hy⟩:=acq.1 hy;obtain ⟨z,_,rfl⟩:=aak.1 hy;simp[jX]]
 rfl
theorem Bt{ss:List bg}(hf:jL ss):∀ (rs:List Nat) (i:Nat),i<ba ss->lV ss rs i=iU ((wt ss).getD i []) rs
 | [],i,hi=>by
  obtain ⟨s,hs⟩:∃ s,ss[i]?=some s:=⟨_,aae hi⟩;have e1:(wt ss).getD i []=fM s++wa (wt ss) s.arcs:=by rw[aaB,mQ hs (hf.to hs)];rfl
  grind [Kt,lV,fM,iU]
 | r::rs,i,hi=>by
  obtain ⟨s,hs⟩:∃ s,ss[i]?=some s:=⟨_,aae hi⟩;have fm:=hf i s hs;have e1:(wt ss).getD i []=fM s++wa (wt ss) s.arcs:=by rw[aaB,mQ hs (hf.to hs)];rfl
  have e2:iU (fM s) (r::rs)=none:=by unfold fM iU;split <;> simp
  rw[e1,AG,e2,DO (wt ss) r rs s.arcs (fun a ha=>by have:=(fm.arc a ha).lb;omega) fm.ord];unfold lV;rw[hs];dsimp only;cases ha:nL s.arcs r with
  | none=>rfl
  | some a=>
   have ham:=acs ha;have:=(fm.arc a ham).to;dsimp only;rw[Bt hf rs a.to.toNat qo]
def lX(l:List dv)(r:Nat)(sum:Int):Int×Int:=match nL l r with
 | some a=>(a.to,sum+a.out)
 | none=>(-1,sum)
def KH{l:List dv}(hp:l.Pairwise fun a b=>a.lb<b.lb)(r:Nat)(sum:Int){j:Nat}{a:dv}(ha:l[j]?=some a):
  (a.lb=(r:Int)->nL (l.take j) r=none/\lX (l.take (j+1)) r sum=(a.to,sum+a.out))/\(¬a.lb=(r:Int)->lX (l.take (j+1)) r sum=lX (l.take j) r sum):=by
 have hj:=(aas.1 ha).1;have ht:l.take (j+1)=l.take j++[a]:=by rw[aaA,ha];rfl
 have hlt:∀ b∈l.take j,b.lb<a.lb:=by
  intro b hb;have h2:(l.take (j+1)).Pairwise fun a b=>a.lb<b.lb:=hp.sublist (List.take_sublist _ _)
  simp_all [aby]
 grind [nL,lX]
structure lU (K:PH) (b:Nat) (base:Int) (ss:List bg):Prop where
 bas:bR K ⟨b,0,none⟩ (.int .i64 base)
 sta:∃ ao c,bR K ⟨b,1,none⟩ (.slice ao (ba ss) c)/\bF 3 (gF K) K ao (ba ss) c ss
def y9.q{b:Nat}{base:Int}{ss:List bg}(h:y9 K b base ss):lU K b base ss:=let ⟨a,c,h1,h2⟩:=h.sta;⟨h.bas,some a,c,h1,h2⟩
def nJ(ss:List bg)(base:Int)(s:List UInt8):Option Int:=match eo s with
 | some rs=>if ss=[] then none else (iU ((wt ss).getD (ba ss-1) []) rs).map (base + ·)
 | none=>none
structure tw where
 k:Nat
 at_:Int
 sum:Int
attribute [local irreducible] Code.wp wpList Calls
def P7(b:Nat)(base:Int)(ss:List bg)(x:lU K b base ss)(hn:ba ss<=1000000):aj w0 138 [SX b] K hs
  (fun v K' hs'=>K'=K/\hs'=hs/\v=.int .i64 ((ba ss:Int)-1)):=by
 obtain ⟨a,c,h1,h2⟩:=x.sta;refine bH Tryz.func138 ?_;refine ld 3 I (.inl I) h1 (ar 1 I (ac qo) (au ?_));exact ay I I ⟨I,I,I⟩
def Ph(b:Nat)(base:Int)(ss:List bg)(x:lU K b base ss)(hf:jL ss)(hn:ba ss<=98305)(hal:∀ s∈ss,ba s.arcs<=4096)(hb:0<=base/\base<=1048576)(s:List UInt8)(hG:d8 K)(hl:ba s<1099511627776):
  aj w0 169 [SX b,str s] K hs (fun v K' hs'=>K'=K/\hs'=hs/\v=.tuple #[.int .i64 ((nJ ss base s).getD 0),.bool (nJ ss base s).isSome]):=by
 obtain ⟨ao,c,h1,hS⟩:=x.sta;refine bH Tryz.func169 ?_;refine cl 1 I (yA s hG hl) ?_;rintro v17 K17 hs17 ⟨rfl,h,ao6,c6,rfl,rfl,o6⟩;obtain ⟨rs,hrs⟩:=bC ((eo s).getD []);obtain ⟨G,hG'⟩:∃ G:Option Int,G=if ss=[] then none else (lV ss rs (ba ss-1)).map (base + ·):=⟨_,rfl⟩
 have hQ:nJ ss base s=if (eo s).isSome=true then G else none:=by
  unfold nJ;cases hr:eo s with
  | none=>rfl
  | some l=>
   rw[hr] at hrs;have hrs':rs=l:=hrs;rw[hG',hrs']
   by_cases e:ss=[]
   ·simp[e]
   have:=abc.2 e;simp only[e,if_false,Option.isSome_some,if_true];rw[Bt hf l _ qo]
 have hrl:ba rs<1099511627776:=by
  rw[hrs];cases hr:eo s with
  | none=>simp
  | some l=>
   have:=(wj (ba s) s l (aac _) hr).2.2;simpa using Nat.lt_of_le_of_lt this hl
 rw[<-hrs] at o6 ⊢;have xs:=o6.isS;refine au ?_;refine bI [] 8 [0,4,6,8,10,3,12,14] ST qk qk (lc qk 4 I (.inl I) x.bas (au ?_));refine cl 0 I (P7 b base ss x qo) ?_;rintro v21 K21 hs21 ⟨rfl,rfl,rfl⟩;refine bp ST I (be qk 2 I (ac5 (fin 3 I (th (bk ?_)))))
 refine loop (σ:=tw) (fun x=>[(0,SX b),(7,.bool (eo s).isSome),(8,.int .i64 x.at_),(9,.int .i64 x.sum),(26,.slice ao6 (ba rs) c6),(27,.int .i64 (ba rs)),(28,.int .i64 x.k)]) (fun _=>K21) (fun _=>h::hs)
  (fun x=>x.k<=ba rs/\0<=x.sum/\((∃ i:Nat,x.at_=(i:Int)/\i<ba ss/\G=(lV ss (rs.drop x.k) i).map (x.sum + ·)/\x.sum<=1048576*((ba ss:Int)-(i:Int)))\/(x.at_ = -1/\G=none/\x.sum<=1048576*((ba ss:Int)+1)))) (fun x=>ba rs-x.k)
  ⟨0,(ba ss:Int)-1,base⟩ ⟨aag _,hb.1,by
   by_cases e:ss=[]
   ·simp_all
   have:=abc.2 e
   grind⟩ sb rfl rfl ?_
 rintro ⟨k,at_,sum⟩ ⟨hk,hs0,hJ⟩;dsimp only at *;refine ac9 (aX 0 I (fun e2=>?_) (fun e2=>?_))
 ·refine au ?_;have hkl:k<ba rs:=qo
  obtain ⟨r,hr⟩:∃ r,rs[k]?=some r:=⟨_,aae hkl⟩;have kZ:rs.drop k=r::rs.drop (k+1):=by simp_all [aaF]
  refine au ?_;refine fe 0 k I I I xs (show (eT rs)[k]?=some (.int .i32 (r:Nat)) by unfold eT;rw[aa4,hr];rfl) fun a30 hc30=>?_;refine ld 0 I (.inr ⟨0,I⟩) hc30 (au ?_);refine af 1 I fun b33 h33=>fin 0 I (th (ah h33 I (fun e4=>?_) (fun e4=>?_)))
  ·rcases hJ with ⟨i,rfl,_⟩|⟨rfl,hGn,_⟩
   ·omega
   have hQn:nJ ss base s=none:=by rw[hQ,hGn];split <;> rfl
   refine ac9 (fin 2 I (adb (rT (rB (rT (rT (rB (rT (WQ.drop ?_)))))))));exact bL I I I ⟨I,I,by rw[hQn];rfl⟩
  rcases hJ with ⟨i,rfl,hi,hGi,hsum⟩|⟨rfl,_⟩
  ·obtain ⟨st,hst⟩:∃ st,ss[i]?=some st:=⟨_,aae hi⟩;have fm:=hf i st hst;have hA:=hal st (aap hst);obtain ⟨ad,rfl⟩:=hS.addr qo SU;obtain ⟨vs,xv⟩:=hS.isS;obtain ⟨cs,⟨aoA,nA,cA,rfl,xA⟩,hcl,hcell⟩:=hS.cells hst;obtain rfl:=xA.len;refine sk (ac6 (ld 3 I (.inl I) h1 (dz 1 i I I xv hi SU fun a39 ha=>?_)));cases ha;refine eD 0 (dc st aoA (ba st.arcs) cA) I qk (.inl I) hcell (al 0 (.agg #[.bool false,.int .i64 0,.slice none 0 0]) I qk fun b12=>?_);refine bJ 0 0 I I qk I I ?_;refine fin 0 I (ac6 (fin 1 I (ac6 (bE 1 0 I I I (fin 2 I (th (bk ?_)))))));have harc:∀ a∈st.arcs,0<=a.out/\a.out<=1048576/\0<=a.to/\a.to<(i:Int):=fun a ha=>by have:=(fm.arc a ha).out;have:=(fm.arc a ha).to;omega
   refine loop (σ:=Nat) (fun j=>[(0,SX b),(7,.bool (eo s).isSome),(8,.int .i64 (lX (st.arcs.take j) r sum).1),(9,.int .i64 (lX (st.arcs.take j) r sum).2),(11,.int .i32 (r:Nat)),(26,.slice ao6 (ba rs) c6),(27,.int .i64 (ba rs)),(28,.int .i64 (k:Nat)),(42,.slice aoA (ba st.arcs) cA),(43,.int .i64 (ba st.arcs)),(44,.int .i64 (j:Nat))]) (fun _=>K21)
    (fun _=>pt b12 (dc st aoA (ba st.arcs) cA).toArray 206::h::hs) (fun j=>j<=ba st.arcs) (fun j=>ba st.arcs-j) 0 (aag _) ⟨rfl,rfl,rfl,rfl,rfl,rfl,rfl,rfl,rfl,rfl,rfl,trivial⟩ rfl rfl ?_
   intro j hj;refine ac9 (aX 0 I (fun e6=>?_) (fun e6=>?_))
   ·refine au ?_;have hjl:j<ba st.arcs:=qo
    obtain ⟨a,ha0⟩:∃ a,st.arcs[j]?=some a:=⟨_,aae hjl⟩;have hab:=harc a (aap ha0);obtain ⟨n1,n2⟩:=KH fm.ord r sum ha0;obtain ⟨adA,rfl⟩:=xA.addr qo SU;obtain ⟨csA,hcs,hclA,hcellA⟩:=xA.cells ha0;obtain rfl:=hcs;obtain ⟨vsA,xvA⟩:=xA.isS;refine au ?_;refine dz 0 j I I xvA hjl SU fun a46 ha=>?_;cases ha;refine eD 0 (fy a) I qk (.inl I) hcellA (al 0 (.agg #[.int .i32 0,.int .i64 0,.int .i64 0]) I qk fun b14=>?_);refine bJ 0 0 I I qk I I ?_;refine WL.hs (pt b14 (fy a).toArray 208::pt b12 (dc st (some adA) (ba st.arcs) cA).toArray 206::h::hs) I (fin 0 I (ac6 (bE 1 0 (v:=.int .i32 a.lb) I I I (af 1 I fun b51 h51=>fin 0 I (th (ah h51 I (fun e8=>?_) (fun e8=>?_)))))))
    ·obtain ⟨m1,m2⟩:=n1 e8;have m3:(lX (st.arcs.take j) r sum).2=sum:=by unfold lX;rw[m1]
     rw[m3];refine ac9 (bE 1 0 (v:=.int .i64 a.to) I I I (fin 1 I (ac8 (bE 2 0 (v:=.int .i64 a.out) I I I (ar 0 I (ac (x:=sum+a.out) qo) (au ?_))))));refine ar 0 I (ac (x:=((j+1:Nat):Int)) qo) (fin 1 I (WQ.drop ?_));exact bc (x:=j) (j+1) ⟨I,I,by rw[m2];rfl,by rw[m2];rfl,rfl,rfl,rfl,rfl,rfl,rfl,rfl,trivial⟩ rfl rfl hjl qo
    have m2:=n2 e8;refine sk (ac7 (ar 0 I (ac (x:=((j+1:Nat):Int)) qo) (fin 1 I (WQ.drop ?_))));exact bc (x:=j) (j+1) ⟨I,I,by rw[m2];rfl,by rw[m2];rfl,rfl,rfl,rfl,rfl,rfl,rfl,rfl,trivial⟩ rfl rfl hjl qo
   refine au ?_;have hje:j=ba st.arcs:=qo
   rw[hje,aav];refine au ?_;refine ar 0 I (ac (x:=((k+1:Nat):Int)) qo) (fin 1 I (WQ.drop ?_))
   have hstep:lV ss (rs.drop k) i=match nL st.arcs r with|some a=>(lV ss (rs.drop (k+1)) a.to.toNat).map (a.out + ·)|none=>none:=by
    simp_all [lV]
   cases hac:nL st.arcs r with
   | some a=>
    have hab:=harc a (acs hac);have e1:lX st.arcs r sum=(a.to,sum+a.out):=by unfold lX;rw[hac]
    rw[hac] at hstep;dsimp only at hstep;rw[e1];refine bc (x:=(⟨k,(i:Int),sum⟩:tw)) (⟨k+1,a.to,sum+a.out⟩:tw) sb I I ⟨hkl,ax,.inl ⟨a.to.toNat,ax,qo,?_,ax⟩⟩ ax;dsimp only;rw[hGi,hstep];cases lV ss (rs.drop (k+1)) a.to.toNat with
    | none=>rfl
    | some z=>grind
   | none=>
    have e1:lX st.arcs r sum=(-1,sum):=by unfold lX;rw[hac]
    rw[hac] at hstep;dsimp only at hstep;rw[e1];exact bc (x:=(⟨k,(i:Int),sum⟩:tw)) (⟨k+1,-1,sum⟩:tw) sb I I ⟨hkl,hs0,.inr ⟨I,by rw[hGi,hstep];rfl,ax⟩⟩ ax
  exact absurd SU e4
 refine au ?_;have hke:k=ba rs:=qo
 refine au ?_;cases hr:eo s with
 | none=>
  have hQn:nJ ss base s=none:=by rw[hQ,hr];rfl
  refine fin 17 I (th (dY I (ac9 (fin 2 I (adb (rT (WQ.drop ?_)))))));exact bL I I I ⟨I,I,by rw[hQn];rfl⟩
 | some l=>
  have hQG:nJ ss base s=G:=by rw[hQ,hr];rfl
  rcases hJ with ⟨i,rfl,hi,hGi,hsum⟩|⟨rfl,hGn,_⟩
  ·obtain ⟨st,hst⟩:∃ st,ss[i]?=some st:=⟨_,aae hi⟩;have fm:=hf i st hst;have hout:=fm.out;obtain ⟨ad,rfl⟩:=hS.addr qo SU;obtain ⟨vs,xv⟩:=hS.isS;obtain ⟨cs,⟨aoA,nA,cA,rfl,xA⟩,hcl,hcell⟩:=hS.cells hst
   have hend:lV ss (rs.drop k) i=if st.fin=true then some st.out else none:=by
    simp_all [lV]
   refine aX 4 I (fun h64=>absurd h64 qo) (fun h64=>ld 5 I (.inl I) h1 (dz 1 i I I xv hi SU fun a72 ha=>?_));cases ha;refine ld 1 I (.inl I) (hcell 0 _ I) ?_;cases hfin:st.fin with
   | true=>
    refine au ?_;refine ld 4 I (.inl I) h1 (dz 1 i I I xv hi SU fun a83 ha=>?_);cases ha;refine ld 1 I (.inl I) (hcell 1 _ I) (ar 0 I (ac (x:=sum+st.out) qo) (fin 2 I (adb (WQ.drop ?_))));exact bL I I I ⟨I,I,by rw[hQG,hGi,hend,aab hfin];rfl⟩
   | false=>
    exact fin 2 I<|th (dY I<|ac9<|fin 2 I (adb (rT<|WQ.drop (bL I I I ⟨I,I,by grind⟩))))
  refine aX 4 I (fun h64=>fin 12 I (th (dY I (ac9 (fin 2 I (adb (rT (WQ.drop ?_)))))))) (fun h64=>absurd SU h64);exact bL I I I ⟨I,I,by rw[hQG,hGn];rfl⟩
end
section
open Go.Proofs.YtgaefgbgfmpobaaGreatDoor
def M3(a b:List UInt8):Value.string ((⟨a.toArray⟩:ByteArray)++(⟨b.toArray⟩:ByteArray))=str (a++b):=by
 rfl
def N9{n:Nat}{l:Sl}{o:Oper}{t u:Nat}{x y:Operand}{a b:List UInt8}(hop:o.op=.binOp .add t x y u)(hx:ev l x=some (str a))(hy:ev l y=some (str b))(hl:ba a+ba b<=9223372036854775807):∀ A w,Ag n l A->(execOp A.eval o).run P w=.ok (.value (str (a++b))) w:=by
 intro A w ha;simp only[execOp,hop,ha.ev hx,ha.ev hy];rw[<-M3]
 have h:¬(9223372036854775807:Int)<((⟨a.toArray⟩:ByteArray).size:Int)+((⟨b.toArray⟩:ByteArray).size:Int):=by
  show ¬(9223372036854775807:Int)<((a.toArray.size:Nat):Int)+((b.toArray.size:Nat):Int);simp only[abL];omega
 simp[eqGuard,binOp,str,Op.stringOp,Result.andThen,Sem.run_bind,h]
def p5(head:List UInt8)(sum:Int)(y:Wd):List Value:=[.agg (bK ⟨head++dM y.1,sum+y.2⟩).toArray]
def oV(ss:List bg)(base:Int):List (List Value):=((wt ss).getD (ba ss-1) []).map (p5 [] base)
def qJ(xs:List (List Value))(i:Nat)(vs:List Value)(i':Nat):Prop:=xs[i]?=some vs/\i'=i+1
theorem Ns(a:dv)(y:Wd)(head:List UInt8)(sum:Int):p5 head sum (jX a y)=p5 (head++dM [a.lb.toNat]) (sum+a.out) y:=by
 grind [p5,jX,dM]
def l9(ss:List bg)(s:bg)(j:Nat):List Wd:=fM s++wa (wt ss) (s.arcs.take j)
def LM{ss:List bg}{s:bg}{j:Nat}{a:dv}(h:s.arcs[j]?=some a):l9 ss s (j+1)=l9 ss s j++((wt ss).getD a.to.toNat []).map (jX a):=by
 simp_all [aaA,l9,wa]
def Nw(ss:List bg)(s:bg)(j:Nat):∃ t,fM s++wa (wt ss) s.arcs=l9 ss s j++t:=by
 refine ⟨wa (wt ss) (s.arcs.drop j),?_⟩;unfold l9 wa;rw[aax,<-acL,aaC]
structure za (K:PH) (b:Nat) (base:Int) (ss:List bg) (ad:Addr) (cS:Nat) (fa:Nat->Option Addr×Nat):Prop where
 bas:bR K ⟨b,0,none⟩ (.int .i64 base)
 sl:bR K ⟨b,1,none⟩ (.slice (some ad) (ba ss) cS)
 isS:∃ vs,aH K (some ad) (ba ss) cS 3 vs
 cell:∀ (i:Nat) s,ss[i]?=some s->∀ (j:Nat) v,(dc s (fa i).1 (ba s.arcs) (fa i).2)[j]?=some v->bR K ((ad.add (i*3)).add j) v
 arcs:∀ (i:Nat) s,ss[i]?=some s->bF 3 jd K (fa i).1 (ba s.arcs) (fa i).2 s.arcs
def lU.fix{b:Nat}{base:Int}{ss:List bg}(h:lU K b base ss)(hne:0<ba ss):∃ ad cS fa,za K b base ss ad cS fa:=by
 obtain ⟨ao,c,h1,h2⟩:=h.sta;obtain ⟨ad,rfl⟩:=h2.addr qo SU
 have hex:∀ i:Nat,∃ p:Option Addr×Nat,∀ s,ss[i]?=some s->(∀ (j:Nat) v,(dc s p.1 (ba s.arcs) p.2)[j]?=some v->bR K ((ad.add (i*3)).add j) v)/\bF 3 jd K p.1 (ba s.arcs) p.2 s.arcs:=by
  intro i;cases hs:ss[i]? with
  | none=>simp
  | some s=>
   obtain ⟨cs,⟨aoA,nA,cA,rfl,xA⟩,hcl,hcell⟩:=h2.cells hs;obtain rfl:=xA.len;exact ⟨(aoA,cA),fun s' h=>by cases h;exact ⟨hcell,xA⟩⟩
 refine ⟨ad,c,fun i=>Classical.choose (hex i),h.bas,h1,h2.isS,fun i s hs=>(Classical.choose_spec (hex i) s hs).1,fun i s hs=>(Classical.choose_spec (hex i) s hs).2⟩
structure rz where
 j:Nat
 K:PH
 hs:List PH
attribute [local irreducible] Code.wp wpList Calls
def QE(b:Nat)(base:Int)(ss:List bg)(hM0:iL base ss)(ad:Addr)(cS:Nat)(fa:Nat->Option Addr×Nat)(L:Nat)(xs:List (List Value))(St:Nat->PH->List PH->Prop)(Sp:PH->List PH->Prop)(hRd:∀ s K hs,St s K hs->za K b base ss ad cS fa/\d8 K)
  (hY:∀ s vs s' K hs fr,qJ xs s vs s'->St s K hs->pi Tryz.prog w0 L vs K (hs++fr) (fun v K' hs'=>∃ hs1,hs'=hs1++fr/\((v=.bool true/\St s' K' hs1)\/(v=.bool false/\Sp K' hs1)))):
  ∀ (i:Nat),i<ba ss->∀ (o:Nat) (head:List UInt8) (sum:Int) (K:PH) (hs fr:List PH),St o K hs->ba head<=4*(ba ss-i)->0<=sum->sum<=1048576->(∀ q y,((wt ss).getD i [])[q]?=some y->xs[o+q]?=some (p5 head sum y)/\sum+y.2<=1048576) ->
   aj w0 137 [SX b,.int .i64 (i:Nat),str head,.int .i64 sum,.func (.yield L) #[] #[]] K (hs++fr)
    (fun v K' hs'=>∃ hs1,hs'=hs1++fr/\((v=.bool true/\St (o+ba ((wt ss).getD i [])) K' hs1)\/(v=.bool false/\Sp K' hs1))):=by
 intro i
 induction i using Nat.strongRecOn with
 | _ i ih=>
  intro hi o head sum K hs fr hSt hhl hs0 hs1 hel;obtain ⟨s,hget⟩:∃ s,ss[i]?=some s:=⟨_,aae hi⟩;have fm:=hM0.fm i s hget;have hout:=fm.out;have hA:=hM0.arcsL hget;have hw:(wt ss).getD i []=fM s++wa (wt ss) s.arcs:=by rw[aaB,mQ hget (hM0.fm.to hget)];rfl
  have hcnt:=(hM0.wd i hi).1;rw[hw] at hel hcnt ⊢;obtain ⟨xW,hG⟩:=hRd o K hs hSt;obtain ⟨vs,xv⟩:=xW.isS;refine m8 Tryz.func137 ?_;refine au ?_;refine ld 3 I (.inl I) xW.sl (dz 1 i I I xv hi SU fun a21 ha=>?_);cases ha;refine eD 0 (dc s (fa i).1 (ba s.arcs) (fa i).2) I qk (.inl I) (xW.cell i s hget) (al 0 (.agg #[.bool false,.int .i64 0,.slice none 0 0]) I qk fun b11=>?_);refine bJ 0 0 I I qk I I ?_;refine WL.hs (pt b11 (dc s (fa i).1 (ba s.arcs) (fa i).2).toArray 206::(hs++fr)) I (fin 0 I (dQ (dR (Sh (σ:=rz) (fun _=>[(0,SX b),(2,str head),(3,.int .i64 sum),(4,.func (.yield L) #[] #[]),(11,SX b11)]) (fun x=>x.K) (fun x=>pt b11 (dc s (fa i).1 (ba s.arcs) (fa i).2).toArray 206::(x.hs++fr)) (fun x=>St (o+ba (fM s)) x.K x.hs) ?_ ?_))))
  ·cases hfin:s.fin with
   | false=>
    have hz:ba (fM s)=0:=by simp_all [fM]
    refine de (dX (bE 1 0 (v:=.bool false) I I (by simp[dc,hfin]) (fin 11 I (dQ (dR (sZ I (nk ?_)))))));exact H0 (⟨0,K,hs⟩:rz) (by rw[hz];exact hSt) sb I I
   | true=>
    have hz:fM s=[([],s.out)]:=by unfold fM;rw[aab hfin]
    have he:=hel 0 ([],s.out) (by rw[hz];rfl)
    have he1:xs[o]?=some [.agg (bK ⟨head,sum+s.out⟩).toArray]:=by
     grind [p5,dM]
    have he2:sum+s.out<=1048576:=he.2;refine de (tg (iB.cut 10 (bE 1 0 (v:=.bool true) I I (by simp[dc,hfin]) (bE 5 0 (v:=.int .i64 s.out) I I I (ar 0 I (ac (x:=sum+s.out) qo) (bd 0 (.agg (bK ⟨head,sum+s.out⟩).toArray) I (fun w=>by kernel_rfl) (fin 0 I (s9 ?_))))))));have hperm:(pt b11 (dc s (fa i).1 (ba s.arcs) (fa i).2).toArray 206::(hs++fr)).Perm (hs++(pt b11 (dc s (fa i).1 (ba s.arcs) (fa i).2).toArray 206::fr)):=aaI.symm;refine te I (pi.perm hperm (hY o _ (o+1) K hs _ ⟨he1,I⟩ hSt)) ?_;rintro v33 K33 hs33 ⟨hs1',rfl,⟨rfl,hn⟩|⟨rfl,hp⟩⟩
    ·refine iB.fin (au ?_);refine cH.perm aaI ?_;exact H0 (⟨0,K33,hs1'⟩:rz) (by rw[hz];exact hn) sb I I
    refine iB.fin (au ?_);exact cH.perm aaI (cH.drop (yN I I ⟨hs1',I,.inr ⟨I,hp⟩⟩))
  rintro ⟨_,K,hs⟩ hSt;dsimp only at *;refine au ?_
  refine qM (σ:=rz) (fun x=>[(0,SX b),(2,str head),(3,.int .i64 sum),(4,.func (.yield L) #[] #[]),(37,.slice (fa i).1 (ba s.arcs) (fa i).2),(38,.int .i64 (ba s.arcs)),(39,.int .i64 x.j)]) (fun x=>x.K) (fun x=>pt b11 (dc s (fa i).1 (ba s.arcs) (fa i).2).toArray 206::(x.hs++fr))
   (fun x=>x.j<=ba s.arcs/\St (o+ba (l9 ss s x.j)) x.K x.hs) (fun x=>ba s.arcs-x.j) ⟨0,K,hs⟩ ⟨aag _,by simpa[l9,wa] using hSt⟩ ⟨rfl,rfl,rfl,rfl,rfl,rfl,rfl,trivial⟩ rfl rfl ?_
  rintro ⟨j,K,hs⟩ ⟨hj,hSt⟩;dsimp only at *;refine de (dX (aX 0 I (fun e4=>?_) (fun e4=>?_)))
  ·refine au ?_;have hjl:j<ba s.arcs:=qo
   obtain ⟨a,ha0⟩:∃ a,s.arcs[j]?=some a:=⟨_,aae hjl⟩;have ham:=aap ha0;have hto:=(fm.arc a ham).to;have hao:=(fm.arc a ham).out;have hlb:=(fm.arc a ham).lb;have htn:((a.to.toNat:Nat):Int)=a.to:=qo
   have hln:((a.lb.toNat:Nat):Int)=a.lb:=qo
   obtain ⟨xW2,hG2⟩:=hRd _ K hs hSt;have xA:=xW2.arcs i s hget;have hpn:=LM (ss:=ss) ha0;obtain ⟨t,ht⟩:=Nw ss s (j+1)
   have htl:ba (dM [a.lb.toNat])<=4:=by
    simp[Fv,dM]
   have hle:=hM0.len
   have hsub:∀ q y,((wt ss).getD a.to.toNat [])[q]?=some y->xs[o+ba (l9 ss s j)+q]?=some (p5 (head++dM [a.lb.toNat]) (sum+a.out) y)/\sum+a.out+y.2<=1048576:=by
    intro q y hq;have hql:=(aas.1 hq).1
    have h1:(fM s++wa (wt ss) s.arcs)[ba (l9 ss s j)+q]?=some (jX a y):=by
     rw[ht,hpn,aax,aa9 qo,abx,aa3 (by rw[aaP];exact hql),aa4,hq];rfl
    grind [Ns,jX]
   have hsum:sum+a.out<=1048576:=by
    obtain ⟨_,hne,hnn⟩:=t8 hM0.fm a.to.toNat qo;obtain ⟨y,hy⟩:=ab7 _ hne
    grind [List.mem_iff_getElem?]
   obtain ⟨ad2,had2⟩:∃ ad2,(fa i).1=some ad2:=xA.addr qo SU;rw[had2] at xA ⊢;obtain ⟨vsA,xvA⟩:=xA.isS;obtain ⟨csA,hcs,hclA,hcellA⟩:=xA.cells ha0;obtain rfl:=hcs;refine au ?_;refine dz 0 j I I xvA hjl SU fun a41 ha=>?_;cases ha;refine eD 0 (fy a) I qk (.inl I) hcellA (al 0 (.agg #[.int .i32 0,.int .i64 0,.int .i64 0]) I qk fun b13=>?_);refine bJ 0 0 I I qk I I ?_;refine fin 0 I (dQ (dR (de (dX (bE 1 0 (v:=.int .i32 a.lb) I I I (lit 0 #[.int .i32 a.lb] I SU qk fun b46=>cl 0 I (FF (some ⟨b46,0,none⟩) 1 [a.lb.toNat] (.inr ⟨0,I⟩) (by simpa[eT,hln] using (aZ.ofPt (b:=b46) (c:=#[.int .i32 a.lb]) (e:=21) (n:=1) (size:=1) rfl (by simp[maxLen])).isS) (by simp;exact hlb.2.2) hG2 ST) ?_))))));rintro v47 K47 hs47 ⟨rfl,rfl,rfl⟩;refine fin 5 I (dQ (dR (de (dX (WL.drop (bE 2 0 (v:=.int .i64 a.to) I I I (nm 2 I (v:=str (head++dM [a.lb.toNat])) (fun A w ha hw=>N9 I I I qo A w ha) (bE 2 0 (v:=.int .i64 a.out) I I I (ar 0 I (ac (x:=sum+a.out) qo) (WL.drop ?_))))))))))
   have hrec:=ih a.to.toNat qo qo (o+ba (l9 ss s j)) (head++dM [a.lb.toNat]) (sum+a.out) K47 hs (pt b11 (dc s (some ad2) (ba s.arcs) (fa i).2).toArray 206::fr) hSt (by rw[aaf];omega) qo hsum hsub;rw[htn] at hrec;refine WL.perm aaI.symm (cl 1 I hrec ?_);rintro v61 K61 hs61 ⟨hs2,rfl,⟨rfl,hn⟩|⟨rfl,hp⟩⟩
   ·refine WL.perm aaI (au ?_);refine ar 0 I (ac (x:=((j+1:Nat):Int)) qo) (fin 1 I (dQ (qE (x:=(⟨j,K47,hs⟩:rz)) (⟨j+1,K61,hs2⟩:rz) sb I I ⟨hjl,?_⟩ ax)));dsimp only;rw[hpn,aaf,aaP,<-Nat.add_assoc];exact hn
   refine WL.perm aaI (WL.drop (au ?_));exact yN I I ⟨hs2,I,.inr ⟨I,hp⟩⟩
  refine au ?_;have hje:j=ba s.arcs:=qo
  have hpe:l9 ss s j=fM s++wa (wt ss) s.arcs:=by unfold l9;rw[hje,aav]
  rw[hpe] at hSt;refine au ?_;exact cH.drop (yN I I ⟨hs,I,.inl ⟨I,hSt⟩⟩)
def P8(b:Nat)(n:Nat)(a:Option Addr)(c:Nat)(h1:bR K ⟨b,1,none⟩ (.slice a n c))(hn:n<=1000000):aj w0 138 [SX b] K hs
  (fun v K' hs'=>K'=K/\hs'=hs/\v=.int .i64 ((n:Int)-1)):=by
 refine bH Tryz.func138 ?_;refine ld 3 I (.inl I) h1 (ar 1 I (ac qo) (au ?_));exact ay I I ⟨I,I,I⟩
def RT(b:Nat)(base:Int)(ss:List bg)(hM0:iL base ss)(b1:Nat)(ad:Addr)(cS:Nat)(fa:Nat->Option Addr×Nat):
  nU Tryz.prog w0 136 [SX b1] (qJ (oV ss base)) (fun i=>i=ba (oV ss base)) 0 (fun K hs=>za K b base ss ad cS fa/\d8 K/\bR K ⟨b1,0,none⟩ (SX b)):=by
 intro L St Sp hRd hY K hs h0;have hne:=hM0.ne;have hle:=hM0.len;have hb:=hM0.bas;obtain ⟨xW,hG,c1⟩:=hRd 0 K hs h0
 have hF:=QE (w0:=w0) b base ss hM0 ad cS fa L (oV ss base) St Sp (fun s K hs h=>⟨(hRd s K hs h).1,(hRd s K hs h).2.1⟩) hY (ba ss-1) qo 0 [] base K hs [] h0 (aag _) qo hb.2 (fun q y hq=>⟨by
   simp_all [oV],hM0.top y (aap hq)⟩)
 rw[aaw] at hF;have hln:ba (oV ss base)=ba ((wt ss).getD (ba ss-1) []):=by simp[oV]
 refine m8 Tryz.func136 ?_;refine de (dX (ld 0 I (.inl I) c1 (ld 2 I (.inl I) xW.sl (aX 1 I (fun h8=>au ?_) (fun h8=>absurd qo h8)))));refine oJ [] 8 [0,2,6,8,10,12,14,5,17] ST qk qk (zr qk 0 I qk (.inl I) c1 (zt [2] qk 0 I qk (.inl I) c1 (zt [6,5,4] qk 0 I qk (.inl I) c1 (zr qk 2 I qk (.inl I) xW.bas (au ?_)))));refine cl 0 I (P8 b (ba ss) (some ad) cS xW.sl qo) ?_;rintro v11 K11 hs11 ⟨rfl,rfl,rfl⟩;refine bp ST I (aG qk 0 I ?_);rw[show ((ba ss-1:Nat):Int)=(ba ss:Int)-1 by omega] at hF;refine cl 0 I hF ?_;rintro v17 K17 hs17 ⟨hs1,rfl,h⟩;rw[aaw];refine au ?_;refine qO I ?_
 grind
end
section
attribute [local irreducible] Code.wp wpList Calls
def nI(p:az):List Value:=[.agg (bK p).toArray]
def Od(f:Nat)(cap:List Value)(ps:List az)(Rd:PH->List PH->Prop)(it:nU Tryz.prog w0 f cap (qJ (ps.map nI)) (fun i=>i=ba (ps.map nI)) 0 Rd)(hcal:jN Tryz.prog f=true)
  (hl:ba ps<=1000000000) (hR:∀ x y fr,Rd K (x::y::(hs++fr))):
  aj w0 135 [.slice none 0 0,.func (.func f) #[] cap.toArray] K hs
   (fun v K' hs'=>K'=K/\∃ (ao:Option Addr) (c:Nat) (g:PH),hs'=g::hs/\v=.slice ao (ba ps) c/\ej 2 127 cC g ao (ba ps) c ps):=by
 refine m8 Tryz.func135 ?_;refine de (dX (bx 0 I fun b2=>fin 1 I (dQ (dR (de (de (dX (fin 1 I (dQ (dR (lg (WX.em (WX.perm (aaq _ _ _) ?_)))))))))))))
 refine HQ cap (qJ (ps.map nI)) (fun i=>i=ba (ps.map nI)) 0 Rd I it hcal (fun s vs s' h=>by
   obtain ⟨h,_⟩:=h;rw[aa4] at h;obtain ⟨p,_,rfl⟩:=abY.1 h
   rfl) rfl
  (fun i K' hs'=>K'=K/\i<=ba ps/\∃ ao c g,hs'=pt b2 #[.slice ao i c] 45::g::hs/\ej 2 127 cC g ao i c (ps.take i))
  (fun _ _ _=>False) ⟨rfl,aag _,none,0,em,rfl,ej.nil _ _⟩ (fun s K' hs' t u h=>by grind) ?_ ?_ ?_
 ·rintro L s vs s' K' hs' fr t u ⟨hvs,rfl⟩ ⟨rfl,hsl,ao,c,g,rfl,o⟩;rw[aa4] at hvs;obtain ⟨p,hp,rfl⟩:=abY.1 hvs;have hpl:=(aas.1 hp).1;refine dX (al 0 (.agg #[.string ⟨#[]⟩,.int .i64 0]) I qk fun b5=>?_);refine bJ 0 0 I I qk I I ?_;refine fin 0 I (dQ (ta (hs':=pt b5 (bK p).toArray 127::pt b2 #[.slice ao s c] 45::g::(hs++fr)) ST fun u=>lg (dX (bE 0 1 I I I (dy 0 0 I I qk (lit 0 (bK p).toArray I SU qk fun b10=>nM 0 3 (bK p) p I I I o I I (by simp[bK,Value.oneCell',str]) I SU (by show (s+1)*24<=_;omega) (by simp only[maxLen];omega) fun ao11 c11 g11 o11=>au ?_))))));refine cH.drop (cH.drop (sW (hs':=pt b2 #[.slice ao11 (s+1) c11] 45::g11::(hs++fr)) I (⟨pt b2 #[.slice ao11 (s+1) c11] 45::g11::hs,I,I,hpl,ao11,c11,g11,I,?_⟩)));rw[aaA,hp]
  exact o11
 ·rintro D s K' hs' hov ⟨rfl,hsl,ao,c,g,rfl,o⟩;have hse:s=ba ps:=by rw[hov,aaP]
  subst hse;rw[aav] at o;refine id (mu (dR (de (dX (au ?_)))));exact cH.drop (uU D (hs':=g::hs) I I I ⟨I,ao,c,g,I,I,o⟩)
 rintro D c K hs hj;exact hj.elim
def DT(f:Nat)(cap:List Value)(ps:List az)(Rd:PH->List PH->Prop)(it:nU Tryz.prog w0 f cap (qJ (ps.map nI)) (fun i=>i=ba (ps.map nI)) 0 Rd)(hcal:jN Tryz.prog f=true)
  (hl:ba ps<=1000000000) (hR:∀ x y fr,Rd K (x::y::(hs++fr))):
  aj w0 91 [.func (.func f) #[] cap.toArray] K hs
   (fun v K' hs'=>K'=K/\∃ (ao:Option Addr) (c:Nat) (g:PH),hs'=g::hs/\v=.slice ao (ba ps) c/\ej 2 127 cC g ao (ba ps) c ps):=by
 refine bH Tryz.func91 ?_;refine cl 1 I (Od f cap ps Rd it hcal hl hR) ?_;rintro v4 K4 hs4 ⟨rfl,ao,c,g,rfl,rfl,o⟩;refine au ?_;exact ay I I ⟨I,ao,c,g,I,I,o⟩
def HG(b:Nat):aj w0 92 [SX b] K hs
  (fun v K' hs'=>K'=K/\∃ b1,hs'=pt b1 #[SX b] 176::hs/\v=.func (.func 136) #[] #[SX b1]):=by
 refine dj Tryz.func92 ?_;refine ac9 (bx 0 I fun b1=>au ?_);exact ay I I ⟨I,b1,I,I⟩
def RU(b:Nat)(b1:Nat)(ao:Option Addr)(c:Nat):
  nU Tryz.prog w0 136 [SX b1] (qJ ([].map nI)) (fun i=>i=ba ([].map nI)) 0 (fun K hs=>bR K ⟨b,1,none⟩ (.slice ao 0 c)/\bR K ⟨b1,0,none⟩ (SX b)):=by
 intro L St Sp hRd hY K hs h0;obtain ⟨h1,c1⟩:=hRd 0 K hs h0;refine m8 Tryz.func136 ?_;refine de (dX (ld 0 I (.inl I) c1 (ld 2 I (.inl I) h1 (aX 1 I (fun h8=>absurd h8 SU) (fun h8=>au ?_)))));exact qO I (.inl ⟨0,I,h0⟩)
def km(ss:List bg)(base:Int):List az:=if ss=[] then [] else ((wt ss).getD (ba ss-1) []).map fun y=>⟨dM y.1,base+y.2⟩
def Bz(b b1:Nat)(base:Int)(ss:List bg)(hM0:ss=[]\/iL base ss)(x:lU K b base ss)(hG:d8 K)(c1:bR K ⟨b1,0,none⟩ (SX b)):
  aj w0 91 [.func (.func 136) #[] #[SX b1]] K hs
   (fun v K' hs'=>K'=K/\∃ (ao:Option Addr) (c:Nat) (g:PH),hs'=g::hs/\v=.slice ao (ba (km ss base)) c/\ej 2 127 cC g ao (ba (km ss base)) c (km ss base)):=by
 by_cases e:ss=[]
 ·subst e;obtain ⟨ao,c,h1,_⟩:=x.sta;have hp:km [] base=[]:=by simp[km]
  rw[hp];exact DT _ [SX b1] [] _ (RU b b1 ao c) qk ST (fun _ _ _=>⟨h1,c1⟩)
 rcases hM0 with h|hM0
 ·exact absurd h e
 obtain ⟨ad,cS,fa,xA⟩:=x.fix hM0.ne
 have hp:oV ss base=(km ss base).map nI:=by
  unfold oV km;rw[aaa e,aa5]
  rfl
 have it:=RT (w0:=w0) b base ss hM0 b1 ad cS fa;rw[hp] at it;refine DT _ [SX b1] (km ss base) _ it qk ?_ (fun _ _ _=>⟨xA,hG,c1⟩);have:=(hM0.wd (ba ss-1) (by have:=hM0.ne;omega)).1
 grind [km]
end
section
attribute [local irreducible] Code.wp wpList Calls
def FR(ao:Option Addr)(c:Nat):aj w0 110 [.agg #[.int .i64 0,.slice ao 0 c]] K hs (fun v K' hs'=>K'=K/\hs'=hs/\v=.bool true):=by
 refine dj Tryz.func110 ?_;refine ac9 (bx 0 I fun b1=>fin 1 I (th (HP (sq (ac9 (au ?_))))));refine aX 1 I (fun h2=>au ?_) (fun h2=>absurd I h2);exact aX 0 I (fun h3=>fin 1 I (adb (rT (HS (WQ.drop (ay I I ⟨I,I,I⟩)))))) (fun h3=>absurd I h3)
def Qq(ao:Option Addr)(c:Nat):aj w0 89 [.agg #[.int .i64 0,.slice ao 0 c]] K hs (fun v K' hs'=>Le K K'/\hs'=hs/\∃ b,v=.tuple #[SX b,.bool true]/\lU K' b 0 []):=by
 refine dj Tryz.func89 ?_;refine ac9 (bx 0 I fun b1=>fin 2 I (ac5 (dy 0 0 I I qk (cl 0 I (FR ao c) ?_))));rintro v11 K11 hs11 ⟨rfl,rfl,rfl⟩;refine au ?_;refine bd 0 (.agg #[.int .i64 0,.slice none 0 0,.slice none 0 0]) I (fun w=>by kernel_rfl) (bx 0 I fun b16=>au ?_)
 refine loop (σ:=Unit) (fun _=>[(2,.pointer none),(3,.bool false),(4,SX b16),(19,.int .i64 0),(20,.int .i64 0)]) (fun _=>K11)
  (fun _=>pt b16 #[.int .i64 0,.slice none 0 0,.slice none 0 0] 240::pt b1 #[.int .i64 0,.slice ao 0 c] 99::hs) (fun _=>True) (fun _=>0) () trivial sb rfl rfl ?_
 rintro - -;exact ac9 (aX 0 I (fun h=>absurd h SU) (fun _=>fin 0 I (th (sq (dt I (ex (xt (xt (xb (th (WC.frz fun K2 le2 l2=>ac9 (fin 3 I (adb (WQ.drop (bL I I I ⟨le2,I,b16,I,(bR.pt I).le l2,none,0,(bR.pt I).le l2,bF.nil _ _ _ _⟩)))))))))))))))
end
section
open Go.Proofs.YtgaefgbgfmpobaaGreatDoor
def BE{s:List UInt8}(h:iS s):dM (rl s)=s:=(pm (qG h)).1
def d7.okX{l:List az}(h:d7 l):lD 24 (l.map fV):=by
 refine ⟨h.ok,fun r hr c hc=>?_,fun r hr=>?_⟩
 ·obtain ⟨p,hp,rfl⟩:=aak.1 hr;have hw:=(h.one p hp).1;have h1:=hw.2.2.1 c hc;exact ⟨h1.1,h1.2,(pm (qG hw)).2.1 c hc⟩
 obtain ⟨p,hp,rfl⟩:=aak.1 hr;exact (h.one p hp).2.2
def pz{l:List az}(h:d7 l):(((dl l).2=[]/\(dl l).1=0)\/iL (dl l).1 (dl l).2)/\km (dl l).2 (dl l).1=l/\(l=[]\/(wt (dl l).2).getD (ba (dl l).2-1) []=jW (dl l).1 (l.map fV)):=by
 by_cases e:l=[]
 ·subst e;have hb:dl []=(0,[]):=by simp[dl]
  rw[hb];exact ⟨.inl ⟨I,I⟩,by simp[km],.inl I⟩
 have hb:dl l=(dp (l.map fV),(dV 25 bld0 (l.map fV)).1.sts):=by unfold dl;rw[aaa e]
 rw[hb]
 have hk:=Kg h.okX (by simpa using e) (by rw[aaP];exact h.few) (fun r hr=>by
   obtain ⟨p,hp,rfl⟩:=aak.1 hr;have:=(h.one p hp).1.2.2.2.1;exact abc.1 this) (fun r hr=>by
   obtain ⟨p,hp,rfl⟩:=aak.1 hr;exact (h.one p hp).2.1) (by have:=h.tot;have:=h.few;omega)
 refine ⟨.inr hk.1,?_,.inr hk.2⟩;have hne:=hk.1.ne;unfold km;dsimp only;rw[aaa (abc.1 hne),hk.2];unfold jW;rw[aa5,aa5]
 conv=>rhs;rw[<-List.map_id l]
 refine abC fun p hp=>?_;simp only[Function.comp_apply,fV,id];rw[BE (h.one p hp).1,show dp (l.map fV)+(p.w-dp (l.map fV))=p.w by omega]
theorem Cq(base:Int)(s:List UInt8)(rs:List Nat)(hs:eo s=some rs):∀ W:List Wd,(∀ y∈W,eo (dM y.1)=some y.1)->(iU W rs).map (base + ·)=((W.map fun y=>(⟨dM y.1,base+y.2⟩:az)).find? fun p=>decide (p.word=s)).map (·.w)
 | [],_=>rfl
 | y::W,h=>by
  have ih:=Cq base s rs hs W fun z hz=>h z (by simp[hz]);have h1:=h y ST;unfold iU at ih ⊢;rw[aao,List.find?_cons,List.find?_cons]
  by_cases e:y.1=rs
  ·have e2:dM y.1=s:=by rw[e];exact (pm hs).1
   simp_all
  grind
def Ks{l:List az}(h:d7 l)(s:List UInt8):nJ (dl l).2 (dl l).1 s=(l.find? fun p=>decide (p.word=s)).map (·.w):=by
 obtain ⟨h1,h2,h3⟩:=pz h;unfold nJ;cases hs:eo s with
 | none=>
  have:l.find? (fun p=>decide (p.word=s))=none:=by
   rw[List.find?_eq_none];intro p hp;have hw:=(h.one p hp).1.2.1
   grind
  rw[this];rfl
 | some rs=>
  dsimp only
  by_cases e:(dl l).2=[]
  ·simp_all [km]
  rw[aaa e];have hp:km (dl l).2 (dl l).1=((wt (dl l).2).getD (ba (dl l).2-1) []).map fun y=>⟨dM y.1,(dl l).1+y.2⟩:=by unfold km;rw[aaa e]
  rw[Cq _ s rs hs _ (fun y hy=>?_),<-hp,h2];rcases h3 with h3|h3
  ·simp_all
  rw[h3] at hy;obtain ⟨r,hr,rfl⟩:=aak.1 hy;obtain ⟨p,hp,rfl⟩:=aak.1 hr;have hw:=(h.one p hp).1;show eo (dM (rl p.word))=some (rl p.word);rw[BE hw,qG hw]
end
section
def Bu{α:Type}{p:α->Bool}{l:List α}{i:Nat}{e:α}(h0:(l.take i).find? p=none)(he:l[i]?=some e)(hp:p e=true):l.find? p=some e:=by
 have hi:=(aas.1 he).1
 have:l=l.take i++(e::l.drop (i+1)):=by
  have h2:l.drop i=e::l.drop (i+1):=by rw[aaF hi,show l[i]=e from by rw[aae hi] at he;exact aa8 he]
  rw[<-h2,aaC]
 rw[this,acM,h0];simp[hp]
def FX{fn:Func}{R:Value->PH->List PH->Prop}{n:Nat}{l:Sl}{hs':List PH}{x y:Value}(D i j m:Nat)(hh:hs=hs'++[ic D]){t ty u tu b1 b2 ty1 ty2:Nat}(hr:fn.results=#[.cell t ty,.cell u tu])
  (hv:look l t=some (SX b1)) (hu:look l u=some (SX b2)) (h1:∀ w,(isAgg ty).run P w=.ok false w) (h2:∀ w,(isAgg tu).run P w=.ok false w) (hi:hs'[i]?=some (pt b1 #[x] ty1)) (hj:hs'[j]?=some (pt b2 #[y] ty2))
  (hk:R (.tuple #[x,y]) K (hs'.drop m)):cH [np D] w0 (bodyPostM (fz none) 0 P fn (fK w0 R)) .ret n l K hs:=by
 subst hh;intro a w ha hw;have hw1:aY w0 (w.putObj D (.deferred none)) K hs':=(hw.putLast (.deferred none)).dropLast;have hd:=run_takeDeferred (P:=P) (hw.last);have c1:(w.putObj D (.deferred none)).cell? ⟨b1,0,none⟩=some x:=hw1.cell (.inr ⟨i,hi⟩) (bR.pt rfl);have c2:(w.putObj D (.deferred none)).cell? ⟨b2,0,none⟩=some y:=hw1.cell (.inr ⟨j,hj⟩) (bR.pt rfl)
 have hres:(results fn a.tmps).run P (w.putObj D (.deferred none))=.ok (.tuple #[x,y]) (w.putObj D (.deferred none)):=by
  simp[results,hr,ha.slot t _ hv,ha.slot u _ hu,asAddr,loadVar,h1,h2,c1,c2]
 exact ⟨ST,.inl ⟨D,_,I,hd,.tuple #[x,y],hres,.tuple #[x,y],K,_,I,hk,hw1.dropN m⟩⟩
def bZ(l:List az)(s:List UInt8):Option Int:=(l.reverse.find? fun p=>decide (p.word=s)).map (·.w)
attribute [local irreducible] Code.wp wpList Calls
def PM(ao:Option Addr)(n c:Nat):aj w0 203 [.slice ao n c] K hs
  (fun v K' hs'=>K'=K/\∃ b,hs'=pt b #[.slice ao n c] 45::hs/\v=.func (.func 222) #[] #[SX b]):=by
 refine dj Tryz.func203 ?_;refine ac9 (bx 0 I fun b1=>au ?_);exact ay I I ⟨I,b1,I,I⟩
def PL(b:Nat)(ao:Option Addr)(c:Nat)(l:List az)(hl:ba l<=1099511627776):vL Tryz.prog w0 222 [SX b] (mW bK l) (uN 2 cC b ao c l):=by
 intro L St Sp hRd hY K hs h0;refine m8 Tryz.func222 ?_;obtain ⟨⟨h1,m1,c1⟩,_⟩:=hRd 0 K hs h0;refine de (dX (ld 0 I m1 c1 (ar 1 I (v':=.int .i64 ((ba l:Int)-1-((0:Nat):Int))) (by rw[ac qo];simp) (au ?_))));refine qM (σ:=Nat×PH×List PH) (fun s=>[(0,.func (.yield L) #[] #[]),(1,SX b),(3,.int .i64 ((ba l:Int)-1-((s.1:Nat):Int)))]) (fun s=>s.2.1) (fun s=>s.2.2) (fun s=>s.1<=ba l/\St s.1 s.2.1 s.2.2) (fun s=>ba l-s.1) (0,K,hs) ⟨aag _,h0⟩ ⟨I,I,I,trivial⟩ I I ?_;rintro ⟨i,K,hs⟩ ⟨hi,hst⟩;dsimp only at *;obtain ⟨⟨h1,m1,c1⟩,h2,m2,c2⟩:=hRd i K hs hst;refine de (de (dX (af 1 I fun b8 h8=>au ?_)));refine pR h8 I (fun e2=>?_) (fun e2=>?_)
 ·have hil:i<ba l:=qo
  obtain ⟨a,rfl⟩:=c2.addr qo SU;obtain ⟨vs,xs⟩:=c2.isS;obtain ⟨cs,hc,hcl,hcell⟩:=c2.cells (i:=ba l-1-i) (x:=l[ba l-1-i]'qo) (aae _);refine nk (dR (de (lg (de (tg (iB.cut 6 (ld 2 I m1 c1 (dz 1 (ba l-1-i) I (show _=((ba l-1-i:Nat):Int) by omega) xs qo SU fun a15 ha=>?_))))))));cases ha;refine eD 0 cs I (by rw[hcl];kernel_rfl) m2 hcell (fin 0 rfl (s9 ?_))
  have hv:(mW bK l)[i]?=some [.int .i64 ((ba l:Int)-1-((i:Nat):Int)),.agg cs.toArray]:=by
   rw[tW bK hil,hc,show ((ba l-1-i:Nat):Int)=(ba l:Int)-1-((i:Nat):Int) from qo]
  refine te I (hY i _ K hs hv hst) ?_;rintro v17 K17 hs17 (⟨rfl,hn⟩|⟨rfl,hp⟩)
  ·refine iB.fin (au ?_);exact ar 1 I (v':=.int .i64 ((ba l:Int)-1-((i+1:Nat):Int))) (by rw[ac qo];congr 1;omega) (fin 1 rfl (dQ (qE (x:=(i,K,hs)) (i+1,K17,hs17) sb rfl rfl ⟨ax,hn⟩ ax)))
  refine iB.fin (au ?_);exact uV I (.inr hp)
 refine au ?_;obtain rfl:i=ba l:=qo
 exact qO I (.inl (by rw[qh];exact hst))
def Pi(ao:Option Addr)(c:Nat)(l:List az)(s:List UInt8)(x:bF 2 cC K ao (ba l) c l)(hl:ba l<=1000000):
  aj w0 168 [.slice ao (ba l) c,str s] K hs (fun v K' hs'=>K'=K/\hs'=hs/\v=.tuple #[.int .i64 ((bZ l s).getD 0),.bool (bZ l s).isSome]):=by
 refine m8 Tryz.func168 ?_;refine de (dX (bx 0 I fun b3=>al 0 (.int .i64 0) I qk fun b4=>al 0 (.bool false) I qk fun b5=>au ?_));refine cl 1 I (PM ao (ba l) c) ?_;rintro v9 K9 hs9 ⟨rfl,b1,rfl,rfl⟩;refine au ?_
 refine zJ [SX b1] (mW bK l) (uN 2 cC b1 ao c l) I (PL b1 ao c l qo) qk (fun vs hv=>?_) I
  (fun i K' hs'=>K'=K9/\hs'=pt b1 #[.slice ao (ba l) c] 45::pt b5 #[.bool false] 4::pt b4 #[.int .i64 0] 3::pt b3 #[str s] 9::hs/\(l.reverse.take i).find? (fun p=>decide (p.word=s))=none)
  (fun cd K' hs'=>cd=.ret/\K'=K9/\hs'=pt b1 #[.slice ao (ba l) c] 45::pt b5 #[.bool (bZ l s).isSome] 4::pt b4 #[.int .i64 ((bZ l s).getD 0)] 3::pt b3 #[str s] 9::hs)
  ⟨rfl,rfl,ST⟩ (fun i K' hs' t u h=>by obtain ⟨rfl,rfl,_⟩:=h;exact ⟨⟨_,.inr ⟨0,I⟩,bR.pt I⟩,K',.inl I,x⟩) ?_ ?_ ?_
 ·obtain ⟨y,_,rfl⟩:=aak.1 (acH.1 hv)
  rfl
 ·rintro LL i vs K' hs' t u hvs ⟨rfl,rfl,hno⟩;have hi:i<ba l:=by have:=(aas.1 hvs).1;rw[qh] at this;exact this
  rw[tW bK hi] at hvs;cases hvs;obtain ⟨p,hp⟩:=bC (l[ba l-1-i]'qo);rw[<-hp]
  have her:l.reverse[i]?=some p:=by
   rw[List.getElem?_reverse qo,hp];exact aae _
  refine dX (al 0 (.agg #[.string ⟨#[]⟩,.int .i64 0]) I qk fun b7=>?_);refine bJ 0 0 I I qk I I ?_;refine fin 0 I (dQ (ta (hs':=pt b7 (bK p).toArray 127::pt b1 #[.slice ao (ba l) c] 45::pt b5 #[.bool false] 4::pt b4 #[.int .i64 0] 3::pt b3 #[str s] 9::hs) I fun u=>lg (de (dX (bE 1 0 (v:=str p.word) I I I (bE 0 4 (v:=str s) I I I (HO 0 I fun b15 h15=>au ?_)))))));refine pR h15 I (fun e2=>?_) (fun e2=>?_)
  ·have hF:bZ l s=some p.w:=by unfold bZ;rw[Bu hno her (by simpa using e2)];rfl
   refine de (dX (bE 1 0 (v:=.int .i64 p.w) I I I (au ?_)));refine cH.drop (Hl (hs':=pt b1 #[.slice ao (ba l) c] 45::pt b5 #[.bool true] 4::pt b4 #[.int .i64 p.w] 3::pt b3 #[str s] 9::hs) I ?_);rw[hF];exact ⟨I,I,I⟩
  refine nk (mu (cH.drop (sW (hs':=pt b1 #[.slice ao (ba l) c] 45::pt b5 #[.bool false] 4::pt b4 #[.int .i64 0] 3::pt b3 #[str s] 9::hs) I (⟨I,I,?_⟩))));rw[aaA,her,acM,hno];simp[show ¬p.word=s by simpa using e2]
 ·rintro DD K' hs' ⟨rfl,rfl,hno⟩;rw[qh,aar ST] at hno;have hF:bZ l s=none:=by unfold bZ;rw[hno];rfl
  refine id (mu (dR (de (dX (au ?_)))));exact FX DD 2 1 4 (hs':=pt b1 #[.slice ao (ba l) c] 45::pt b5 #[.bool false] 4::pt b4 #[.int .i64 0] 3::pt b3 #[str s] 9::hs) I I I I (fun w=>by kernel_rfl) (fun w=>by kernel_rfl) I I ⟨I,I,by rw[hF];rfl⟩
 rintro DD cd K' hs' ⟨rfl,rfl,rfl⟩;exact pb (FX DD 2 1 4 (hs':=pt b1 #[.slice ao (ba l) c] 45::pt b5 #[.bool (bZ l s).isSome] 4::pt b4 #[.int .i64 ((bZ l s).getD 0)] 3::pt b3 #[str s] 9::hs) I I I I (fun w=>by kernel_rfl) (fun w=>by kernel_rfl) I I ⟨I,I,I⟩)
end
section
def uz{α:Type}{i j:Nat}{xs:List α}{x y:α}(hx:xs[i]?=some x)(hy:xs[j]?=some y):l8 i j xs=(xs.set i y).set j x:=by
 simp only[l8,hx,hy]
def sI{g e:Nat}{a b:Array Value}(h:pt g a e=pt g b e):a=b:=by
 have h2:=congrFun h g;simpa[pt,sg] using h2
attribute [local irreducible] Code.wp wpList Calls
def wu(m:PH)(ao:Option Addr)(cap:Nat)(xs:List az)(p q n:Nat)(aX:Value)(hx:bN 2 127 cC m ao (ba xs) cap xs)(h1:p+n<=q)(h2:q+n<=ba xs)(hl:ba xs<=1048576):
  aj w0 230 [.slice ao (ba xs) cap,.int .i64 (p:Nat),.int .i64 (q:Nat),.int .i64 (n:Nat),aX] K (m::hs)
  (fun v K' hs'=>K'=K/\v=.tuple #[]/\∃ m',hs'=m'::hs/\bN 2 127 cC m' ao (ba xs) cap (kV p q n xs)):=by
 refine bH Tryz.func230 ?_;refine loop (σ:=Nat×PH) (fun x=>[(0,.slice ao (ba xs) cap),(1,.int .i64 (p:Nat)),(2,.int .i64 (q:Nat)),(3,.int .i64 (n:Nat)),(10,.int .i64 x.1)]) (fun _=>K) (fun x=>x.2::hs) (fun x=>x.1<=n/\bN 2 127 cC x.2 ao (ba xs) cap (kV p q x.1 xs)) (fun x=>n-x.1) (0,m) ⟨aag _,hx⟩ ⟨I,I,I,I,I,trivial⟩ I I ?_;rintro ⟨i,m⟩ ⟨hi,o⟩;dsimp only at *;refine sq (ac9 (af 2 I fun b13 h13=>fin 0 I (th (ah h13 I (fun e2=>?_) (fun e2=>?_)))))
 ·have hin:i<n:=qo
  have hlen:=pA p q i xs;generalize hys:kV p q i xs=ys at *;obtain ⟨x,hxi⟩:∃ x,ys[p+i]?=some x:=⟨_,aae qo⟩;obtain ⟨y,hyi⟩:∃ y,ys[q+i]?=some y:=⟨_,aae qo⟩;have xS:=o.slS;obtain ⟨gb,off,cur,rfl,rfl,hcs,hcap,hset⟩:=o.pts (show 0<ba xs by omega);obtain ⟨vs,xv⟩:=xS.isS;obtain ⟨cx,hcx,hcxl,hcxc⟩:=xS.cells hxi;obtain ⟨cy,hcy,hcyl,hcyc⟩:=xS.cells hyi;obtain rfl:=hcx;obtain rfl:=hcy;have o2:=hset (p+i) (bK y) y qo rfl rfl;obtain ⟨gb2,off2,cur2,hao,hm2,hcs2,hcap2,hset2⟩:=o2.pts (show 0<ba xs by omega);cases hao;obtain rfl:=sI hm2;have o3:=hset2 (q+i) (bK x) x qo rfl rfl;refine sk (th (sq (bk (bI [pt gb cur 127] 21 [0,2,4,6,8,10,12,14,16,18,20,22,24,26,28,30,32,34,36,38,40,43,44,47] ST qk qk (bQ qk 3 I (v':=.int .i64 (p+i:Nat)) (ac qo) (bQ qk 3 I (v':=.int .i64 (q+i:Nat)) (ac qo) (bQ qk 3 I (v':=.int .i64 (q+i:Nat)) (ac qo) (bh qk 0 (q+i) I I qo (ip qk 0 (bK y) I qk qk (.inr ⟨0,I⟩) hcyc (bQ qk 3 I (v':=.int .i64 (p+i:Nat)) (ac qo) (bh qk 0 (p+i) I I qo (ip qk 0 (bK x) I qk qk (.inr ⟨0,I⟩) hcxc (bh qk 0 (p+i) I I qo ?_)))))))))))))
  simp only[bz];refine aG qk 0 I (sts 0 0 I I qk (by simp[bK];omega) (fun v hv=>by simp[bK] at hv;rcases hv with rfl|rfl <;> rfl) (au ?_));refine bh qk 0 (q+i) I I qo ?_;simp only[bz];refine aG qk 0 I (sts 0 0 I I qk (by simp[bK];omega) (fun v hv=>by simp[bK] at hv;rcases hv with rfl|rfl <;> rfl) (au ?_));refine ar 1 I (ac qo) (fin 1 I (bc (x:=(i,pt gb cur 127)) (i+1,_) ⟨I,I,I,I,I,trivial⟩ I I ⟨qo,?_⟩ (by (try dsimp only);omega)));rw[kV,hys,uz hxi hyi];exact o3
 refine ex (xt (xt (xb ?_)));have:i=n:=qo
 subst this;exact gW I ⟨I,I,m,I,o⟩
end
section
attribute [local irreducible] Code.wp wpList Calls
def No(g:PH)(ao:Option Addr)(cap:Nat)(xs:List az)(a m b:Nat)(aX:Value)(hx:bN 2 127 cC g ao (ba xs) cap xs)(h1:a<m)(h2:m<b)(h3:b<=ba xs)(hl:ba xs<=1048576):
  aj w0 229 [.slice ao (ba xs) cap,.int .i64 (a:Nat),.int .i64 (m:Nat),.int .i64 (b:Nat),aX] K (g::hs)
  (fun v K' hs'=>K'=K/\v=.tuple #[]/\∃ g',hs'=g'::hs/\bN 2 127 cC g' ao (ba xs) cap (dP a m b xs)):=by
 refine dj Tryz.func229 ?_;refine ac9 (ar 2 I (v':=.int .i64 (m-a:Nat)) (by rw[ac qo];congr 1;omega) (au ?_));refine ar 2 I (v':=.int .i64 (b-m:Nat)) (by rw[ac qo];congr 1;omega) (au ?_)
 refine loop (σ:=Nat×Nat×PH×List az) (fun x=>[(0,.slice ao (ba xs) cap),(2,.int .i64 (m:Nat)),(4,aX),(10,.int .i64 x.1),(11,.int .i64 x.2.1)]) (fun _=>K) (fun x=>x.2.2.1::hs)
  (fun x=>0<x.1/\0<x.2.1/\x.1<=m/\m+x.2.1<=ba xs/\ba x.2.2.2=ba xs/\bN 2 127 cC x.2.2.1 ao (ba xs) cap x.2.2.2/\dP (m-x.1) m (m+x.2.1) x.2.2.2=dP a m b xs) (fun x=>x.1+x.2.1) (m-a,b-m,g,xs)
  ⟨ax,ax,ax,ax,rfl,hx,by dsimp only;rw[show m-(m-a)=a by omega,show m+(b-m)=b by omega]⟩ sb rfl rfl ?_
 rintro ⟨i,j,g,ys⟩ ⟨hi,hj,him,hjl,hlen,o,hr⟩;dsimp only at *;refine sq (ac9 (af 2 I fun b20 h20=>?_));have o':=o;rw[<-hlen] at o';refine fin 0 I (th (ah h20 I (fun e2=>?_) (fun e2=>?_)))
 ·refine au ?_;refine af 2 I fun b23 h23=>fin 0 I (th (ah h23 I (fun e4=>?_) (fun e4=>?_)))
  ·refine ac9 (ar 3 I (v':=.int .i64 (m-i:Nat)) (by rw[ac qo];congr 1;omega) (cl 3 rfl (by rw[<-hlen];exact wu g ao cap ys (m-i) m j aX o' qo qo qo) ?_));rintro v31 K31 hs31 ⟨rfl,rfl,g',rfl,o2⟩;refine au ?_;refine ar 2 I (v':=.int .i64 (i-j:Nat)) (by rw[ac qo];congr 1;omega) (fin 1 rfl (bl ?_));exact bc (x:=(i,j,g,ys)) (i-j,j,g',kV (m-i) m j ys) sb I I ⟨ax,hj,ax,hjl,by dsimp only;rw[pA];exact hlen,by rw[<-hlen];exact o2,by dsimp only;rw[Lu him hj qo qo];exact hr⟩ (by (try dsimp only);omega)
  refine ac9 (ar 3 I (v':=.int .i64 (m-i:Nat)) (by rw[ac qo];congr 1;omega) (ar 2 rfl (v':=.int .i64 (m+j:Nat)) (ac qo) (ar 1 rfl (v':=.int .i64 (m+j-i:Nat)) (by rw[ac qo];congr 1;omega) (cl 2 rfl (by rw[<-hlen];exact wu g ao cap ys (m-i) (m+j-i) i aX o' qo qo qo) ?_))));rintro v46 K46 hs46 ⟨rfl,rfl,g',rfl,o2⟩;refine au ?_;refine ar 2 I (v':=.int .i64 (j-i:Nat)) (by rw[ac qo];congr 1;omega) (fin 1 rfl (bl ?_));exact bc (x:=(i,j,g,ys)) (i,j-i,g',kV (m-i) (m+j-i) i ys) sb I I ⟨hi,ax,him,ax,by dsimp only;rw[pA];exact hlen,by rw[<-hlen];exact o2,by dsimp only;rw[Lv him hi qo qo];exact hr⟩ (by (try dsimp only);omega)
 refine au ?_;have hij:i=j:=qo
 subst hij;refine ar 3 I (v':=.int .i64 (m-i:Nat)) (by rw[ac qo];congr 1;omega) (cl 3 rfl (by rw[<-hlen];exact wu g ao cap ys (m-i) m i aX o' qo qo qo) ?_);rintro v57 K57 hs57 ⟨rfl,rfl,g',rfl,o2⟩;refine fin 0 I ?_;exact gW I ⟨I,I,g',I,by rw[<-hr,<-Lx him qo,<-hlen];exact o2⟩
end
section
theorem Fi:∀ (x y:List UInt8),decide (Lib.compareBytes x y<0)=Op.bytesLess x y
 | [],[]=>rfl
 | [],_::_=>rfl
 | _::_,[]=>rfl
 | a::x,b::y=>by
  rw[pD];unfold Lib.compareBytes
  by_cases h:a<b
  ·simp[h]
  by_cases g:b<a
  ·have:a≠b:=fun e=>by subst e;exact UInt8.lt_irrefl _ g
   simp[h,g,this]
  have e:a=b:=by
   apply UInt8.toNat_inj.1
   rw[acJ] at h g;omega
  subst e;simp only[h,if_false];rw[Fi x y]
  simp
def lW(a b:az):Int:=Lib.compareBytes a.word b.word
theorem sE(a b:az):lW a b<0↔bA a b=true:=by
 have:=Fi a.word b.word;unfold lW bA;rw[<-this,decide_eq_true_eq]
theorem uf{a b:az}(h:¬lW a b<0):bA a b=false:=by
 cases g:bA a b with
 | false=>rfl
 | true=>exact absurd ((sE a b).2 g) h
attribute [local irreducible] Code.wp wpList Calls
def PD(x y:List UInt8):
  aj w0 217 [str x,str y] K hs (fun v K' hs'=>K'=K/\hs'=hs/\v=.int .i64 (Lib.compareBytes x y)):=by
 refine bH Tryz.func217 ?_;refine clx 2 I Tryz.func227 I I qk (e:=Extern.BytealgCompare.compare) qk (v:=.int .i64 (Lib.compareBytes x y)) (fun w hw=>Lib.run_compareString ⟨x.toArray⟩ ⟨y.toArray⟩ w) (au ?_);exact ay I I ⟨I,I,I⟩
def QW(x y:List UInt8):
  aj w0 191 [str x,str y] K hs (fun v K' hs'=>K'=K/\hs'=hs/\v=.int .i64 (Lib.compareBytes x y)):=by
 refine bH Tryz.func191 ?_;refine cl 2 I (PD x y) ?_;rintro v7 K7 hs7 ⟨rfl,rfl,rfl⟩;refine au ?_;exact ay I I ⟨I,I,I⟩
def ju:Value:=.func (.func 190) #[] #[]
def u6(x y:az):
  aj w0 190 [.agg (bK x).toArray,.agg (bK y).toArray] K hs (fun v K' hs'=>K'=K/\hs'=hs/\v=.int .i64 (lW x y)):=by
 refine dj Tryz.func190 ?_;refine ac9 (bx 0 I fun b2=>bx 0 I fun b3=>WL.hs (pt b3 #[str y.word,.int .i64 y.w] 127::pt b2 #[str x.word,.int .i64 x.w] 127::hs) I (fin 1 I (ac6 (bE 1 1 I I I (bE 1 0 I I I (WL.drop (WL.drop (cl 0 I (QW x.word y.word) ?_))))))));rintro v9 K9 hs9 ⟨rfl,rfl,rfl⟩;refine au ?_;exact ay I I ⟨I,I,I⟩
end
section
def dD.cut{α:Type}{lt:α->α->Bool}{a b c d:Nat}{xs:List α}(h:dD lt a b xs)(h1:a<=c)(h2:d<=b):dD lt c d xs:=fun i j x y i1 ij j1 hx hy=>h i j x y qo ij qo hx hy
inductive iM {α:Type} (lt:α->α->Bool) (n e:Nat) (xs:List α):Nat->Prop
 | fin {a:Nat}:e<=a->iM lt n e xs a
 | more {a:Nat}:dD lt a (min (a+n) e) xs->iM lt n e xs (a+n)->iM lt n e xs a
inductive kB {α:Type} (lt:α->α->Bool) (n:Nat) (xs:List α):Nat->Prop
 | zero:kB lt n xs 0
 | more {a:Nat}:kB lt n xs a->dD lt a (a+n) xs->kB lt n xs (a+n)
def kB.blk{α:Type}{lt:α->α->Bool}{n e a:Nat}{xs:List α}(h:kB lt n xs a):iM lt n e xs a->iM lt n e xs 0:=by
 induction h with
 | zero=>exact id
 | more h hs ih=>exact fun g=>ih (.more (hs.cut (aac _) (Nat.min_le_left _ _)) g)
def iM.seg{α:Type}{lt:α->α->Bool}{n e c a b:Nat}{xs ys:List α}(h:iM lt n e xs c)(g:dJ lt a b xs ys):b<=c->iM lt n e ys c:=by
 induction h with
 | fin h=>exact fun _=>.fin h
 | more h h2 ih=>exact fun hb=>.more (h.same fun p p1 p2=>g.out (.inr qo)) (ih qo)
def kB.seg{α:Type}{lt:α->α->Bool}{n c a b:Nat}{xs ys:List α}(h:kB lt n xs c)(g:dJ lt a b xs ys):c<=a->kB lt n ys c:=by
 induction h with
 | zero=>exact fun _=>.zero
 | more h h2 ih=>exact fun hb=>.more (ih qo) (h2.same fun p p1 p2=>g.out (.inl qo))
def kB.step{α:Type}{lt:α->α->Bool}{n a:Nat}{xs ys:List α}(h:kB lt n xs a)(g:dJ lt a (a+n) xs ys)(s:dD lt a (a+n) ys):kB lt n ys (a+n):=
 .more (h.seg g (aac _)) s
def kB.last{α:Type}{lt:α->α->Bool}{n a e:Nat}{xs ys:List α}(h:kB lt n xs a)(g:dJ lt a e xs ys)(s:dD lt a e ys)(hn:e<=a+n):iM lt n e ys 0:=
 (h.seg g (aac _)).blk (.more (s.cut (aac _) (Nat.min_le_right _ _)) (.fin hn))
def iM.two{α:Type}{lt:α->α->Bool}{n e a:Nat}{xs:List α}(h:iM lt n e xs a)(hn:0<n)(hb:a+n<e):dD lt a (a+n) xs/\dD lt (a+n) (min (a+n+n) e) xs/\iM lt n e xs (a+n+n):=by
 cases h with
 | fin h=>omega
 | more h h2=>
  cases h2 with
  | fin h2=>omega
  | more h2 h3=>grind
def iM.one{α:Type}{lt:α->α->Bool}{n e a:Nat}{xs:List α}(h:iM lt n e xs a)(hb:e<=a+n):dD lt a e xs:=by
 cases h with
 | fin h=>exact fun i j x y i1 ij j1=>by omega
 | more h h2=>exact h.cut (aac _) qo
structure ly {α:Type} (lt:α->α->Bool) (n e a:Nat) (xs:List α):Prop where
 up:kB lt (2*n) xs a
 on:iM lt n e xs a
theorem ly.zero{α:Type}{lt:α->α->Bool}{n e:Nat}{xs:List α}(h:iM lt n e xs 0):ly lt n e 0 xs:=⟨.zero,h⟩
theorem ly.step{α:Type}{lt:α->α->Bool}{n e a:Nat}{xs ys:List α}(h:ly lt n e a xs)(hn:0<n)(hb:a+2*n<=e)(g:dJ lt a (a+2*n) xs ys)(s:dD lt a (a+2*n) ys):ly lt n e (a+2*n) ys:=by
 have e2:a+2*n=a+n+n:=qo
 refine ⟨h.up.step g s,?_⟩;have:=(h.on.two hn qo).2.2;rw[<-e2] at this;exact this.seg g (aac _)
def ly.parts{α:Type}{lt:α->α->Bool}{n e a:Nat}{xs:List α}(h:ly lt n e a xs)(hn:0<n)(hb:a+n<e):dD lt a (a+n) xs/\dD lt (a+n) (min (a+2*n) e) xs:=by
 have g:=h.on.two hn hb
 grind
theorem ly.last{α:Type}{lt:α->α->Bool}{n e a:Nat}{xs ys:List α}(h:ly lt n e a xs)(hb:e<=a+2*n)(g:dJ lt a e xs ys)(s:dD lt a e ys):iM lt (2*n) e ys 0:=h.up.last g s hb
def ly.rest{α:Type}{lt:α->α->Bool}{n e a:Nat}{xs:List α}(h:ly lt n e a xs)(hb:e<=a+n):iM lt (2*n) e xs 0:=
 h.last qo (dJ.refl lt a e xs) (h.on.one hb)
def iM.all{α:Type}{lt:α->α->Bool}{n e:Nat}{xs:List α}(h:iM lt n e xs 0)(hb:e<=n):dD lt 0 e xs:=h.one qo
end
section
attribute [local irreducible] Code.wp wpList Calls
def Qy(g:PH)(ao:Option Addr)(cap:Nat)(xs:List az)(a b:Nat)(hx:bN 2 127 cC g ao (ba xs) cap xs)(h1:a<=b)(h2:b<=ba xs)(hl:ba xs<=1048576):
  aj w0 225 [.slice ao (ba xs) cap,.int .i64 (a:Nat),.int .i64 (b:Nat),ju] K (g::hs)
  (fun v K' hs'=>K'=K/\v=.tuple #[]/\∃ g' ys,hs'=g'::hs/\bN 2 127 cC g' ao (ba xs) cap ys/\dJ bA a b xs ys/\dD bA a b ys):=by
 refine dj Tryz.func225 ?_;refine ac9 (ar 1 I (v':=.int .i64 (a+1:Nat)) (ac qo) (au ?_))
 refine loop (σ:=Nat×PH×List az) (fun x=>[(0,.slice ao (ba xs) cap),(1,.int .i64 (a:Nat)),(2,.int .i64 (b:Nat)),(3,ju),(8,.int .i64 x.1)]) (fun _=>K) (fun x=>x.2.1::hs)
  (fun x=>a+1<=x.1/\(x.1<=b\/x.1=a+1)/\bN 2 127 cC x.2.1 ao (ba xs) cap x.2.2/\dJ bA a b xs x.2.2/\dD bA a x.1 x.2.2) (fun x=>b-x.1) (a+1,g,xs)
  ⟨aac _,.inr rfl,hx,dJ.refl _ _ _ _,fun i j x y i1 i2 i3=>by omega⟩ ⟨rfl,rfl,rfl,rfl,rfl,trivial⟩ rfl rfl ?_
 rintro ⟨i,g,ys⟩ ⟨hi,hib,o,sg,st⟩;dsimp only at *;have hlen:=sg.len;refine sq (ac9 (af 2 I fun b14 h14=>fin 0 I (th (ah h14 I (fun e2=>?_) (fun e2=>?_)))))
 ·refine au ?_;obtain ⟨z,hz⟩:∃ z,ys[i]?=some z:=⟨_,aae qo⟩
  refine loop (σ:=Nat×PH×List az) (fun x=>[(0,.slice ao (ba xs) cap),(1,.int .i64 (a:Nat)),(2,.int .i64 (b:Nat)),(3,ju),(8,.int .i64 (i:Nat)),(9,.int .i64 x.1)]) (fun _=>K) (fun x=>x.2.1::hs)
   (fun x=>a<=x.1/\x.1<=i/\bN 2 127 cC x.2.1 ao (ba xs) cap x.2.2/\x.2.2=dP x.1 i (i+1) ys/\(x.1<i->∀ x' y,ys[x.1]?=some x'->ys[i]?=some y->bA y x'=true)) (fun x=>x.1) (i,g,ys)
   ⟨qo,aac _,o,(rZ (aaN _) (show i+1<=ba ys by omega)).1.symm,fun h=>absurd h (abB _)⟩ ⟨rfl,rfl,rfl,rfl,rfl,rfl,trivial⟩ rfl rfl ?_
  rintro ⟨j,g1,zs⟩ ⟨hj,hji,o,hzs,hR⟩;dsimp only at *;have hzl:ba zs=ba xs:=by grind [r9]
  have hzj:zs[j]?=some z:=by rw[hzs,qw hji qo qo (aac _) qo,ab8];exact hz
  have xS:=o.slS
  have done:(a<j->∀ x y,ys[j-1]?=some x->ys[i]?=some y->bA y x=false)->dJ bA a b xs zs/\dD bA a (i+1) zs:=fun hL=>by
   have:=GK iW hj hji qo st hR hL;rw[<-hzs] at this;exact ⟨sg.trans (this.1.wide (aac _) qo),this.2⟩
  by_cases haj:a<j
  ·obtain ⟨y,hyi⟩:∃ y,zs[j-1]?=some y:=⟨_,aae qo⟩;have hyy:ys[j-1]?=some y:=by grind [qt]
   obtain ⟨gb,off,cur,rfl,rfl,hcs,hcap,hset⟩:=o.pts (show 0<ba xs by omega);obtain ⟨vs,xv⟩:=xS.isS;obtain ⟨cx,hcx,hcxl,hcxc⟩:=xS.cells hzj;obtain ⟨cy,hcy,hcyl,hcyc⟩:=xS.cells hyi;obtain rfl:=hcx;obtain rfl:=hcy;refine sq (sq (bI [pt gb cur 127] 17 [0,2,4,6,8,10,12,14,16,18,20,22,24,26,29,30,32] ST qk qk (gD qk 2 (a<j) I ST (fun h3=>bh qk 4 j I I qo (ip qk 0 (bK z) I qk qk (.inr ⟨0,I⟩) hcxc (bQ qk 2 I (v':=.int .i64 (j-1:Nat)) (by rw[ac qo];congr 1;omega) (bh qk 0 (j-1) rfl rfl qo (ip qk 0 (bK y) rfl qk qk (.inr ⟨0,rfl⟩) hcyc (au ?_)))))) (fun h3=>absurd haj h3))));refine cl 0 I (u6 z y) ?_;rintro v32 K32 hs32 ⟨rfl,rfl,rfl⟩;refine di (.inr ⟨I,I⟩) (gE qk 0 (lW z y<0) I ST fun b33 h33=>au ?_)
   refine ah h33 I (fun e4=>?_) (fun e4=>?_)
   ·obtain ⟨k,rfl⟩:∃ k,j=k+1:=⟨j-1,qo⟩;have o2:=hset (k+1) (bK y) y qo rfl rfl;obtain ⟨gb2,off2,cur2,hao,hm2,hcs2,hcap2,hset2⟩:=o2.pts (show 0<ba xs by omega);cases hao;obtain rfl:=sI hm2;have o3:=hset2 (k+1-1) (bK z) z qo rfl rfl;refine sk (th (sq (bk (bI [pt gb cur 127] 15 [0,2,4,6,8,10,12,14,16,18,20,22,24,26,28,31,32,35] ST qk qk (bQ qk 4 I (v':=.int .i64 (k+1-1:Nat)) (by rw[ac qo];simp) (bQ qk 2 rfl (v':=.int .i64 (k+1-1:Nat)) (by rw[ac qo];simp) (bh qk 0 (k+1-1) rfl rfl qo (ip qk 0 (bK y) rfl qk qk (.inr ⟨0,rfl⟩) hcyc (bh qk 2 (k+1) rfl rfl qo (ip qk 0 (bK z) rfl qk qk (.inr ⟨0,rfl⟩) hcxc (bh qk 0 (k+1) rfl rfl qo ?_)))))))))))
    simp only[bz];refine aG qk 0 I (sts 0 0 I I qk (by simp[bK];omega) (fun v hv=>by simp[bK] at hv;rcases hv with rfl|rfl <;> rfl) (au ?_));refine bh qk 0 (k+1-1) I I qo ?_;simp only[bz];refine aG qk 0 I (sts 0 0 I I qk (by simp[bK];omega) (fun v hv=>by simp[bK] at hv;rcases hv with rfl|rfl <;> rfl) (au ?_));refine ar 1 I (v':=.int .i64 (k:Nat)) (by rw[ac qo];simp) (fin 1 rfl (bc (x:=(k+1,pt gb cur 127,zs)) (k,_,l8 (k+1) k zs) ⟨rfl,rfl,rfl,rfl,rfl,rfl,trivial⟩ rfl rfl ⟨ax,qo,?_,?_,?_⟩ (by (try dsimp only);omega)))
    ·dsimp only;rw[uz hzj (show zs[k]?=some y from hyi)];exact o3
    all_goals grind [C4,sE]
   refine au ?_;obtain ⟨d1,d2⟩:=done (fun _ x y' hx hy'=>by simp_all [uf]);exact ar 1 I (v':=.int .i64 (i+1:Nat)) (ac qo) (fin 1 I (bc (x:=(i,g,ys)) (i+1,pt gb cur 127,zs) sb I I ⟨qo,.inl ax,o,d1,d2⟩ (by (try dsimp only);omega)))
  refine sq (sq (bI [] 17 [0,2,4,6,8,10,12,14,16,18,20,22,24,26,28,30,32] ST qk qk (gD qk 2 (a<j) I ST (fun h3=>absurd h3 haj) (fun h3=>au ?_))));obtain ⟨d1,d2⟩:=done (fun h=>absurd h haj);exact ar 1 I (v':=.int .i64 (i+1:Nat)) (ac qo) (fin 1 I (bc (x:=(i,g,ys)) (i+1,g1,zs) sb I I ⟨ax,.inl qo,o,d1,d2⟩ (by (try dsimp only);omega)))
 exact ex<|xt (xt<|xb (gW I ⟨I,I,g,ys,I,o,sg,dD.cut st (aac _) qo⟩))
end
section
def uj(m:Nat):Value.int .u64 ((m:Int).fdiv (2 ^ (min (1:Int).toNat IntKind.u64.bits)))=.int .u64 (m / 2:Nat):=by
 have:min (1:Int).toNat IntKind.u64.bits=1:=by decide
 grind
attribute [local irreducible] Code.wp wpList Calls
set_option maxHeartbeats 1000000 in
theorem G6:∀ (z:Nat) {w0:World} {K:PH} {hs:List PH} (g:PH) (ao:Option Addr) (cap ln:Nat) (xs:List az) (a m b:Nat) (hln:ba xs=ln) (hx:bN 2 127 cC g ao ln cap xs) (h1:a<m) (h2:m<b) (h3:b<=ln) (hl:ln<=1048576) (hz:b-a<=z) (l1:dD bA a m xs) (l2:dD bA m b xs),
  aj w0 226 [.slice ao ln cap,.int .i64 (a:Nat),.int .i64 (m:Nat),.int .i64 (b:Nat),ju] K (g::hs)
  (fun v K' hs'=>K'=K/\v=.tuple #[]/\∃ g' ys,hs'=g'::hs/\bN 2 127 cC g' ao ln cap ys/\dJ bA a b xs ys/\dD bA a b ys):=by
 intro z
 induction z with
 | zero=>intro w0 K hs g ao cap ln xs a m b hln hx h1 h2 h3 hl hz l1 l2;omega
 | succ z ih=>
 intro w0 K hs g ao cap ln xs a m b hln hx h1 h2 h3 hl hz l1 l2;refine dj Tryz.func226 ?_;refine sq (ac9 (ar 2 I (v':=.int .i64 (m-a:Nat)) (by rw[ac qo];congr 1;omega) (af 0 rfl fun b28 h28=>?_)));obtain ⟨gb,off,cur,rfl,rfl,hcs,hcap,hset⟩:=hx.pts (show 0<ln by omega);have xS:=hx.slS;refine fin 0 I (th (ah h28 I (fun e2=>?_) (fun e2=>?_)))
 ·obtain rfl:m=a+1:=qo
  obtain ⟨u,hu⟩:∃ u,xs[a]?=some u:=⟨_,aae qo⟩;obtain ⟨cu,hcu,hcul,hcuc⟩:=xS.cells hu;obtain rfl:=hcu;refine au ?_
  refine loop (σ:=Nat×Nat) (fun x=>[(0,.slice (some ⟨gb,off,none⟩) ln cap),(1,.int .i64 (a:Nat)),(4,ju),(10,.int .i64 x.1),(11,.int .i64 x.2)]) (fun _=>K) (fun x=>pt gb cur 127::hs)
   (fun x=>a+1<=x.1/\x.1<=x.2/\x.2<=b/\(a+1<x.1->∀ p q,xs[a]?=some p->xs[x.1-1]?=some q->bA q p=true)/\(x.2<b->∀ p q,xs[a]?=some p->xs[x.2]?=some q->bA q p=false)) (fun x=>x.2-x.1) (a+1,b)
   ⟨aac _,qo,aac _,fun h=>absurd h (abB _),fun h=>absurd h (abB _)⟩ ⟨rfl,rfl,rfl,rfl,rfl,trivial⟩ rfl rfl ?_
  rintro ⟨i,j⟩ ⟨hi,hij,hjb,hL,hR⟩;dsimp only at *;refine sq (ac9 (af 2 I fun b33 h33=>fin 0 I (th (ah h33 I (fun e4=>?_) (fun e4=>?_)))))
  ·refine au ?_;refine ar 2 I (v':=.int .i64 (i+j:Nat)) (ac qo) (ar 0 I (cJ qo) (ar 0 I (uj _) (ar 0 I (ac qo) ?_)));obtain ⟨h,hh⟩:=bC ((i+j) / 2);rw[<-hh];obtain ⟨v,hv⟩:∃ v,xs[h]?=some v:=⟨_,aae qo⟩;obtain ⟨cv,hcv,hcvl,hcvc⟩:=xS.cells hv;obtain rfl:=hcv;refine au ?_;refine bI [pt gb cur 127] 11 [0,2,4,6,8,10,12,14,16,19,20] ST qk qk (bh qk 3 h I I qo (ip qk 0 (bK v) I qk qk (.inr ⟨0,I⟩) hcvc (bh qk 2 a I I qo (ip qk 0 (bK u) I qk qk (.inr ⟨0,I⟩) hcuc (au ?_)))));refine cl 0 I (u6 v u) ?_;rintro v49 K49 hs49 ⟨rfl,rfl,rfl⟩;refine di (.inr ⟨I,I⟩) (gE qk 0 (lW v u<0) I ST fun b50 h50=>au ?_);refine ah h50 I (fun e5=>?_) (fun e5=>?_)
   ·refine rg (ar 1 I (v':=.int .i64 (h+1:Nat)) (ac qo) (fin 1 I (bl (bc (x:=(i,j)) (h+1,j) sb I I ⟨ax,qo,hjb,fun _ p q hp hq=>?_,hR⟩ (by (try dsimp only);omega)))))
    grind [sE]
   refine au ?_;refine bc (x:=(i,j)) (i,h) sb I I ⟨hi,ax,qo,hL,fun _ p q hp hq=>?_⟩ (by (try dsimp only);omega)
   grind [uf]
  refine ex (xt (xt (xb (ac5 ?_))));obtain rfl:i=j:=qo
  have fine:=Qo iW hi hjb qo l2 hL hR;refine fin 2 I (th (bk ?_))
  refine loop (σ:=Nat×PH×List az) (fun x=>[(0,.slice (some ⟨gb,off,none⟩) ln cap),(10,.int .i64 (i:Nat)),(13,.int .i64 x.1)]) (fun _=>K) (fun x=>x.2.1::hs)
   (fun x=>a<=x.1/\x.1+1<=i/\bN 2 127 cC x.2.1 (some ⟨gb,off,none⟩) ln cap x.2.2/\x.2.2=dP a (a+1) (x.1+1) xs) (fun x=>i-x.1) (a,pt gb cur 127,xs)
   ⟨aac _,hi,hx,(rZ (aaN _) (by show a+1<=ba xs;omega)).2.symm⟩ sb rfl rfl ?_
  rintro ⟨k,g1,zs⟩ ⟨hk,hki,o,hzs⟩;dsimp only at *;have hzl:ba zs=ln:=by grind [r9]
  refine sq (ac9 (ar 2 I (v':=.int .i64 (i-1:Nat)) (by rw[ac qo];congr 1;omega) (af 0 rfl fun b58 h58=>fin 0 rfl (th (ah h58 rfl (fun e7=>?_) (fun e7=>?_))))))
  ·have oS:=o.slS;obtain ⟨x,hxi⟩:∃ x,zs[k]?=some x:=⟨_,aae qo⟩;obtain ⟨y,hyi⟩:∃ y,zs[k+1]?=some y:=⟨_,aae qo⟩;obtain ⟨gb1,off1,cur1,hao1,rfl,hcs,hcap,hset⟩:=o.pts (show 0<ln by omega);cases hao1;obtain ⟨cx,hcx,hcxl,hcxc⟩:=oS.cells hxi;obtain ⟨cy,hcy,hcyl,hcyc⟩:=oS.cells hyi;obtain rfl:=hcx;obtain rfl:=hcy;have o2:=hset k (bK y) y qo rfl rfl;obtain ⟨gb2,off2,cur2,hao,hm2,hcs2,hcap2,hset2⟩:=o2.pts (show 0<ln by omega);cases hao;obtain rfl:=sI hm2;have o3:=hset2 (k+1) (bK x) x qo rfl rfl;refine sk (th (sq (bk (bI [pt gb cur1 127] 15 [0,2,4,6,8,10,12,14,16,18,20,22,24,26,28,31,32,35] ST qk qk (bQ qk 4 I (v':=.int .i64 (k+1:Nat)) (ac qo) (bQ qk 2 I (v':=.int .i64 (k+1:Nat)) (ac qo) (bh qk 0 (k+1) I I qo (ip qk 0 (bK y) I qk qk (.inr ⟨0,I⟩) hcyc (bh qk 2 k I I qo (ip qk 0 (bK x) I qk qk (.inr ⟨0,I⟩) hcxc (bh qk 0 k I I qo ?_)))))))))))
   simp only[bz];refine aG qk 0 I (sts 0 0 I I qk (by simp[bK];omega) (fun v hv=>by simp[bK] at hv;rcases hv with rfl|rfl <;> rfl) (di (.inl qk) (bh qk 0 (k+1) rfl rfl qo ?_)));simp only[bz];refine aG qk 0 I (sts 0 0 I I qk (by simp[bK];omega) (fun v hv=>by simp[bK] at hv;rcases hv with rfl|rfl <;> rfl) (di (.inl qk) (be qk 0 rfl (ac7 (ar 1 rfl (v':=.int .i64 (k+1:Nat)) (ac qo) (fin 1 rfl (bc (x:=(k,pt gb cur1 127,zs)) (k+1,_,l8 k (k+1) zs) ⟨rfl,rfl,rfl,trivial⟩ rfl rfl ⟨ax,qo,?_,?_⟩ (by (try dsimp only);omega))))))))
   ·dsimp only;rw[uz hxi hyi];exact o3
   grind [OM]
  refine ex (xt (xt (xb (adb (rT ?_)))));obtain rfl:i=k+1:=qo
  rw[<-hzs] at fine;exact pO I ⟨I,I,g1,zs,I,o,fine⟩
 refine sk (ac5 (ar 2 I (v':=.int .i64 (b-m:Nat)) (by rw[ac qo];congr 1;omega) (af 0 rfl fun b80 h80=>fin 0 rfl (th (ah h80 rfl (fun e9=>?_) (fun e9=>?_))))))
 ·obtain rfl:b=m+1:=qo
  obtain ⟨u,hu⟩:∃ u,xs[m]?=some u:=⟨_,aae qo⟩;obtain ⟨cu,hcu,hcul,hcuc⟩:=xS.cells hu;obtain rfl:=hcu;refine ac9 (fin 2 I (ac6 (fin 2 I (th (sq (bk ?_))))))
  refine loop (σ:=Nat×Nat) (fun x=>[(0,.slice (some ⟨gb,off,none⟩) ln cap),(2,.int .i64 (m:Nat)),(4,ju),(14,.int .i64 x.1),(15,.int .i64 x.2)]) (fun _=>K) (fun x=>pt gb cur 127::hs)
   (fun x=>a<=x.1/\x.1<=x.2/\x.2<=m/\(a<x.1->∀ p q,xs[x.1-1]?=some p->xs[m]?=some q->bA q p=false)/\(x.2<m->∀ p q,xs[x.2]?=some p->xs[m]?=some q->bA q p=true)) (fun x=>x.2-x.1) (a,m)
   ⟨aac _,qo,aac _,fun h=>absurd h (abB _),fun h=>absurd h (abB _)⟩ ⟨rfl,rfl,rfl,rfl,rfl,trivial⟩ rfl rfl ?_
  rintro ⟨i,j⟩ ⟨hi,hij,hjb,hL,hR⟩;dsimp only at *;refine sq (ac9 (af 2 I fun b85 h85=>fin 0 I (th (ah h85 I (fun e11=>?_) (fun e11=>?_)))))
  ·refine sk (th (bk (ac9 (ar 2 I (v':=.int .i64 (i+j:Nat)) (ac qo) (ar 0 I (cJ qo) (ar 0 I (uj _) (ar 0 I (ac qo) ?_)))))));obtain ⟨h,hh⟩:=bC ((i+j) / 2);rw[<-hh];obtain ⟨v,hv⟩:∃ v,xs[h]?=some v:=⟨_,aae qo⟩;obtain ⟨cv,hcv,hcvl,hcvc⟩:=xS.cells hv;obtain rfl:=hcv;refine fin 1 I (th (sq (bI [pt gb cur 127] 12 [0,2,4,6,8,10,12,14,16,19,20,22] ST qk qk (bh qk 3 m I I qo (ip qk 0 (bK u) I qk qk (.inr ⟨0,I⟩) hcuc (bh qk 2 h I I qo (ip qk 0 (bK v) I qk qk (.inr ⟨0,I⟩) hcvc (aG qk 0 I (cl 0 I (u6 u v) ?_)))))))));rintro v101 K101 hs101 ⟨rfl,rfl,rfl⟩;refine di (.inr ⟨I,I⟩) (gE qk 0 (lW u v<0) I ST fun b102 h102=>be qk 1 I (th (nt I (fun h12=>?_) (fun h12=>?_))))
   ·have e5:¬lW u v<0:=fun e=>by rw[h102.2 e] at h12;simp at h12
    refine rg (ar 1 I (v':=.int .i64 (h+1:Nat)) (ac qo) (fin 1 I (bl (bc (x:=(i,j)) (h+1,j) sb I I ⟨ax,qo,hjb,fun _ p q hp hq=>?_,hR⟩ (by (try dsimp only);omega)))))
    grind [uf]
   have e5:lW u v<0:=h102.1 (by cases b102 <;> simp_all);refine rg (fin 2 I (bl (bc (x:=(i,j)) (i,h) sb I I ⟨hi,qo,ax,hL,fun _ p q hp hq=>?_⟩ (by (try dsimp only);omega))))
   grind [sE]
  refine ex (xt (xt (xb (ac5 ?_))));obtain rfl:i=j:=qo
  have fine:=GK iW hi hjb qo l1 hR hL;refine fin 2 I (th (bk ?_))
  refine loop (σ:=Nat×PH×List az) (fun x=>[(0,.slice (some ⟨gb,off,none⟩) ln cap),(14,.int .i64 (i:Nat)),(17,.int .i64 x.1)]) (fun _=>K) (fun x=>x.2.1::hs)
   (fun x=>i<=x.1/\x.1<=m/\bN 2 127 cC x.2.1 (some ⟨gb,off,none⟩) ln cap x.2.2/\x.2.2=dP x.1 m (m+1) xs) (fun x=>x.1) (m,pt gb cur 127,xs)
   ⟨hjb,aac _,hx,(rZ (aaN _) (by show m+1<=ba xs;omega)).1.symm⟩ sb rfl rfl ?_
  rintro ⟨k',g1,zs⟩ ⟨hk,hki,o,hzs⟩;dsimp only at *;have hzl:ba zs=ln:=by simp_all [r9]
  refine sq<|ac9 (af 2 I fun b110 h110=>fin 0 I<|th (ah h110 I (fun e14=>?_) (fun e14=>?_)))
  ·obtain ⟨k,rfl⟩:∃ k,k'=k+1:=⟨k'-1,qo⟩;have oS:=o.slS;obtain ⟨x,hxi⟩:∃ x,zs[k+1]?=some x:=⟨_,aae qo⟩;obtain ⟨y,hyi⟩:∃ y,zs[k]?=some y:=⟨_,aae qo⟩;obtain ⟨gb1,off1,cur1,hao1,rfl,hcs,hcap,hset⟩:=o.pts (show 0<ln by omega);cases hao1;obtain ⟨cx,hcx,hcxl,hcxc⟩:=oS.cells hxi;obtain ⟨cy,hcy,hcyl,hcyc⟩:=oS.cells hyi;obtain rfl:=hcx;obtain rfl:=hcy;have o2:=hset (k+1) (bK y) y qo rfl rfl;obtain ⟨gb2,off2,cur2,hao,hm2,hcs2,hcap2,hset2⟩:=o2.pts (show 0<ln by omega);cases hao;obtain rfl:=sI hm2;have o3:=hset2 k (bK x) x qo rfl rfl;refine sk (th (sq (bk (bI [pt gb cur1 127] 15 [0,2,4,6,8,10,12,14,16,18,20,22,24,26,28,31,32,35] ST qk qk (bQ qk 4 I (v':=.int .i64 (k:Nat)) (by rw[ac qo];simp) (bQ qk 2 rfl (v':=.int .i64 (k:Nat)) (by rw[ac qo];simp) (bh qk 0 k rfl rfl qo (ip qk 0 (bK y) rfl qk qk (.inr ⟨0,rfl⟩) hcyc (bh qk 2 (k+1) rfl rfl qo (ip qk 0 (bK x) rfl qk qk (.inr ⟨0,rfl⟩) hcxc (bh qk 0 (k+1) rfl rfl qo ?_)))))))))))
   simp only[bz];refine aG qk 0 I (sts 0 0 I I qk (by simp[bK];omega) (fun v hv=>by simp[bK] at hv;rcases hv with rfl|rfl <;> rfl) (di (.inl qk) (bh qk 0 k rfl rfl qo ?_)));simp only[bz];refine aG qk 0 I (sts 0 0 I I qk (by simp[bK];omega) (fun v hv=>by simp[bK] at hv;rcases hv with rfl|rfl <;> rfl) (di (.inl qk) (be qk 0 rfl (ac7 (ar 1 rfl (v':=.int .i64 (k:Nat)) (by rw[ac qo];simp) (fin 1 rfl (bc (x:=(k+1,pt gb cur1 127,zs)) (k,_,l8 (k+1) k zs) ⟨rfl,rfl,rfl,trivial⟩ rfl rfl ⟨ax,ax,?_,?_⟩ qo)))))))
   ·dsimp only;rw[uz hxi hyi];exact o3
   grind [C4]
  refine ex (xt (xt (xb (adb (rT ?_)))));obtain rfl:i=k':=qo
  rw[<-hzs] at fine;exact pO I ⟨I,I,g1,zs,I,o,fine⟩
 refine sk (ac6 (ar 2 I (v':=.int .i64 (a+b:Nat)) (ac qo) (ar 0 I (cJ qo) (ar 0 I (uj _) (ar 0 I (ac qo) ?_)))));obtain ⟨mid,hmid⟩:=bC ((a+b) / 2);rw[<-hmid];refine fin 1 I (ac6 (ar 2 I (v':=.int .i64 (mid+m:Nat)) (ac qo) (fin 1 I (ac6 ?_))));obtain ⟨s0,hs0⟩:=bC (if mid<m then mid+m-b else a);obtain ⟨r0,hr0⟩:=bC (if mid<m then mid else m);have hb1:a<=s0/\s0<=r0/\r0<=m/\mid+m<=b+s0/\r0<=mid:=by rw[hs0,hr0];split <;> omega
 refine fin 2 I<|th (jn (σ:=Nat×Nat) (fun s=>[(0,.slice (some ⟨gb,off,none⟩) ln cap),(1,.int .i64 (a:Nat)),(2,.int .i64 (m:Nat)),(3,.int .i64 (b:Nat)),(4,ju),(18,.int .i64 (mid:Nat)),(19,.int .i64 (mid+m:Nat)),(20,.int .i64 s.1),(21,.int .i64 s.2)]) (fun s=>pt gb cur 127::hs) (fun s=>s.1=s0/\s.2=r0) ?_ ?_)
 ·refine ac9 (af 2 I fun b140 h140=>fin 0 I<|th (ah h140 I (fun e16=>?_) (fun e16=>?_)))
  ·refine ac9 (ar 2 I (v':=.int .i64 (mid+m-b:Nat)) (by rw[ac qo];congr 1;omega) (fin 1 rfl (ac8 (fin 2 rfl ?_))));exact jx (mid+m-b,mid) ⟨by rw[hs0,aab qo],by rw[hr0,aab qo]⟩ sb I I
  refine ac9 (fin 2 I (ac8 (fin 2 I ?_)));exact jx (a,m) ⟨by rw[hs0,aaa qo],by rw[hr0,aaa qo]⟩ sb I I
 rintro ⟨s,r⟩ ⟨e1,e2⟩;dsimp only at *;subst e1;subst e2;refine ac9 (ar 1 I (v':=.int .i64 (mid+m-1:Nat)) (by rw[ac qo];congr 1;omega) (fin 1 rfl (th (sq (bk ?_)))))
 refine loop (σ:=Nat×Nat) (fun x=>[(0,.slice (some ⟨gb,off,none⟩) ln cap),(1,.int .i64 (a:Nat)),(2,.int .i64 (m:Nat)),(3,.int .i64 (b:Nat)),(4,ju),(18,.int .i64 (mid:Nat)),(19,.int .i64 (mid+m:Nat)),(20,.int .i64 x.1),(21,.int .i64 x.2),(22,.int .i64 (mid+m-1:Nat))]) (fun _=>K) (fun x=>pt gb cur 127::hs)
  (fun x=>s<=x.1/\x.1<=x.2/\x.2<=r/\(s<x.1->∀ p q,xs[x.1-1]?=some p->xs[mid+m-x.1]?=some q->bA q p=false)/\(x.2<r->∀ p q,xs[x.2]?=some p->xs[mid+m-1-x.2]?=some q->bA q p=true)) (fun x=>x.2-x.1) (s,r)
  ⟨aac _,qo,aac _,fun h=>absurd h (abB _),fun h=>absurd h (abB _)⟩ ⟨rfl,rfl,rfl,rfl,rfl,rfl,rfl,rfl,rfl,rfl,trivial⟩ rfl rfl ?_
 rintro ⟨i,j⟩ ⟨hi,hij,hjb,hL,hR⟩;dsimp only at *;refine sq (ac9 (af 2 I fun b151 h151=>fin 0 I (th (ah h151 I (fun e18=>?_) (fun e18=>?_)))))
 ·refine sk (th (bk (ac9 (ar 2 I (v':=.int .i64 (i+j:Nat)) (ac qo) (ar 0 I (cJ qo) (ar 0 I (uj _) (ar 0 I (ac qo) ?_)))))));obtain ⟨h,hh⟩:=bC ((i+j) / 2);rw[<-hh];obtain ⟨v,hv⟩:∃ v,xs[h]?=some v:=⟨_,aae qo⟩;obtain ⟨cv,hcv,hcvl,hcvc⟩:=xS.cells hv;obtain rfl:=hcv;obtain ⟨u,hu⟩:∃ u,xs[mid+m-1-h]?=some u:=⟨_,aae qo⟩;obtain ⟨cu,hcu,hcul,hcuc⟩:=xS.cells hu;obtain rfl:=hcu;refine fin 1 I (th (sq (bI [pt gb cur 127] 14 [0,2,4,6,8,10,12,14,16,18,20,23,24,26] ST qk qk (bQ qk 4 I (v':=.int .i64 (mid+m-1-h:Nat)) (by rw[ac qo];congr 1;omega) (bh qk 0 (mid+m-1-h) rfl rfl qo (ip qk 0 (bK u) rfl qk qk (.inr ⟨0,rfl⟩) hcuc (bh qk 2 h rfl rfl qo (ip qk 0 (bK v) rfl qk qk (.inr ⟨0,rfl⟩) hcvc (aG qk 0 rfl (cl 0 rfl (u6 u v) ?_))))))))))
  rintro v169 K169 hs169 ⟨rfl,rfl,rfl⟩;refine di (.inr ⟨I,I⟩) (gE qk 0 (lW u v<0) I ST fun b170 h170=>be qk 1 I (th (nt I (fun h19=>?_) (fun h19=>?_))))
  ·have e5:¬lW u v<0:=fun e=>by rw[h170.2 e] at h19;simp at h19
   refine rg (ar 1 I (v':=.int .i64 (h+1:Nat)) (ac qo) (fin 1 I (bl (bc (x:=(i,j)) (h+1,j) sb I I ⟨ax,qo,hjb,fun _ p q hp hq=>?_,hR⟩ (by (try dsimp only);omega)))))
   grind [uf]
  have e5:lW u v<0:=h170.1 (by cases b170 <;> simp_all);refine rg (fin 2 I (bl (bc (x:=(i,j)) (i,h) sb I I ⟨hi,ax,qo,hL,fun _ p q hp hq=>?_⟩ (by (try dsimp only);omega))));rw[hu] at hq;rw[show xs[h]?=some p from hp] at hv;cases hq;cases hv;exact (sE _ _).1 e5
 refine ex (xt (xt (xb (ac6 ?_))));obtain rfl:i=j:=qo
 have hF:nN bA a m b i xs:=⟨h1,h2,qo,l1,l2,by rw[<-hmid,<-hs0];exact hi,by rw[<-hmid,<-hr0];exact hjb,by rw[<-hmid,<-hs0];exact hL,by rw[<-hmid,<-hr0];exact hR⟩;have hbd:=hF.bds;obtain ⟨q1,q2,q3,q4,q5,q6⟩:=hF.rot iW;rw[<-hmid] at hbd q1 q2 q3 q4 q5 q6;obtain ⟨b1,b2,b3,b4,b5,b6,b7⟩:=hbd;refine ar 2 I (v':=.int .i64 (mid+m-i:Nat)) (by rw[ac qo];congr 1;omega) ?_;obtain ⟨e,he⟩:=bC (mid+m-i);rw[<-he] at q1 q2 q3 q4 q5 q6 b4 b5 b6 b7 ⊢;refine fin 1 I (th (jn (σ:=PH) (fun s=>[(0,.slice (some ⟨gb,off,none⟩) ln cap),(1,.int .i64 (a:Nat)),(3,.int .i64 (b:Nat)),(4,ju),(18,.int .i64 (mid:Nat)),(20,.int .i64 (i:Nat)),(24,.int .i64 (e:Nat))]) (fun s=>s::hs) (fun s=>bN 2 127 cC s (some ⟨gb,off,none⟩) ln cap (dP i m e xs)) ?_ ?_))
 ·refine ac9 (af 2 I fun b180 h180=>?_)
  refine' gu 1 4 185 [180,181] h180 I I I I I I I (fun _=>?x21) (fun b185 h185=>?_)
  case x21=>
   exact af 2 I fun b184 h184=>fin 1 I<|dk h184 I I I
  refine fin 0 I<|th (ah h185 I (fun e23=>?_) (fun e23=>?_))
  ·refine rg (cl 5 I (by rw[<-hln];exact No (pt gb cur 127) (some ⟨gb,off,none⟩) cap xs i m e ju (by rw[hln];exact hx) qo qo qo qo) ?_);rintro v191 K191 hs191 ⟨rfl,rfl,g',rfl,o2⟩;refine fin 0 I ?_;exact jx g' (by rw[<-hln];exact o2) sb I I
  refine sk<|jx (pt gb cur 127) ?_ sb I I
  by_cases hc:i=m
  ·subst hc;rw[(rZ b4 qo).1];exact hx
  obtain rfl:m=e:=qo
  rw[(rZ b2 qo).2];exact hx
 rintro g1 o1;have hl1:ba (dP i m e xs)=ln:=by rw[q1.len,hln]
 generalize dP i m e xs=y1 at *;refine jn (σ:=PH×List az) (fun s=>[(0,.slice (some ⟨gb,off,none⟩) ln cap),(3,.int .i64 (b:Nat)),(4,ju),(18,.int .i64 (mid:Nat)),(24,.int .i64 (e:Nat))]) (fun s=>s.1::hs) (fun s=>bN 2 127 cC s.1 (some ⟨gb,off,none⟩) ln cap s.2/\dJ bA a mid y1 s.2/\dD bA a mid s.2) ?_ ?_
 ·refine ac9 (af 2 I fun b194 h194=>?_)
  refine' gu 1 4 199 [194,195] h194 I I I I I I I (fun _=>?x25) (fun b199 h199=>?_)
  case x25=>
   exact af 2 I fun b198 h198=>fin 1 I<|dk h198 I I I
  refine fin 0 I<|th (ah h199 I (fun e27=>?_) (fun e27=>?_))
  ·refine rg (cl 5 I (ih g1 (some ⟨gb,off,none⟩) cap ln y1 a i mid hl1 o1 qo qo qo hl qo q2 q3) ?_);rintro v205 K205 hs205 ⟨rfl,rfl,g',y2,rfl,o2,r1,r2⟩;exact fin 0 I (jx (g',y2) ⟨o2,r1,r2⟩ sb I I)
  refine sk<|jx (g1,y1) ⟨o1,dJ.refl _ _ _ _,?_⟩ ⟨I,I,I,I,I,trivial⟩ I I
  by_cases hc:a=i
  ·rw[hc];exact q3
  obtain rfl:i=mid:=qo
  exact q2
 rintro ⟨g2,y2⟩ ⟨o2,r1,r2⟩;dsimp only at *;have hl2:ba y2=ln:=by rw[r1.len,hl1]
 have out:∀ p,mid<=p->y2[p]?=y1[p]?:=fun p hp=>r1.out (.inr hp);have q4':dD bA mid e y2:=dD.same q4 fun p p1 p2=>out p p1;have q5':dD bA e b y2:=dD.same q5 fun p p1 p2=>out p qo;refine ac9 (af 2 I fun b208 h208=>?_)
 refine' gu 1 4 213 [208,209] h208 I I I I I I I (fun _=>?x29) (fun b213 h213=>?_)
 case x29=>
  exact af 2 I fun b212 h212=>fin 1 I<|dk h212 I I I
 refine fin 0 I<|th (ah h213 I (fun e31=>?_) (fun e31=>?_))
 ·refine rg (cl 5 I (ih g2 (some ⟨gb,off,none⟩) cap ln y2 mid e b hl2 o2 qo qo qo hl qo q4' q5') ?_);rintro v219 K219 hs219 ⟨rfl,rfl,g',y3,rfl,o3,r3,r4⟩;refine fin 0 I ?_;have:=DW iW q6 r1 r2 r3 r4 qo qo;exact gW I ⟨I,I,g',y3,I,o3,q1.trans this.1,this.2⟩
 refine sk ?_
 have r4:dD bA mid b y2:=by
  by_cases hc:mid=e
  ·rw[hc];exact q5'
  obtain rfl:e=b:=qo
  exact q4'
 have:=DW iW q6 r1 r2 (dJ.refl _ _ _ _) r4 qo qo;exact gW I ⟨I,I,g2,y2,I,o2,q1.trans this.1,this.2⟩
end
section
attribute [local irreducible] Code.wp wpList Calls
def F9(g:PH)(ao:Option Addr)(cap ln:Nat)(xs:List az)(a b:Nat)(hln:ba xs=ln)(hx:bN 2 127 cC g ao ln cap xs)(h1:a<=b)(h2:b<=ln)(hl:ln<=1048576):
  aj w0 225 [.slice ao ln cap,.int .i64 (a:Nat),.int .i64 (b:Nat),ju] K (g::hs)
  (fun v K' hs'=>K'=K/\v=.tuple #[]/\∃ g' ys,hs'=g'::hs/\bN 2 127 cC g' ao ln cap ys/\dJ bA a b xs ys/\dD bA a b ys):=by
 subst hln;exact Qy g ao cap xs a b hx h1 h2 hl
def M5(g:PH)(ao:Option Addr)(cap ln:Nat)(xs:List az)(hln:ba xs=ln)(hx:bN 2 127 cC g ao ln cap xs)(hl:ln<=1048576):
  aj w0 216 [.slice ao ln cap,.int .i64 (ln:Nat),ju] K (g::hs)
  (fun v K' hs'=>K'=K/\v=.tuple #[]/\∃ g' ys,hs'=g'::hs/\bN 2 127 cC g' ao ln cap ys/\dJ bA 0 ln xs ys/\dD bA 0 ln ys):=by
 refine bH Tryz.func216 ?_
 refine loop (σ:=Nat×PH×List az) (fun x=>[(0,.slice ao ln cap),(1,.int .i64 (ln:Nat)),(2,ju),(6,.int .i64 (20:Nat)),(7,.int .i64 x.1),(8,.int .i64 (x.1+20:Nat))]) (fun _=>K) (fun x=>x.2.1::hs)
  (fun x=>x.1<=ln/\bN 2 127 cC x.2.1 ao ln cap x.2.2/\dJ bA 0 ln xs x.2.2/\kB bA 20 x.2.2 x.1) (fun x=>ln-x.1) (0,g,xs)
  ⟨aag _,hx,dJ.refl _ _ _ _,.zero⟩ ⟨rfl,rfl,rfl,rfl,rfl,rfl,trivial⟩ rfl rfl ?_
 rintro ⟨a,g,ys⟩ ⟨ha,o,sg,bu⟩;dsimp only at *;have hyl:ba ys=ln:=by rw[sg.len,hln]
 refine sq<|ac9<|aX 2 I (fun e2=>?_) (fun e2=>?_)
 ·refine au ?_;refine cl 4 I (F9 g ao cap ln ys a (a+20) hyl o qo qo hl) ?_;rintro v18 K18 hs18 ⟨rfl,rfl,g',zs,rfl,o2,s1,s2⟩;refine au ?_;exact ar 2 I (v':=.int .i64 (a+20+20:Nat)) (ac qo) (fin 1 I (bl (bc (x:=(a,g,ys)) (a+20,g',zs) ⟨I,I,I,I,I,I,trivial⟩ I I ⟨qo,o2,sg.trans (s1.wide (aag _) qo),bu.step s1 s2⟩ (by (try dsimp only);omega))))
 refine au ?_;refine cl 4 I (F9 g ao cap ln ys a ln hyl o qo qo hl) ?_;rintro v27 K27 hs27 ⟨rfl,rfl,g',zs,rfl,o2,s1,s2⟩;refine au ?_
 refine loop (σ:=Nat×PH×List az) (fun x=>[(0,.slice ao ln cap),(1,.int .i64 (ln:Nat)),(2,ju),(6,.int .i64 x.1)]) (fun _=>K27) (fun x=>x.2.1::hs)
  (fun x=>0<x.1/\x.1<=2097152/\bN 2 127 cC x.2.1 ao ln cap x.2.2/\dJ bA 0 ln xs x.2.2/\iM bA x.1 ln x.2.2 0) (fun x=>ln-x.1) (20,g',zs)
  ⟨show 0<20 by decide,show 20<=2097152 by decide,o2,sg.trans (s1.wide (aag _) qo),bu.last s1 s2 qo⟩ ⟨rfl,rfl,rfl,rfl,trivial⟩ rfl rfl ?_
 clear o2 s1 s2 bu sg hyl o;rintro ⟨bs,g,ys⟩ ⟨hb0,hbm,o,sg,bk0⟩;dsimp only at *;refine sq (ac9 (af 2 I fun b30 h30=>fin 0 I (th (ah h30 I (fun e4=>?_) (fun e4=>?_)))))
 ·refine au ?_;refine ar 1 I (v':=.int .i64 (0+2*bs:Nat)) (by rw[ac qo];simp) (au ?_)
  refine loop (σ:=Nat×PH×List az) (fun x=>[(0,.slice ao ln cap),(1,.int .i64 (ln:Nat)),(2,ju),(6,.int .i64 (bs:Nat)),(7,.int .i64 x.1),(8,.int .i64 (x.1+2*bs:Nat))]) (fun _=>K27) (fun x=>x.2.1::hs)
   (fun x=>x.1<=ln/\bN 2 127 cC x.2.1 ao ln cap x.2.2/\dJ bA 0 ln xs x.2.2/\ly bA bs ln x.1 x.2.2) (fun x=>ln-x.1) (0,g,ys)
   ⟨aag _,o,sg,ly.zero bk0⟩ ⟨rfl,rfl,rfl,rfl,rfl,rfl,trivial⟩ rfl rfl ?_
  clear o sg bk0;rintro ⟨a,g,zs⟩ ⟨ha,o,sg,rd⟩;dsimp only at *;have hyl:ba zs=ln:=by rw[sg.len,hln]
  refine sq<|ac9 (af 2 I fun b35 h35=>fin 0 I<|th (ah h35 I (fun e6=>?_) (fun e6=>?_)))
  ·refine au ?_;obtain ⟨p1,p2⟩:=rd.parts hb0 qo;rw[acm qo] at p2;refine ar 4 I (v':=.int .i64 (a+bs:Nat)) (ac qo) (cl 2 I (G6 (2*bs) g ao cap ln zs a (a+bs) (a+2*bs) hyl o qo qo qo hl qo p1 p2) ?_);rintro v43 K43 hs43 ⟨rfl,rfl,g2,y2,rfl,o2,s1,s2⟩;refine au ?_;exact ar 2 I (v':=.int .i64 (2*bs:Nat)) (ac qo) (ar 0 I (v':=.int .i64 (a+2*bs+2*bs:Nat)) (ac qo) (fin 1 I (bl (bc (x:=(a,g,zs)) (a+2*bs,g2,y2) sb I I ⟨ax,o2,sg.trans (s1.wide (aag _) qo),rd.step hb0 qo s1 s2⟩ qo))))
  refine ex<|xt (xt<|xb (th<|jn (σ:=PH×List az) (fun s=>[(0,.slice ao ln cap),(1,.int .i64 (ln:Nat)),(2,ju),(6,.int .i64 (bs:Nat))]) (fun s=>s.1::hs) (fun s=>bN 2 127 cC s.1 ao ln cap s.2/\dJ bA 0 ln xs s.2/\iM bA (2*bs) ln s.2 0) ?_ ?_))
  ·refine ac9 (ar 2 I (v':=.int .i64 (a+bs:Nat)) (ac qo) (au ?_));refine af 2 I fun b54 h54=>fin 0 I (th (ah h54 I (fun e8=>?_) (fun e8=>?_)))
   ·refine rg ?_;obtain ⟨p1,p2⟩:=rd.parts hb0 qo;rw[Nat.min_eq_right qo] at p2;refine cl 5 I (G6 ln g ao cap ln zs a (a+bs) ln hyl o qo qo qo hl qo p1 p2) ?_;rintro v60 K60 hs60 ⟨rfl,rfl,g2,y2,rfl,o2,s1,s2⟩;exact fin 0 I (jx (g2,y2) ⟨o2,sg.trans (s1.wide (aag _) qo),rd.last qo s1 s2⟩ ⟨I,I,I,I,trivial⟩ I I)
   exact sk<|jx (g,zs) ⟨o,sg,rd.rest qo⟩ sb I I
  rintro ⟨g2,y2⟩ ⟨o2,s1,s2⟩;dsimp only at *;exact rg (ar 1 I (v':=.int .i64 (2*bs:Nat)) (by rw[ac qo];congr 1;omega) (fin 1 rfl (bl (bc (x:=(bs,g,ys)) (2*bs,g2,y2) sb rfl rfl ⟨ax,qo,o2,s1,s2⟩ (by (try dsimp only);omega)))))
 exact ex<|xt (xt<|xb (gW I ⟨I,I,g,ys,I,o,sg,bk0.all qo⟩))
def M8(g:PH)(ao:Option Addr)(cap ln:Nat)(xs:List az)(hln:ba xs=ln)(hx:bN 2 127 cC g ao ln cap xs)(hl:ln<=1048576):
  aj w0 189 [.slice ao ln cap,ju] K (g::hs)
  (fun v K' hs'=>K'=K/\v=.tuple #[]/\∃ g' ys,hs'=g'::hs/\bN 2 127 cC g' ao ln cap ys/\dJ bA 0 ln xs ys/\dD bA 0 ln ys):=by
 refine dj Tryz.func189 ?_;refine rg (cl 4 I (M5 g ao cap ln xs hln hx hl) ?_);rintro v8 K8 hs8 ⟨rfl,rfl,h⟩;exact fin 0 I (gW I ⟨I,I,h⟩)
end
section
def xI(z:Array Value)(n:Nat):(Builtin.zeroCells z n).size=n*z.size:=by simp[Builtin.zeroCells]
def Oj{z:Array Value}{n:Nat}{u:Value}(hz:0<z.size)(h:u∈(Builtin.zeroCells z n).toList):u∈z.toList:=by
 unfold Builtin.zeroCells at h;simp only[Array.toList_map,aak] at h;obtain ⟨i,_,rfl⟩:=h
 simp_all [abz]
section ext
variable {P:Program} {T:br} {w0:World} {ops:Array Oper} {Q:Exit->Act->World->Prop} {rest rest':List Oper} {n:Nat} {l l':Sl} {K:PH} {hs:List PH}
def zx(T:br)(ops:Array Oper)(n k:Nat)(rest:List Oper)(l:Sl):Option (Nat×Oper×Builtin×Nat×Value×List Oper×Sl):=
 match gB T ops n k rest l with
 | some (d,o,r,l')=>match o.op with
  | .call { callee:=.builtin b,args,argTypes }=>match args.toList,argTypes.toList with
   | [x],[t]=>match ev l' x with
    | some vx=>some (d,o,b,t,vx,r,l')
    | _=>none
   | _,_=>none
  | _=>none
 | none=>none
def KF{k d t:Nat}{o:Oper}{b:Builtin}{vx:Value}(h:zx T ops n k rest l=some (d,o,b,t,vx,rest',l')):
  gB T ops n k rest l=some (d,o,rest',l')/\∀ a w,Ag n l' a->∃ cs,(execOp a.eval o).run P w=(builtin b #[t] o.type cs #[vx]).run P w:=by
 unfold zx at h
 split at h
 ·rename_i d' o' r l2 ho
  split at h
  ·rename_i b' args argTypes hop
   split at h
   ·rename_i x t' e1 e2
    split at h
    ·rename_i vx' hx;simp only[aad,aai] at h;obtain ⟨rfl,rfl,rfl,rfl,rfl,rfl,rfl⟩:=h;have a1':args=#[x]:=by cases args;simp_all
     have a2':argTypes=#[t']:=by cases argTypes;simp_all
     subst a1' a2';refine ⟨ho,fun a w ha=>⟨#[x].map fun|.const _=>true|_=>false,?_⟩⟩;simp only[execOp,hop];simp[resolve,invoke,ha.ev hx]
     rfl
    simp at h
   simp at h
  simp at h
 simp at h
def HA[hT:TabOK P T](k:Nat){d t n1 c1:Nat}{o:Oper}{si:eU}{ao:Option Addr}(h0:zx T ops n k rest l=some (d,o,.cap,t,.slice ao n1 c1,rest',l'))(hsi:asc T.sls t=some si)
  (hk:WL P w0 ops Q rest' n ((d,.int .i64 (c1:Int))::l') K hs):WL P w0 ops Q rest n l K hs:=by
 obtain ⟨ho,hex⟩:=KF h0;refine nm k ho (fun a w ha hw=>?_) hk;obtain ⟨cs,he⟩:=hex a w ha;obtain ⟨g1,_⟩:=hT.sl hsi;rw[he];simp only[builtin];simp[Builtin.cap_,run_underlying g1,goInt]
def RQ[hT:TabOK P T](k:Nat){d t u:Nat}{o:Oper}{si:eU}{kk:IntKind}{jj:Int}(m:Nat)
  (h0:vH T ops n k rest l=some (d,o,.append,t,u,.slice none 0 0,.int .i64 jj,rest',l')) (hj:jj=(m:Int)) (hm0:0<m) (hsi:asc T.sls t=some si) (hu:P.underlying u=some (.int kk)) (hz:si.zero.cells.size=si.size)
  (hb:m*si.bytes<=140737488355328) (h63:m<=maxLen)
  (hk:∀ b cap' cur,m<=cap'->cap'<=maxLen->cur.size=cap'*si.size->WL P w0 ops Q rest' n ((d,.slice (some ⟨b,0,none⟩) m cap')::l') K (pt b cur si.elem::hs)):WL P w0 ops Q rest n l K hs:=by
 obtain ⟨ho,hex⟩:=CB h0;subst hj;have hm63:(m:Int)<=9223372036854775807:=by simp only[maxLen] at h63;omega
 refine pc k (R:=fun v K' hs'=>∃ b cap' cur,v=.slice (some ⟨b,0,none⟩) m cap'/\m<=cap'/\cap'<=maxLen/\cur.size=cap'*si.size/\K'=K/\hs'=pt b cur si.elem::hs) ho (fun a w ha hw=>?_) ?_
 ·obtain ⟨cs,he⟩:=hex a w ha;obtain ⟨g1,ii,g2,g3,g4,g5⟩:=hT.sl hsi;have hfo:(Builtin.firstCells si.size 0 (.slice none 0 0)).run P w.drew=.ok #[] w.drew:=vX (P:=P) (hw.drew.addEm) (.inr ⟨0,rfl⟩) (aH.nil em none 0 si.size);have hg:0<0+m:=qo
  have h48:¬(281474976710656<Builtin.nextslicecap (0+m) 0*ii.bytes):=by simp_all [growslice_fits]
  have hw64:IntKind.i64.wrap ((m:Nat):Int)=(m:Int):=by grind [IntKind.wrap,IntKind.bits]
  have hneg:¬((m:Nat):Int)<0:=qo
  have h47:¬(281474976710656:Int)<((m:Nat):Int)*(ii.bytes:Int):=by
   grind
  have hm1:m≠0:=qo
  rw[aaD] at h48;have hge:=grownCap_ge w m 0 si.elem;have hcm:grownCap w m 0 si.elem<=maxLen:=grownCap_le_maxLen w m 0 si.elem h63
  refine ⟨.slice (some ⟨w.heap.size,0,none⟩) m (grownCap w m 0 si.elem),w.drew.alloc (.cells (Builtin.zeroCells si.zero.cells m++Builtin.zeroCells si.zero.cells (grownCap w m 0 si.elem-m)) si.elem),K,_,?_,hw.drew.alloc _,
   w.heap.size,grownCap w m 0 si.elem,Builtin.zeroCells si.zero.cells m++Builtin.zeroCells si.zero.cells (grownCap w m 0 si.elem-m),rfl,hge,hcm,?_,rfl,rfl⟩
  ·rw[he];simp only[builtin];have h63':¬(9223372036854775807<((m:Nat):Int)):=qo
   simp[Builtin.append_,run_underlying g1,run_underlying hu,sizeOf,typeInfo,zeroValue,g2,g3,g4,asInt,asIntOf,hw64,hneg,h47,h63',h48,Question.forced,hfo,newRow,grownCap,hm1]
   simp_all [Array.eq_empty_of_size_eq_zero,Builtin.zeroCells]
  rw[acw,xI,xI,hz,<-Nat.add_mul]
  congr 1
  omega
 rintro v K' hs' ⟨b,cap',cur,rfl,g1,g2,g3,rfl,rfl⟩;exact hk b cap' cur g1 g2 g3
def Hk(T:br)(ops:Array Oper)(n k:Nat)(rest:List Oper)(l:Sl):Option (Oper×Nat×Value×List Oper×Sl):=
 match fc T ops n k rest l with
 | some (o,r,l')=>match o.dst,o.op with
  | none,.call { callee:=.builtin .clear,args,argTypes }=>match args.toList,argTypes.toList with
   | [x],[t]=>match ev l' x with
    | some u=>some (o,t,u,r,l')
    | _=>none
   | _,_=>none
  | _,_=>none
 | none=>none
def Im{α:Type}{l:List α}{i:Nat}{x:α}(h:l[i]?=some x):l.set i x=l:=by
 grind [List.set_getElem_self]
def RK[hT:TabOK P T](k i:Nat){t off n1 c1 b ty:Nat}{o:Oper}{si:eU}{ao:Option Addr}{c:Array Value}(h0:Hk T ops n k rest l=some (o,t,.slice ao n1 c1,rest',l'))(hsi:asc T.sls t=some si)(hz:si.zero.cells.size=si.size)(hz0:0<si.size)(hone:∀ u∈si.zero.cells.toList,u.oneCell'=true)
  (hi:hs[i]?=some (pt b c ty)) (ha:0<n1->ao=some ⟨b,off,none⟩) (hf:0<n1->off+n1*si.size<=c.size)
  (hk:∀ zs:List Value,ba zs=n1*si.size->WL P w0 ops Q rest' n l' K (hs.set i (pt b (if n1=0 then c else (c.toList.take off++zs++c.toList.drop (off+ba zs)).toArray) ty))):WL P w0 ops Q rest n l K hs:=by
 unfold Hk at h0
 split at h0
 ·rename_i o' r l2 ho
  split at h0
  ·rename_i args argTypes hd hop
   split at h0
   ·rename_i x t' e1 e2
    split at h0
    ·rename_i u hx;simp only[aad,aai] at h0;obtain ⟨rfl,rfl,rfl,rfl,rfl⟩:=h0;have a1':args=#[x]:=by cases args;simp_all
     have a2':argTypes=#[t']:=by cases argTypes;simp_all
     subst a1' a2';obtain ⟨g1,ii,g2,g3,g4,g5⟩:=hT.sl hsi;refine WL.at' ho fun hg=>?_;intro a w haa hw;have hb:w.heap[b]?=some (.cells c ty (0,0)):=hw.own i _ hi b _ ST;have hzl:ba (Builtin.zeroCells si.zero.cells n1).toList=n1*si.size:=by rw[abW,xI,hz]
     have key:∃ w',(execOp a.eval o').run P w=.ok (.value (.tuple #[])) w'/\aY w0 w' K (hs.set i (pt b (if n1=0 then c else (c.toList.take off++(Builtin.zeroCells si.zero.cells n1).toList++c.toList.drop (off+ba (Builtin.zeroCells si.zero.cells n1).toList)).toArray) ty)):=by
      rcases abq n1 with h|h
      ·subst h;refine ⟨w,?_,?_⟩
       ·simp only[execOp,hop];cases ao <;> simp[resolve,invoke,builtin,haa.ev hx,Builtin.clear_,run_underlying g1]
       rw[aab rfl,Im hi];exact hw
      have hst:=run_storeCells_at P b off ty (Builtin.zeroCells si.zero.cells n1).toList 0 c w hb qo (fun u hu=>hone u (Oj qo hu));simp only[aa7] at hst;rw[aaa qo];refine ⟨_,?_,hw.setRow hi _⟩;simp only[execOp,hop];obtain ⟨n2,rfl⟩:∃ n2,n1=n2+1:=⟨n1-1,qo⟩;simp[resolve,invoke,builtin,haa.ev hx,Builtin.clear_,run_underlying g1,ha h,zeroValue,g2,g3,typeInfo,hst]
     obtain ⟨w',hrun,hsat⟩:=key;have hw1:=jl haa hg;unfold wpList;rw[aab hw1];refine .inl ?_;unfold Oper.wp;rw[hrun];simp only[Oper.upon,hd,Act.put];exact hk _ hzl _ _ haa hsat
    simp at h0
   simp at h0
  simp at h0
 simp at h0
end ext
end
section
def zA{α:Type}{T:br}{ops:Array Oper}{Q:Exit->Act->World->Prop}{rest rest':List Oper}{n:Nat}{l l':Sl}{R:List Value->α->Prop}
  [hT:TabOK P T] (k i:Nat) {d:Nat} {si:eU} {ao ao2:Option Addr} {n1 c1 n2 c2:Nat} {h h2:PH} {xs ys:List α} (h0:mq T ops n k rest l=some (d,si,(ao,n1,c1),(ao2,n2,c2),rest',l'))
  (hi:hs[i]?=some h) (o:ej si.size si.elem R h ao n1 c1 xs) (hm:In K hs h2) (x:bF si.size R h2 ao2 n2 c2 ys) (hc:∀ c y,R c y->∀ u∈c,u.oneCell'=true) (hz:si.zero.cells.size=si.size) (hsz:0<si.size) (hb:(n1+n2)*si.bytes<=140737488355328) (h63:n1+n2<=maxLen)
  (hk:∀ ao' cap' h',ej si.size si.elem R h' ao' (n1+n2) cap' (xs++ys)->WL P w0 ops Q rest' n ((d,.slice ao' (n1+n2) cap')::l') K (hs.set i h')):WL P w0 ops Q rest n l K hs:=by
 obtain ⟨css,q1,q2,q3,q4⟩:=o;obtain ⟨dss,p1,p2,p3,p4⟩:=x
 have hone:∀ u∈dss.flatten,u.oneCell'=true:=by
  intro u hu;obtain ⟨c,hcm,huc⟩:=List.mem_flatten.1 hu;obtain ⟨j,hj⟩:=aa1.1 hcm;obtain ⟨h1,h2⟩:=aas.1 hj;have hl:=p3.len;obtain ⟨y,hy⟩:∃ y,ys[j]?=some y:=⟨_,aae qo⟩;obtain ⟨c',hc',hr⟩:=p3.get hy
  grind
 refine app k i h0 hi q2 hm p2 hz hsz hone hb h63 fun ao' cap' h' o'=>hk ao' cap' h'<|⟨css++dss,by simp[q1,p1],by simpa using o',q3.append p3,fun d hd=>?_⟩
 grind
def su{α:Type}{ls:List (List α)}{i:Nat}{l:List α}(h:ls[i]?=some l):(ls.take (i+1)).flatten=(ls.take i).flatten++l:=by
 rw[aaA,h]
 simp
def uK{α:Type}(ls:List (List α))(i:Nat):ba (ls.take i).flatten<=ba ls.flatten:=by
 grind [List.take_append_drop]
def mH(c:List Value)(y:az)(h:cC c y):∀ u∈c,u.oneCell'=true:=by
 intro u hu;rw[h] at hu;simp[bK] at hu;rcases hu with rfl|rfl <;> rfl
def Hd(K:PH)(c:List Value)(l:List az):Prop:=∃ ao cap,c=[.slice ao (ba l) cap]/\bF 2 cC K ao (ba l) cap l
attribute [local irreducible] Code.wp wpList Calls
def Pb(n:Nat)(hn:n<=1048576):
  aj w0 215 [.slice none 0 0,.int .i64 (n:Nat)] K hs
  (fun v K' hs'=>K'=K/\∃ ao c g,v=.slice ao 0 c/\hs'=g::hs/\ej 2 127 cC g ao 0 c []):=by
 refine bH Tryz.func215 ?_;refine af 1 I fun b6 h6=>fin 0 I (th (ah h6 I (fun e2=>by omega) (fun e2=>au ?_)));refine HA 2 I I (ar 2 I (v':=.int .i64 0) (by rfl) (ar 0 I (v':=.int .i64 (n:Nat)) (by rw[ac qo];simp) (au ?_)));refine af 1 I fun b16 h16=>fin 0 I (th (ah h16 I (fun e6=>?_) (fun e6=>?_)))
 ·refine rg (HA 2 I I (oZ 0 0 0 I I I qo (RQ 1 n I I qo I Tryz.underlying3 I (by show n*24<=_;omega) (by simp only[maxLen];omega) fun b22 c22 cur q1 q2 q3=>oZ 2 0 0 rfl rfl rfl qo ?_)));rw[qA,abH];refine au ?_;exact ay I I ⟨I,_,_,_,I,I,[],I,⟨I,aag _,q2,.inr ⟨b22,0,cur,I,I,by rw[q3];simp,ST⟩⟩,trivial,ST⟩
 exact sk<|ac6 (fin 2 I<|adb<|WQ.em (ay I I ⟨I,none,0,_,I,I,ej.nil _ _⟩))
def N5{hL:PH}(aL:Option Addr)(cL:Nat)(ls:List (List az))(hm:In K hs hL)(x:bF 1 (Hd K) hL aL (ba ls) cL ls)(hl:ba ls.flatten<=1048576)(hn:ba ls<=4096):
  aj w0 188 [.slice aL (ba ls) cL] K hs
  (fun v K' hs'=>K'=K/\∃ ao c g,v=.slice ao (ba ls.flatten) c/\hs'=g::hs/\ej 2 127 cC g ao (ba ls.flatten) c ls.flatten):=by
 refine dj Tryz.func188 ?_;obtain ⟨vs,xv⟩:=x.isS
 have hcell:∀ (i:Nat) l,ls[i]?=some l->∃ ao cap,bF 2 cC K ao (ba l) cap l/\∀ a,aL=some a->bR hL (a.add (i*1)) (.slice ao (ba l) cap):=fun i l hi=>by
  obtain ⟨a,rfl⟩:=x.addr (by grind) SU;obtain ⟨c,⟨ao,cap,rfl,h2⟩,h3,h4⟩:=x.cells hi;refine ⟨ao,cap,h2,fun a' e=>?_⟩;cases e;have:=h4 0 _ rfl
  simp_all [Addr.add]
 refine au ?_;refine loop (σ:=Nat) (fun i=>[(0,.slice aL (ba ls) cL),(3,.int .i64 ((ba (ls.take i).flatten:Nat):Int)),(9,.slice aL (ba ls) cL),(10,.int .i64 (ba ls)),(11,.int .i64 (i:Nat))]) (fun _=>K) (fun _=>hs) (fun i=>i<=ba ls) (fun i=>ba ls-i) 0 (aag _) ⟨I,I,I,I,I,trivial⟩ I I ?_;rintro i hi;have hle:=uK ls i;refine ac9 (aX 0 I (fun e2=>?_) (fun e2=>?_))
 ·refine au ?_;obtain ⟨y,hy⟩:∃ y,ls[i]?=some y:=⟨_,aae qo⟩;obtain ⟨ao,cap,h2,h3⟩:=hcell i y hy;have hle1:=uK ls (i+1);rw[su hy,aaf] at hle1;obtain ⟨aa,rfl⟩:=x.addr qo SU;refine au ?_;refine dz 0 i I I xv qo SU fun a13 e13=>ld 0 I hm (h3 _ e13) (au ?_);refine ar 3 I (v':=.int .i64 ((ba (ls.take (i+1)).flatten:Nat):Int)) (by rw[ac qo,su hy,aaf];congr 1) (au ?_);exact af 1 I fun b20 h20=>fin 0 I (th (ah h20 I (fun e4=>by omega) (fun e4=>sk (ac7 (ar 0 I (v':=.int .i64 (i+1:Nat)) (ac qo) (fin 1 I (bc (x:=i) (i+1) sb I I qo qo)))))))
 refine au ?_;obtain rfl:i=ba ls:=qo
 rw[aav];refine cl 1 I (Pb (ba ls.flatten) hl) ?_;rintro v24 K24 hs24 ⟨rfl,ao,c,g,rfl,rfl,o⟩;refine au ?_;refine loop (σ:=Nat×Option Addr×Nat×PH) (fun s=>[(25,.slice aL (ba ls) cL),(6,.slice s.2.1 (ba (ls.take s.1).flatten) s.2.2.1),(26,.int .i64 (ba ls)),(27,.int .i64 s.1)]) (fun _=>K24) (fun s=>s.2.2.2::hs) (fun s=>s.1<=ba ls/\ej 2 127 cC s.2.2.2 s.2.1 (ba (ls.take s.1).flatten) s.2.2.1 (ls.take s.1).flatten) (fun s=>ba ls-s.1) (0,ao,c,g) ⟨aag _,o⟩ ⟨I,I,I,I,trivial⟩ I I ?_;clear o;rintro ⟨i,ao,c,g⟩ ⟨hi,o⟩;dsimp only at *;have hle:=uK ls i;refine ac9 (aX 0 I (fun e6=>?_) (fun e6=>?_))
 ·refine au ?_;obtain ⟨y,hy⟩:∃ y,ls[i]?=some y:=⟨_,aae qo⟩;obtain ⟨ao2,cap2,h2,h3⟩:=hcell i y hy;have hle1:=uK ls (i+1);rw[su hy,aaf] at hle1;obtain ⟨aa,rfl⟩:=x.addr qo SU;have hm2:In K24 (g::hs) hL:=by rcases hm with h|⟨j,h⟩;exact .inl h;exact .inr ⟨j+1,h⟩
  refine au ?_;refine dz 0 i I I xv qo SU fun a13 e13=>ld 0 I hm2 (h3 _ e13) (au ?_);refine zA 2 0 I I o (.inl I) h2 mH I SU (by show (_+_)*24<=_;omega) (by simp only[maxLen];omega) fun ao33 c33 g33 o33=>au ?_;refine ar 0 I (v':=.int .i64 (i+1:Nat)) (ac qo) (fin 1 I (bc (x:=(i,ao,c,g)) (i+1,ao33,c33,g33) ⟨I,?_,I,I,trivial⟩ I I ⟨ax,?_⟩ qo))
  ·dsimp only;rw[su hy,aaf]
   rfl
  simp_all [su]
 refine au ?_;obtain rfl:i=ba ls:=qo
 rw[aav] at o ⊢;refine au ?_;exact ay I I ⟨I,ao,c,g,I,I,o⟩
end
section
def ej.slZ{α:Type}{R:List Value->α->Prop}{size e:Nat}{h:PH}{ao:Option Addr}{n cap:Nat}{xs:List α}(x:ej size e R h ao n cap xs):bN size e R h ao n cap xs:=
 let ⟨css,h1,h2,h3,h4⟩:=x
 ⟨css,h1,.inl h2,h3,h4⟩
structure nh (l out:List az):Prop where
 rise:out.Pairwise fun x y=>bA x y=true
 fil:∀ k,out.filter (dA bA k)=((l.filter (dA bA k)).getLast?).toList
def LO{l ys:List az}(h:dJ bA 0 (ba l) l ys)(s:dD bA 0 (ba l) ys):nh l (fj bA ys):=by
 have hl:=h.len;rw[<-hl] at s;exact ⟨tS iW ys s.pw,fun k=>by rw[Dy iW k ys s.pw,h.fil k]⟩
theorem Dw:∀ (l:List az),ba (fj bA l)<=ba l
 | []=>aac _
 | [x]=>aac _
 | x::y::t=>by
  have ih:=Dw (y::t);rw[fj]
  split
  ·simp only[aaj] at ih ⊢;omega
  simp only[aaj] at ih ⊢;omega
def LR{ys out:List az}{i:Nat}{p:az}(h:out++fj bA (ys.drop i)=fj bA ys)(hp:ys[i]?=some p)(hi:i+1=ba ys):out++[p]++fj bA (ys.drop (i+1))=fj bA ys:=by
 grind [List.drop_eq_getElem_cons,fj]
def LS{ys out:List az}{i:Nat}{p q:az}(h:out++fj bA (ys.drop i)=fj bA ys)(hp:ys[i]?=some p)(hq:ys[i+1]?=some q)(hn:q.word≠p.word):out++[p]++fj bA (ys.drop (i+1))=fj bA ys:=by
 grind [List.drop_eq_getElem_cons,q8,fj]
def LQ{ys out:List az}{i:Nat}{p q:az}(h:out++fj bA (ys.drop i)=fj bA ys)(hp:ys[i]?=some p)(hq:ys[i+1]?=some q)(hn:q.word=p.word):out++fj bA (ys.drop (i+1))=fj bA ys:=by
 grind [List.drop_eq_getElem_cons,q8,fj]
attribute [local irreducible] Code.wp wpList Calls
def Dc{hL:PH}(aL:Option Addr)(cL:Nat)(ls:List (List az))(hm:In K hs hL)(x:bF 1 (Hd K) hL aL (ba ls) cL ls)(hl:ba ls.flatten<=1048576)(hn:ba ls<=4096):
  aj w0 160 [.slice aL (ba ls) cL] K hs
  (fun v K' hs'=>K'=K/\∃ ao c g out,nh ls.flatten out/\v=.slice ao (ba out) c/\hs'=g::hs/\bN 2 127 cC g ao (ba out) c out):=by
 refine bH Tryz.func160 ?_;refine cl 1 I (N5 aL cL ls hm x hl hn) ?_;rintro v8 K8 hs8 ⟨rfl,ao,c,g,rfl,rfl,o⟩;refine au ?_;refine cl 1 I (M8 g ao c (ba ls.flatten) ls.flatten I o.slZ hl) ?_;clear o;rintro v10 K10 hs10 ⟨rfl,rfl,g,ys,rfl,o,sg,st⟩;have hnr:=LO sg st;obtain ⟨n,hN⟩:=bC (ba ls.flatten);have hyl:ba ys=n:=by rw[hN];exact sg.len
 rw[<-hN] at o hl ⊢;refine fin 0 I (ac6 (fin 1 I (ac5 (WL.em (au ?_)))))
 refine loop (σ:=Nat×List az×Option Addr×Nat×PH) (fun s=>[(3,.slice ao n c),(4,.slice s.2.2.1 (ba s.2.1) s.2.2.2.1),(11,.slice ao n c),(12,.int .i64 (n:Nat)),(13,.int .i64 s.1)]) (fun _=>K10) (fun s=>s.2.2.2.2::g::hs)
  (fun s=>s.1<=n/\bN 2 127 cC s.2.2.2.2 s.2.2.1 (ba s.2.1) s.2.2.2.1 s.2.1/\s.2.1++fj bA (ys.drop s.1)=fj bA ys) (fun s=>n-s.1) (0,[],none,0,Go.En.em)
  ⟨aag _,bN.nil _ _,rfl⟩ ⟨rfl,rfl,rfl,rfl,rfl,trivial⟩ rfl rfl ?_
 rintro ⟨i,out,a4,c4,g4⟩ ⟨hi,o4,ho⟩;dsimp only at *;have xS:=o.slS
 have hol:ba out<=n:=by
  have h1:=congrArg List.length ho
  grind [Dw]
 refine ac9 (af 0 I fun b14 h14=>au ?_);refine ah h14 I (fun e2=>?_) (fun e2=>?_)
 ·obtain ⟨p,hp⟩:∃ p,ys[i]?=some p:=⟨_,aae qo⟩;obtain ⟨gb,off,cur,rfl,rfl,hcs,hcap,hset⟩:=o.pts (show 0<n by omega);obtain ⟨vs,xv⟩:=xS.isS;obtain ⟨cp,hcp,hcpl,hcpc⟩:=xS.cells hp;obtain rfl:=hcp;refine au ?_;refine dz 1 i I I xv qo SU fun a16 e16=>?_;cases e16;refine eD 0 (bK p) I qk (.inr ⟨1,I⟩) hcpc (al 0 (.agg #[.string ⟨#[]⟩,.int .i64 0]) I qk fun b6=>?_);refine bJ 1 0 I I qk I I ?_;refine WL.hs (pt b6 #[str p.word,.int .i64 p.w] 127::g4::pt gb cur 127::hs) I (au ?_);refine bI [pt b6 #[str p.word,.int .i64 p.w] 127,pt gb cur 127] 16 [0,2,4,6,8,10,12,14,16,18,20,22,24,26,28,30] ST qk qk (bQ qk 1 I (v':=.int .i64 (i+1:Nat)) (ac qo) (gD qk 2 (i+1=n) I (by simp;omega) (fun h3=>?_) (fun h3=>?_)))
  ·refine be qk 11 I (th (dY I (rg (dy 1 0 I I qk (lit 0 (bK p).toArray I SU qk fun b36=>jU 0 2 (bK p) p I I I o4 I I (mH _ p I) I SU (by show (_+1)*24<=_;omega) (by simp only[maxLen];omega) fun ao37 c37 g37 o37=>WL.drop (WL.drop (au ?_)))))));exact ar 0 I (v':=.int .i64 (i+1:Nat)) (ac qo) (fin 1 I (bc (x:=(i,out,a4,c4,g4)) (i+1,out++[p],ao37,c37,g37) ⟨I,by simp;rfl,rfl,rfl,rfl,trivial⟩ rfl rfl ⟨qo,by dsimp only;rw[aaf];exact o37,LR ho hp qo⟩ (by (try dsimp only);omega)))
  obtain ⟨q,hq⟩:∃ q,ys[i+1]?=some q:=⟨_,aae qo⟩;obtain ⟨cq,hcq,hcql,hcqc⟩:=xS.cells hq;obtain rfl:=hcq;refine bQ qk 3 I (v':=.int .i64 (i+1:Nat)) (ac qo) (bh qk 0 (i+1) I I qo (lc qk 1 I (.inr ⟨1,I⟩) (hcqc 0 _ I) (au ?_)));refine gE qk 0 (q.word≠p.word) I ST fun b32 h32=>au ?_;refine ah h32 I (fun e4=>?_) (fun e4=>?_)
  ·refine rg (dy 1 0 I I qk (lit 0 (bK p).toArray I SU qk fun b36=>jU 0 2 (bK p) p I I I o4 I I (mH _ p I) I SU (by show (_+1)*24<=_;omega) (by simp only[maxLen];omega) fun ao37 c37 g37 o37=>WL.drop (WL.drop (au ?_))));exact ar 0 I (v':=.int .i64 (i+1:Nat)) (ac qo) (fin 1 I (bc (x:=(i,out,a4,c4,g4)) (i+1,out++[p],ao37,c37,g37) ⟨I,by simp;rfl,rfl,rfl,rfl,trivial⟩ rfl rfl ⟨ax,by dsimp only;rw[aaf];exact o37,LS ho hp hq e4⟩ qo))
  exact sk (ac7 (ar 0 I (v':=.int .i64 (i+1:Nat)) (ac qo) (WL.drop (fin 1 I (bc (x:=(i,out,a4,c4,g4)) (i+1,out,a4,c4,g4) sb I I ⟨qo,o4,LQ ho hp hq (Classical.not_not.1 e4)⟩ (by (try dsimp only);omega))))))
 refine ex (xt (xt (xb (ac6 ?_))));have:i=n:=qo
 subst this;rw[abh qo] at ho;have ho':out=fj bA ys:=by simpa[fj] using ho
 subst ho';exact fin 2 I (adb (WQ.drop1 (ay I I ⟨I,a4,c4,g4,_,hnr,I,I,o4⟩)))
end
section
def bN.cleared{α:Type}{R:List Value->α->Prop}{size e gb off n cap:Nat}{cur:Array Value}{xs:List α}(x:bN size e R (pt gb cur e) (some ⟨gb,off,none⟩) n cap xs)(hn:0<n)(i:Nat)(hi:i<=n)(Z:List Value)(hZ:ba Z=(n-i)*size):
  bN size e R (pt gb (cur.toList.take (off+i*size)++Z++cur.toList.drop (off+i*size+ba Z)).toArray e) (some ⟨gb,off,none⟩) i cap (xs.take i):=by
 obtain ⟨css,h1,h2,h3,h4⟩:=x;rcases h2 with ⟨o1,o2,o3,o4⟩|⟨h,_⟩
 ·rcases o4 with ⟨h,_⟩|⟨g,off',cur',e1,e2,e3,e4⟩
  ·cases h
  cases e1;obtain rfl:=sI e2;have hsz:i*size+(n-i)*size=n*size:=by rw[<-Nat.add_mul];congr 1;omega
  have hcn:n*size<=cap*size:=aaY _ o2;have hcl:ba cur.toList=off+cap*size:=qo
  refine ⟨css.take i,by simp;omega,.inl ⟨?_,qo,o3,.inr ⟨gb,off,_,rfl,rfl,?_,?_⟩⟩,h3.take i,fun d hd=>h4 d (aaR hd)⟩
  ·rw[qp (fun d hd=>h4 d (aaR hd)),aam,h3.len]
   congr 1
   omega
  ·grind
  rw[<-qg i h4,<-e4];simp only[aax];rw[aca (by simp;omega),abS (by simp;omega),abA,ab5,ab5]
  congr 1
  omega
 omega
def Gi:∀ (m:List az),m.filter (fun _=>false)=[]
 | []=>rfl
 | a::m=>by simp
theorem E9(l:List az)(out:List az):(∀ k,ba (out.filter (dA bA k))<=ba (l.filter (dA bA k)))->ba out<=ba l:=by
 intro h
 by_cases hc:out=[]
 ·subst hc;simp
 obtain ⟨k,hk⟩:∃ k,k∈out:=ab7 out hc;have ek:dA bA k k=true:=by rw[q8];simp
 have h1:ba (out.filter fun x=>!dA bA k x)<ba out:=by
  rw[<-List.countP_eq_length_filter];have e:=acN (dA bA k) (l:=out);have p:0<out.countP (dA bA k):=List.countP_pos_iff.2 ⟨k,hk,ek⟩;have q:out.countP (fun x=>!dA bA k x)=out.countP (fun x=>¬dA bA k x=true):=by congr 1;funext x;cases dA bA k x <;> simp
  omega
 have e2:=acN (dA bA k) (l:=l);have e3:=acN (dA bA k) (l:=out)
 have ih:=E9 (l.filter fun x=>!dA bA k x) (out.filter fun x=>!dA bA k x) fun j=>by
  have hj:=h j;rw[List.filter_filter,List.filter_filter]
  by_cases hjk:dA bA j k=true
  ·have e:∀ x,(dA bA j x && !dA bA k x)=false:=fun x=>by
    simp only[q8,decide_eq_true_eq] at hjk ⊢
    by_cases g:j.word=x.word <;> simp[g,<-hjk]
   simp only[e];rw[Gi,Gi];exact aac _
  have e:∀ x,(dA bA j x && !dA bA k x)=dA bA j x:=fun x=>by
   simp only[q8,decide_eq_true_eq] at hjk ⊢
   by_cases g:j.word=x.word
   ·have:¬k.word=x.word:=fun e=>hjk (g.trans e.symm);simp[g,this]
   simp[g]
  simp only[e];exact hj
 have hk2:=h k;simp only[<-List.countP_eq_length_filter] at ih hk2;have q1:out.countP (fun x=>!dA bA k x)=out.countP (fun x=>¬dA bA k x=true):=by congr 1;funext x;cases dA bA k x <;> simp
 have q2:l.countP (fun x=>!dA bA k x)=l.countP (fun x=>¬dA bA k x=true):=by congr 1;funext x;cases dA bA k x <;> simp
 omega
termination_by (ba out)
decreasing_by exact h1
def nh.len{l out:List az}(h:nh l out):ba out<=ba l:=E9 l out fun k=>by
 rw[h.fil k]
 grind
def iw(p:az):Bool:=decide (p.w=0)
def nu(l:List az):Int:=match l.findIdx? iw with
 | some i=>(i:Int)
 | none=>-1
def DH{l:List az}(h:nu l = -1):l.filter (fun p=>!iw p)=l:=by
 grind [List.filter_eq_self,nu]
def L7{l:List az}(h:nu l ≠ -1):∃ i:Nat,nu l=(i:Int)/\i<ba l/\l.take i=(l.take (i+1)).filter (fun p=>!iw p):=by
 unfold nu at h ⊢
 split at h
 ·rename_i i h2;refine ⟨i,I,?_⟩;obtain ⟨h3,h4,h5⟩:=ac1.1 h2;refine ⟨h3,?_⟩;rw[aaA,aae h3,aa0];simp only[Option.toList_some,List.filter_cons,h4,Bool.not_true,List.filter_nil,aaw];simp only[Bool.false_eq_true,if_false,aaw]
  symm
  rw[acO];intro p hp;obtain ⟨j,hj,rfl⟩:=acP.1 hp
  grind
 omega
attribute [local irreducible] Code.wp wpList Calls
def OY(ao:Option Addr)(c:Nat)(l:List az)(x:bF 2 cC K ao (ba l) c l)(hl:ba l<=1048576):
  aj w0 170 [.slice ao (ba l) c] K hs
  (fun v K' hs'=>K'=K/\∃ ao c g out,nh l out/\v=.slice ao (ba out) c/\hs'=g::hs/\bN 2 127 cC g ao (ba out) c out):=by
 refine bH Tryz.func170 ?_;refine lit 1 #[.slice ao (ba l) c] I SU qk fun b4=>cl 0 I (Dc (some ⟨b4,0,none⟩) 1 [l] (.inr ⟨0,I⟩) ⟨[[.slice ao (ba l) c]],I,lL I I,⟨⟨ao,c,I,x⟩,trivial⟩,ST⟩ (by simpa using hl) ST) ?_;rintro v5 K5 hs5 ⟨rfl,ao,c,g,out,h1,rfl,rfl,h2⟩;rw[show [l].flatten=l by simp] at h1;exact fin 1 I (adb (WQ.drop1 (ay I I ⟨I,ao,c,g,out,h1,I,I,h2⟩)))
def uO:Value:=.func (.func 161) #[] #[]
def Fs(p:az):
  aj w0 161 [.agg (bK p).toArray] K hs (fun v K' hs'=>K'=K/\hs'=hs/\∃ t:Bool,v=.bool t/\(t=true↔p.w=0)):=by
 refine dj Tryz.func161 ?_;refine ac9 (bx 0 I fun b1=>WL.hs (pt b1 #[str p.word,.int .i64 p.w] 127::hs) I (au ?_));refine af 0 I fun b5 h5=>WL.drop (au ?_);exact ay I I ⟨I,I,b5,I,h5⟩
def NM{h:PH}(ao:Option Addr)(c:Nat)(l:List az)(hm:In K hs h)(x:bF 2 cC h ao (ba l) c l)(hl:ba l<=1048576):
  aj w0 187 [.slice ao (ba l) c,uO] K hs
  (fun v K' hs'=>K'=K/\hs'=hs/\v=.int .i64 (nu l)):=by
 refine dj Tryz.func187 ?_;obtain ⟨vs,xv⟩:=x.isS;refine au ?_;refine loop (σ:=Nat) (fun i=>[(0,.slice ao (ba l) c),(1,uO),(7,.int .i64 (ba l)),(8,.int .i64 (i:Nat))]) (fun _=>K) (fun _=>hs) (fun i=>i<=ba l/\∀ p∈l.take i,iw p=false) (fun i=>ba l-i) 0 ⟨aag _,ST⟩ ⟨I,I,I,I,trivial⟩ I I ?_;rintro i ⟨hi,hno⟩;refine ac9 (aX 0 I (fun e2=>?_) (fun e2=>?_))
 ·refine au ?_;obtain ⟨p,hp⟩:∃ p,l[i]?=some p:=⟨_,aae qo⟩;refine au ?_;refine dz 3 i I I xv qo SU fun a14 e14=>?_;subst e14;obtain ⟨cp,hcp,hcpl,hcpc⟩:=x.cells hp;obtain rfl:=hcp;refine eD 0 (bK p) I qk hm hcpc (cl 0 I (Fs p) ?_);rintro v16 K16 hs16 ⟨rfl,rfl,b16,rfl,h16⟩;refine fin 0 I (th (ah h16 I (fun e3=>?_) (fun e3=>?_)))
  ·refine ac9 ?_
   have e:nu l=(i:Int):=by
    have:l.findIdx? iw=some i:=by
     rw[ac1];obtain ⟨q1,q2⟩:=aas.1 hp;refine ⟨q1,by rw[q2];simp[iw,e3],fun j hj=>?_⟩;rw[hno _ (acP.2 ⟨j,qo,rfl⟩)]
     simp
    unfold nu;rw[this]
   refine au ?_;exact ay I I ⟨I,I,by rw[e]⟩
  refine sk (ac7 (ar 0 I (v':=.int .i64 (i+1:Nat)) (ac qo) (fin 1 I (bc (x:=i) (i+1) sb I I ⟨qo,fun q hq=>?_⟩ qo))));rw[aaA,hp] at hq
  grind [iw]
 refine au ?_
 have e:nu l = -1:=by
  grind [nu]
 refine au ?_;exact ay I I ⟨I,I,by rw[e]⟩
def Mg{g:PH}(ao:Option Addr)(c:Nat)(l:List az)(o:bN 2 127 cC g ao (ba l) c l)(hl:ba l<=1048576):
  aj w0 159 [.slice ao (ba l) c,uO] K (g::hs)
  (fun v K' hs'=>K'=K/\∃ c' g',v=.slice ao (ba (l.filter fun p=>!iw p)) c'/\hs'=g'::hs/\bN 2 127 cC g' ao (ba (l.filter fun p=>!iw p)) c' (l.filter fun p=>!iw p)):=by
 refine bH Tryz.func159 ?_;refine cl 2 I (NM ao c l (.inr ⟨0,I⟩) o.slS hl) ?_;rintro v10 K10 hs10 ⟨rfl,rfl,rfl⟩;refine au ?_;refine aX 1 I (fun e2=>?_) (fun e2=>?_)
 ·refine au ?_;exact ay I I ⟨I,c,g,by rw[DH e2],I,by rw[DH e2];exact o⟩
 refine au ?_;obtain ⟨i0,hi0,hil,htk⟩:=L7 e2;rw[hi0];obtain ⟨n,hN⟩:=bC (ba l);rw[<-hN] at o hl hil ⊢;refine au ?_;refine ar 1 I (v':=.int .i64 (i0+1:Nat)) (ac qo) (au ?_)
 refine loop (σ:=Nat×Nat×PH×List az) (fun s=>[(0,.slice ao n c),(1,uO),(5,.int .i64 s.1),(6,.int .i64 s.2.1)]) (fun _=>K10) (fun s=>s.2.2.1::hs)
  (fun s=>s.1<s.2.1/\s.2.1<=n/\bN 2 127 cC s.2.2.1 ao n c s.2.2.2/\s.2.2.2.take s.1=(l.take s.2.1).filter (fun p=>!iw p)/\s.2.2.2.drop s.2.1=l.drop s.2.1) (fun s=>n-s.2.1) (i0,i0+1,g,l)
  ⟨acQ _,hil,o,htk,rfl⟩ ⟨rfl,rfl,rfl,rfl,trivial⟩ rfl rfl ?_
 clear o;rintro ⟨i,j,g,zs⟩ ⟨hij,hjn,o,hz1,hz2⟩;dsimp only at *;have hzl:ba zs=n:=o.len.symm;have xS:=o.slS;obtain ⟨vs,xv⟩:=xS.isS;refine sq (ac9 (af 3 I fun b19 h19=>?_));obtain ⟨gb,off,cur,rfl,rfl,hcs,hcap,hset⟩:=o.pts (show 0<n by omega);refine fin 0 I (th (ah h19 I (fun e4=>?_) (fun e4=>?_)))
 ·obtain ⟨p,hp⟩:∃ p,zs[j]?=some p:=⟨_,aae qo⟩
  have hlp:l[j]?=some p:=by
   have:=congrArg (fun t=>t[0]?) hz2
   grind
  obtain ⟨cp,hcp,hcpl,hcpc⟩:=xS.cells hp;obtain rfl:=hcp
  have hft:(l.take (j+1)).filter (fun p=>!iw p)=(l.take j).filter (fun p=>!iw p)++(if p.w=0 then [] else [p]):=by
   rw[aaA,hlp,aa0]
   grind [iw]
  refine au ?_;refine dz 2 j I I xv qo SU fun a24 e24=>?_;cases e24;refine eD 0 (bK p) I qk (.inr ⟨0,I⟩) hcpc (al 0 (.agg #[.string ⟨#[]⟩,.int .i64 0]) I qk fun b7=>?_);refine bJ 0 0 I I qk I I ?_;refine WL.hs (pt b7 #[str p.word,.int .i64 p.w] 127::pt gb cur 127::hs) I (fin 0 I (ac6 (dy 1 0 I I qk (cl 0 I (Fs p) ?_))));rintro v28 K28 hs28 ⟨rfl,rfl,b28,rfl,h28⟩;refine eE 0 _ I (jc h28) fun b29 h29=>fin 0 I (th (ah h29 I (fun e5=>?_) (fun e5=>?_)))
  ·have o2:=hset i (bK p) p qo rfl rfl;refine ac9 (dy 2 0 I I qk (dz 0 i I I xv qo SU fun a33 e33=>?_));cases e33;simp only[bz];refine sts 0 1 I I qk (by simp[bK];omega) (mH _ p rfl) (WL.drop (au ?_));refine ar 1 I (v':=.int .i64 (i+1:Nat)) (ac qo) (au ?_);refine ar 1 I (v':=.int .i64 (j+1:Nat)) (ac qo) (fin 1 I (bc (x:=(i,j,pt gb cur 127,zs)) (i+1,j+1,_,zs.set i p) ⟨I,I,I,I,trivial⟩ I I ⟨ax,ax,o2,?_,?_⟩ (by (try dsimp only);omega)))
   ·dsimp only;rw[hft,aaa e5,<-hz1,aaA,acg qo];simp[List.take_set_of_le]
   dsimp only;rw[List.drop_set_of_lt qo,<-aaO,<-aaO,hz2]
  refine sk (ac7 (ar 1 I (v':=.int .i64 (j+1:Nat)) (ac qo) (WL.drop (fin 1 I (bc (x:=(i,j,pt gb cur 127,zs)) (i,j+1,_,zs) ⟨I,I,I,I,trivial⟩ I I ⟨ax,ax,o,?_,?_⟩ (by (try dsimp only);omega))))))
  ·simp_all
  dsimp only;rw[<-aaO,<-aaO,hz2]
 refine au ?_;obtain rfl:j=n:=qo
 have e:zs.take i=l.filter fun p=>!iw p:=by rw[hz1,hN,aav]
 have el:ba (l.filter fun p=>!iw p)=i:=by rw[<-e,aam];omega
 refine oZ 2 i (j-i) I I (by show ((j:Nat):Int)=_;omega) qo ?_;rw[Ff qo];refine RK 0 0 (b:=gb) (off:=off+i*2) I I I SU SU I (fun _=>I) (fun _=>by grind) fun Z hZ=>au ?_;refine oZ 2 0 i I I ST qo ?_;rw[qA,abH];refine au ?_;have oc:=o.cleared qo i qo Z hZ;rw[aaa qo];exact ay I I ⟨I,c,_,by rw[el],I,by rw[el,<-e];exact oc⟩
def NB(ao ao2:Option Addr)(c c2:Nat)(l l2:List az)(x:bF 2 cC K ao (ba l) c l)(x2:bF 2 cC K ao2 (ba l2) c2 l2)(hl:ba l+ba l2<=1048576):
  aj w0 121 [.slice ao (ba l) c,.slice ao2 (ba l2) c2] K hs
  (fun v K' hs'=>K'=K/\∃ ao c g out,nh (l++l2) out/\v=.slice ao (ba (out.filter fun p=>!iw p)) c/\hs'=g::hs/\bN 2 127 cC g ao (ba (out.filter fun p=>!iw p)) c (out.filter fun p=>!iw p)):=by
 refine bH Tryz.func121 ?_;refine lit 2 #[.slice ao (ba l) c,.slice ao2 (ba l2) c2] I SU qk fun b7=>cl 0 I (Dc (some ⟨b7,0,none⟩) 2 [l,l2] (.inr ⟨0,I⟩) ⟨[[.slice ao (ba l) c],[.slice ao2 (ba l2) c2]],I,lL I I,⟨⟨ao,c,I,x⟩,⟨ao2,c2,I,x2⟩,trivial⟩,ST⟩ (by simpa using hl) ST) ?_;rintro v8 K8 hs8 ⟨rfl,ao3,c3,g,out,h1,rfl,rfl,h2⟩;rw[show [l,l2].flatten=l++l2 by simp] at h1;refine cl 0 I (Mg ao3 c3 out h2 (by have:=h1.len;simp at this;omega)) ?_;rintro v9 K9 hs9 ⟨rfl,c4,g4,rfl,rfl,h4⟩;exact fin 1 I (adb (WQ.drop1 (ay I I ⟨I,ao3,c4,g4,out,h1,I,I,h4⟩)))
end
section
attribute [local irreducible] Code.wp wpList Calls
def yQ(l:List az)(h:d7 l)(ao:Option Addr)(c:Nat)(hS:bF 3 (gF K) K ao (ba (dl l).2) c (dl l).2)(hG:d8 K):
  aj w0 89 [.agg #[.int .i64 (dl l).1,.slice ao (ba (dl l).2) c]] K hs (fun v K' hs'=>Le K K'/\hs'=hs/\∃ b,v=.tuple #[SX b,.bool true]/\lU K' b (dl l).1 (dl l).2):=by
 rcases (pz h).1 with ⟨e1,e2⟩|hM
 ·rw[e1,e2];exact Qq ao c
 exact (Qp _ _ hM ao c hS hG).mono fun v K' hs' ⟨le,e,b,hv,hw⟩=>⟨le,e,b,hv,hw.q⟩
def iV(K:PH)(b:Nat)(l0 over:List az)(many:Nat)(h:PH):Prop:=∃ bw ao c,h=pt b #[SX bw,.slice ao (ba over) c,.int .i64 (many:Nat)] 223/\lU K bw (dl l0).1 (dl l0).2/\bF 2 cC K ao (ba over) c over
def F3(ao:Option Addr)(c:Nat)(l:List az)(x:bF 2 cC K ao (ba l) c l)(hr:d7 l)(hG:d8 K):
  aj w0 90 [.slice ao (ba l) c] K hs (fun v K' hs'=>Le K K'/\∃ b h,hs'=h::hs/\iV K' b l [] (ba l) h/\v=.tuple #[SX b,.int .i64 0]):=by
 have hfew:=hr.few;refine bH Tryz.func90 ?_;refine cl 1 I (Gy ao (ba l) c l x hr hG) ?_;rintro v10 K10 hs10 ⟨rfl,le1,aoS,cS,rfl,hS⟩;refine al 3 (.agg #[.int .i64 0,.slice none 0 0]) I qk fun b4=>?_;refine bJ 0 0 I I qk I I ?_;refine fin 1 I (ac5 (aX 1 I (fun h=>absurd I h) (fun _=>fin 0 I (th (dt I (sk (ac6 (dy 0 0 I I qk (cl 0 I (yQ l hr aoS cS hS (fun j hj=>(hG j hj).le le1)) ?_)))))))));rintro v18 K18 hs18 ⟨le2,rfl,bw,rfl,hW⟩;refine au ?_;exact bd 3 (.agg #[SX bw,.slice none 0 0,.int .i64 (ba l)]) I (fun w=>by kernel_rfl) (bx 0 I fun b25=>fin 2 I (adb (WQ.perm (aaq _ _ _) (WQ.drop (bL I I I ⟨le1.trans le2,b25,_,I,⟨bw,none,0,I,hW,bF.nil _ _ _ _⟩,I⟩)))))
def Qs(hG:d8 K):
  aj w0 82 [] K hs (fun v K' hs'=>Le K K'/\∃ b h,hs'=h::hs/\iV K' b [] [] 0 h/\v=SX b):=by
 have hr:d7 []:=⟨ST,ST,ST⟩;refine bH Tryz.func82 ?_;refine cl 0 I (F3 none 0 [] (bF.nil _ _ _ _) hr hG) ?_;rintro v2 K2 hs2 ⟨le1,b,h,rfl,hD,rfl⟩;refine au ?_;exact ay I I ⟨le1,b,h,I,hD,I⟩
def oC(l0 over:List az)(s:List UInt8):Int×Bool:=match bZ over s with
 | some n=>(n,decide (0<n))
 | none=>(((l0.find? fun p=>decide (p.word=s)).map (·.w)).getD 0,((l0.find? fun p=>decide (p.word=s)).map (·.w)).isSome)
def El{h:PH}(b:Nat)(l0 over:List az)(many:Nat)(hD:iV K b l0 over many h)(hr:d7 l0)(ho:ba over<=1000000)(s:List UInt8)(hl:ba s<1099511627776)(hG:d8 K):
  aj w0 139 [SX b,str s] K (h::hs) (fun v K' hs'=>K'=K/\hs'=h::hs/\v=.tuple #[.int .i64 (oC l0 over s).1,.bool (oC l0 over s).2]):=by
 obtain ⟨bw,ao,c,rfl,hW,x⟩:=hD;have hbk:=(pz hr).1
 have hf:jL (dl l0).2:=by
  rcases hbk with ⟨e,_⟩|hM
  ·rw[e];intro i s h;simp at h
  exact hM.fm
 have hn:ba (dl l0).2<=98305:=by
  rcases hbk with ⟨e,_⟩|hM
  ·rw[e];simp
  exact hM.len
 have hal:∀ s∈(dl l0).2,ba s.arcs<=4096:=by
  intro s hs;rcases hbk with ⟨e,_⟩|hM
  ·rw[e] at hs;cases hs
  obtain ⟨i,hi⟩:=aa1.1 hs;exact hM.arcsL hi
 have hb:0<=(dl l0).1/\(dl l0).1<=1048576:=by
  rcases hbk with ⟨_,e⟩|hM
  ·rw[e];decide
  have:=hM.bas;omega
 refine bH Tryz.func139 ?_;refine cl 1 I (Pi ao c over s x ho) ?_;rintro v11 K11 hs11 ⟨rfl,rfl,rfl⟩;cases hF:bZ over s with
 | some n=>
  have hw:oC l0 over s=(n,decide (0<n)):=by unfold oC;rw[hF]
  refine au ?_;refine af 2 I fun b20 h20=>au ?_
  exact bL I I I ⟨I,I,by
   rw[hw,show b20=decide (0<n) from by rw[abT,h20,decide_eq_true_iff];exact Iff.rfl];rfl⟩
 | none=>
  have hw:oC l0 over s=(((l0.find? fun p=>decide (p.word=s)).map (·.w)).getD 0,((l0.find? fun p=>decide (p.word=s)).map (·.w)).isSome):=by unfold oC;rw[hF]
  refine au ?_;refine cl 1 I (Ph bw _ _ hW hf hn hal hb s hG hl) ?_;rintro v26 K26 hs26 ⟨rfl,rfl,rfl⟩;rw[Ks hr s];refine au ?_;exact bL I I I ⟨I,I,by rw[hw];rfl⟩
end
section
abbrev jD(l:List az):Prop:=l.Pairwise fun x y=>bA x y=true
def Cf(l:List az)(s:List UInt8):bZ l s=((l.filter (dA bA ⟨s,0⟩)).getLast?).map (·.w):=by
 have e:(fun p:az=>decide (p.word=s))=dA bA ⟨s,0⟩:=by
  grind [q8]
 simp_all [bZ]
def nh.last{l out:List az}(h:nh l out)(s:List UInt8):bZ out s=bZ l s:=by
 rw[Cf,Cf,h.fil]
 grind
def Br(x:az)(l:List az)(s:List UInt8):bZ (x::l) s=(bZ l s).or (if x.word=s then some x.w else none):=by
 grind [bZ]
def Ch(l m:List az)(s:List UInt8):bZ (l++m) s=(bZ m s).or (bZ l s):=by
 grind [bZ]
def LB{l:List az}(h:jD l){p q:az}(hp:p∈l)(hq:q∈l)(e:p.word=q.word):p=q:=by
 obtain ⟨i,hi,rfl⟩:=List.mem_iff_getElem.1 hp;obtain ⟨j,hj,rfl⟩:=List.mem_iff_getElem.1 hq;have hh:=abd.1 h;rcases abQ i j with g|g|g
 ·have:=hh i j hi hj g
  simp_all [oa,bA]
 ·subst g;rfl
 have:=hh j i hj hi g
 simp_all [oa,bA]
def DN{l:List az}(h:jD l){m:List az}(hm:∀ x,x∈m↔x∈l)(s:List UInt8)(w:Int):(m.find? fun p=>decide (p.word=s)).map (·.w)=some w↔(⟨s,w⟩:az)∈l:=by
 constructor
 ·intro g;cases hf:m.find? fun p=>decide (p.word=s) with
  | none=>rw[hf] at g;cases g
  | some p=>
   rw[hf] at g;have h1:=(hm p).1 (acs hf);have h2:=List.find?_some hf;simp only[decide_eq_true_eq] at h2;simp only[aa2,aad] at g;subst h2 g;exact h1
 intro g;cases hf:m.find? fun p=>decide (p.word=s) with
 | none=>
  grind
 | some p=>
  have h1:=(hm p).1 (acs hf);have h2:=List.find?_some hf;simp only[decide_eq_true_eq] at h2;rw[LB h h1 g h2]
  rfl
def lJ{l:List az}(h:jD l)(s:List UInt8)(w:Int):bZ l s=some w↔(⟨s,w⟩:az)∈l:=DN h (fun x=>acH) s w
def JU{l:List az}(h:jD l)(s:List UInt8):(l.find? fun p=>decide (p.word=s)).map (·.w)=bZ l s:=by
 apply Option.ext
 intro w;rw[lJ h];exact DN h (fun x=>Iff.rfl) s w
theorem C6:∀ {l m:List az},jD l->jD m->(∀ x,x∈l↔x∈m)->l=m
 | [],[],_,_,_=>rfl
 | [],b::u,_,_,h=>absurd ((h b).2 aaT) ST
 | a::t,[],_,_,h=>absurd ((h a).1 aaT) ST
 | a::t,b::u,hl,hm,h=>by
  obtain ⟨h1,h2⟩:=aaE.1 hl;obtain ⟨h3,h4⟩:=aaE.1 hm
  have e:a=b:=by
   rcases aau.1 ((h a).1 aaT) with e|e
   ·exact e
   rcases aau.1 ((h b).2 aaT) with e'|e'
   ·exact e'.symm
   have:=iW.tr _ _ _ (h1 b e') (h3 a e);rw[iW.irr] at this;exact Bool.noConfusion this
  subst e;rw[C6 h2 h4 fun x=>⟨fun g=>?_,fun g=>?_⟩]
  ·rcases aau.1 ((h x).1 (aaQ _ g)) with e|e
   ·subst e;have:=h1 x g;rw[iW.irr] at this;exact Bool.noConfusion this
   exact e
  rcases aau.1 ((h x).2 (aaQ _ g)) with e|e
  ·subst e;have:=h3 x g;rw[iW.irr] at this;exact Bool.noConfusion this
  exact e
def d7.rise{l:List az}(h:d7 l):jD l:=h.ord
def vR(l0 over:List az)(s:List UInt8):Option Int:=match bZ over s with
 | some w=>if w=0 then none else some w
 | none=>bZ l0 s
structure gY (l0 over W:List az):Prop where
 hb:d7 l0
 rise:jD over
 ovr:∀ p∈over,iS p.word/\0<=p.w/\p.w<=1048576
 hr:d7 W
 lk:∀ s,bZ W s=vR l0 over s
def gY.nil:gY [] [] []:=⟨⟨ST,ST,ST⟩,ST,ST,⟨ST,ST,ST⟩,fun s=>rfl⟩
def gY.merged{l0 over W out:List az}(h:gY l0 over W)(hn:nh (l0++over) out):out.filter (fun p=>!iw p)=W:=by
 refine C6 (List.Pairwise.filter _ hn.rise) h.hr.rise fun x=>?_;rw[<-lJ h.hr.rise x.word x.w,h.lk,abb,show x∈out↔bZ out x.word=some x.w from (lJ hn.rise x.word x.w).symm,hn.last,Ch];unfold vR;cases hF:bZ over x.word with
 | some w=>
  simp only[Option.some_or,aad]
  by_cases hw:w=0
  ·simp_all [iw]
  rw[aaa hw]
  constructor
  ·rintro ⟨e,_⟩;rw[e]
  intro e;cases e;exact ⟨I,by simp[iw,hw]⟩
 | none=>
  simp only[Option.none_or]
  constructor
  ·exact fun g=>g.1
  intro g;refine ⟨g,?_⟩;have:=h.hb.one _ ((lJ h.hb.rise x.word x.w).1 g)
  grind [iw]
def gY.change{l0 over W ov W':List az}{p:az}(h:gY l0 over W)(hw:iS p.word/\0<=p.w/\p.w<=1048576)(hn:nh (over++[p]) ov)(hr:d7 W')(hW:∀ s,bZ W' s=if p.word=s then (if p.w=0 then none else some p.w) else bZ W s):gY l0 ov W':=by
 have hl:∀ s,bZ ov s=if p.word=s then some p.w else bZ over s:=fun s=>by
  rw[hn.last,Ch,Br]
  grind [bZ]
 refine ⟨h.hb,hn.rise,fun q hq=>?_,hr,fun s=>?_⟩
 ·have h1:=(lJ hn.rise q.word q.w).2 hq;rw[hl] at h1
  split at h1
  ·simp_all
  exact h.ovr _<|(lJ h.rise q.word q.w).1 h1
 rw[hW];unfold vR;rw[hl]
 by_cases e:p.word=s
 ·rw[aab e,aab e]
 rw[aaa e,aaa e,h.lk];rfl
theorem gY.compact{l0 over W:List az}(h:gY l0 over W):gY W [] W:=⟨h.hr,ST,ST,h.hr,fun s=>rfl⟩
def fu(l:List az)(p:az):List az:=l.filter (fun x=>bA x p)++p::l.filter (fun x=>bA p x)
def fh(l:List az)(s:List UInt8):List az:=l.filter fun x=>decide (x.word≠s)
theorem yE{a b:az}(h:bA a b=true):a.word≠b.word:=fun e=>by
 simp_all [oa,bA]
theorem yD{a b:az}(h:a.word≠b.word):bA a b=true\/bA b a=true:=by
 cases g:bA a b with
 | true=>simp
 | false=>cases g2:bA b a with
  | true=>simp
  | false=>exact absurd (u7 _ _ g g2) h
def E6{l:List az}{p x:az}:x∈fu l p↔x=p\/(x∈l/\x.word≠p.word):=by
 unfold fu;simp only[aal,aau,abb]
 grind [yE,yD]
def DC{l:List az}{p:az}(h:jD l):jD (fu l p):=by
 unfold fu;rw[jD,aby];refine ⟨h.filter _,aaE.2 ⟨fun x hx=>(abb.1 hx).2,h.filter _⟩,fun a ha b hb=>?_⟩;have h1:=(abb.1 ha).2;rcases aau.1 hb with e|e
 ·rw[e];exact h1
 exact iW.tr _ _ _ h1 (abb.1 e).2
def LZ{l:List az}{p:az}(h:jD l)(s:List UInt8):bZ (fu l p) s=if p.word=s then some p.w else bZ l s:=by
 apply Option.ext
 intro w;rw[lJ (DC h),E6]
 by_cases e:p.word=s
 ·rw[aab e]
  constructor
  ·grind
  intro g;cases g;exact .inl (by rw[<-e])
 rw[aaa e,lJ h]
 grind
theorem sC(p:az):∀ l:List az,ba (fu l p)=ba (fh l p.word)+1
 | []=>rfl
 | x::l=>by
  have ih:=sC p l;unfold fu fh at ih ⊢;simp only[aaf,aaj,List.filter_cons,ne_eq] at ih ⊢
  by_cases e:x.word=p.word
  ·simp_all [oa,bA]
  rcases yD e with g|g
  ·have h2:bA p x=false:=by
    cases q:bA p x with
    | false=>rfl
    | true=>have:=iW.tr _ _ _ g q;rw[iW.irr] at this;exact Bool.noConfusion this
   grind
  have h2:bA x p=false:=by
   cases q:bA x p with
   | false=>rfl
   | true=>have:=iW.tr _ _ _ g q;rw[iW.irr] at this;exact Bool.noConfusion this
  grind
def Ly{l:List az}{s:List UInt8}(h:bZ l s=none):fh l s=l:=by
 simp_all [fh,bZ]
theorem uq{s:List UInt8}:∀ {l:List az},jD l->ba (fh l s)+(if (bZ l s).isSome then 1 else 0)=ba l
 | [],_=>rfl
 | x::l,h=>by
  obtain ⟨h1,h2⟩:=aaE.1 h;rw[Br]
  by_cases e:x.word=s
  ·have hn:bZ l s=none:=by
    grind [yE,bZ]
   have hr:fh (x::l) s=l:=by
    have:=Ly hn
    simp_all [fh]
   rw[hr,hn];simp[e]
  have ih:=uq (s:=s) h2
  grind [fh]
def Lz{l:List az}{t:List UInt8}(h:jD l)(s:List UInt8):bZ (fh l t) s=if t=s then none else bZ l s:=by
 have hr:jD (fh l t):=h.filter _
 apply Option.ext
 intro w;rw[lJ hr,fh,abb]
 by_cases e:t=s
 ·rw[aab e];simp[e]
 rw[aaa e,lJ h]
 grind
def d7.ins{W:List az}{p:az}(h:d7 W)(hw:iS p.word)(h1:1<=p.w/\p.w<=1048576)(hf:(bZ W p.word).isSome=true\/ba W<4096):d7 (fu W p):=by
 have hl:=uq (s:=p.word) h.rise;have hi:=sC p W;have:=h.few;refine ⟨?_,fun x hx=>?_,DC h.rise⟩
 ·grind
 rcases E6.1 hx with e|⟨e,_⟩
 ·rw[e];exact ⟨hw,h1⟩
 exact h.one x e
def d7.rmv{W:List az}(h:d7 W)(s:List UInt8):d7 (fh W s):=
 ⟨aat (act _ _) h.few,fun x hx=>h.one x (abb.1 hx).1,h.rise.filter _⟩
def Eh{l0 over W:List az}(h:gY l0 over W)(s:List UInt8):oC l0 over s=((bZ W s).getD 0,(bZ W s).isSome):=by
 unfold oC;rw[h.lk,JU h.hb.rise];unfold vR;cases hF:bZ over s with
 | some w=>
  have hm:=h.ovr _ ((lJ h.rise s w).1 hF)
  grind [decide]
 | none=>rfl
end
section
attribute [local irreducible] Code.wp wpList Calls
def Ru{T:br}{ops:Array Oper}{Q:Exit->Act->World->Prop}{rest rest':List Oper}{n:Nat}{l l':Sl}
  [hT:TabOK P T] (k:Nat) {d:Nat} {si:eU} {i j:Int} (M N:Nat) (h0:qL T ops n k rest l=some (d,si,i,j,rest',l')) (hi:i=(M:Int)) (hj:j=(N:Int)) (hMN:M<=N) (hz0:0<si.size) (hr:N*si.bytes<=roomBytes) (hN0:0<N) (hN:N<=16777216) (hb2:si.bytes<=1024)
  (hk:∀ b cur,cur.size=N*si.size->WL P w0 ops Q rest' n ((d,.slice (some ⟨b,0,none⟩) M N)::l') K (pt b cur si.elem::hs)):WL P w0 ops Q rest n l K hs:=by
 unfold qL at h0
 split at h0
 ·rename_i o r l2 ho
  split at h0
  ·rename_i d' t x y hd hop
   split at h0
   ·rename_i si' ii jj hb hsi hx hy;simp only[aad,aai] at h0;obtain ⟨rfl,rfl,rfl,rfl,rfl,rfl⟩:=h0;subst hi hj;obtain ⟨h1,im,h2,h3,h4,h5⟩:=hT.sl hsi
    refine WL.at' ho fun hg=>WL.val (R:=fun u K' hs'=>∃ b cur,u=.slice (some ⟨b,0,none⟩) M N/\cur.size=N*si'.size/\K'=K/\hs'=pt b cur si'.elem::hs) hd hb hg
     (fun A w ha hw=>⟨.slice (some ⟨w.heap.size,0,none⟩) M N,_,K,_,?_,hw.alloc _,w.heap.size,(Array.range (N*si'.size)).map (fun x=>si'.zero.cells[x % si'.zero.cells.size]!),rfl,ST,rfl,rfl⟩) ?_
    ·have e1:IntKind.i64.wrap ((N:Nat):Int)=(N:Int):=by simp[IntKind.wrap,IntKind.bits,IntKind.signed];omega
     have e2:IntKind.i64.wrap ((M:Nat):Int)=(M:Int):=by simp[IntKind.wrap,IntKind.bits,IntKind.signed];omega
     simp only[execOp,hop,ha.ev hx,ha.ev hy];rw[h5.symm] at hr hb2;have hm:im.bytes*N<=1024*16777216:=ab2 hb2 hN
     have c2:¬(281474976710656:Int)<(im.bytes:Int)*(N:Int):=by
      have:((im.bytes*N:Nat):Int)=(im.bytes:Int)*(N:Int):=by push_cast;rfl
      omega
     have c1:¬((N:Nat):Int)<0:=qo
     have c4:¬((M:Nat):Int)<0:=qo
     have c5:¬((N:Nat):Int)<((M:Nat):Int):=qo
     have c6:¬N<M:=qo
     have c3:¬roomBytes<N*im.bytes:=qo
     have hzz:N≠0:=qo
     have hz4:N*si'.size≠0:=Nat.mul_ne_zero hzz qo;simp[Instr.makeSlice,asInt,asIntOf,run_underlying h1,sizeOf,typeInfo,h2,h4,e1,e2,c1,c2,c3,c4,c5,c6,askRoom,newRow,zeroValue,h3,hz4,pt]
    rintro u K' hs' ⟨b,cur,rfl,hc,rfl,rfl⟩;exact hk b cur hc
   simp at h0
  simp at h0
 simp at h0
def Md{css:List (List Value)}{xs:List az}(h:eO cC css xs){u:Value}(hu:u∈css.flatten):u.oneCell'=true:=by
 obtain ⟨c,hcm,huc⟩:=List.mem_flatten.1 hu;obtain ⟨j,hj⟩:=aa1.1 hcm;obtain ⟨h1,h2⟩:=aas.1 hj;have hl:=h.len;obtain ⟨y,hy⟩:∃ y,xs[j]?=some y:=⟨_,aae qo⟩;obtain ⟨c',hc',hr⟩:=h.get hy;rw[hj] at hc';cases hc';exact mH c y hr u huc
theorem lU.le{K K':PH}(l:Le K K'){b:Nat}{base:Int}{ss:List bg}(h:lU K b base ss):lU K' b base ss:=
 let ⟨ao,c,h1,h2⟩:=h.sta
 ⟨h.bas.le l,ao,c,h1.le l,h2.le l fun _ _=>gF.le l⟩
def d8.le'{K':PH}(l:Le K K')(h:d8 K):d8 K':=fun j hj=>(h j hj).le l
theorem iV.le{K K':PH}(l:Le K K'){b:Nat}{l0 over:List az}{many:Nat}{h:PH}(x:iV K b l0 over many h):iV K' b l0 over many h:=
 let ⟨bw,ao,c,h1,h2,h3⟩:=x
 ⟨bw,ao,c,h1,h2.le l,h3.le l fun _ _ h=>h⟩
def EU{h:PH}(b:Nat)(l0 over W:List az)(many:Nat)(hD:iV K b l0 over many h)(hI:gY l0 over W)(ho:ba over<=64)(hG:d8 K):
  aj w0 51 [SX b] K (h::hs)
   (fun v K' hs'=>Le K K'/\∃ ao c g,v=.slice ao (ba W) c/\hs'=g::h::hs/\bN 2 127 cC g ao (ba W) c W):=by
 obtain ⟨bw,ao,c,rfl,hW,x⟩:=hD;have hbk:=pz hI.hb;have hf0:=hI.hb.few;refine bH Tryz.func51 ?_;refine bI [pt b #[SX bw,.slice ao (ba over) c,.int .i64 (many:Nat)] 223] 12 [0,2,4,6,12,14,16,18,9,11,21,22] ST qk qk (au ?_);refine cl 0 I (HG bw) ?_;rintro v7 K7 hs7 ⟨rfl,b1,rfl,rfl⟩;refine WL.frz fun K2 le2 le3=>fF ST le2 (au ?_);refine cl 0 I (Bz bw b1 (dl l0).1 (dl l0).2 (by rcases hbk.1 with ⟨e,_⟩|e;exact .inl e;exact .inr e) (hW.le le2) (d8.le' le2 hG) ((bR.pt I).le le3)) ?_;rintro v8 K8 hs8 ⟨rfl,ao8,c8,g8,rfl,rfl,o8⟩;rw[hbk.2.1] at o8 ⊢;refine WL.frz fun K3 dm le5=>fF ST dm (au ?_);refine cl 0 I (NB ao8 ao c8 c l0 over (o8.slS.le le5 fun _ _ h=>h) ((x.le (le2.trans dm) fun _ _ h=>h)) qo) ?_;rintro v13 K13 hs13 ⟨rfl,ao9,c9,g9,out,hn,rfl,rfl,o9⟩;rw[hI.merged hn] at o9 ⊢;refine fF ST (Le.refl _) (au ?_)
 exact ay I I ⟨le2.trans dm,ao9,c9,g9,I,I,o9⟩
def Cd{h:PH}(b:Nat)(l0 over W:List az)(many:Nat)(hD:iV K b l0 over many h)(hI:gY l0 over W)(ho:ba over<=64)(hG:d8 K):
  aj w0 41 [SX b] K (h::hs)
   (fun v K' hs'=>Le K K'/\hs'=h::hs/\∃ aoS cS,v=.agg #[.int .i64 (dl W).1,.slice aoS (ba (dl W).2) cS]/\bF 3 (gF K') K' aoS (ba (dl W).2) cS (dl W).2):=by
 refine dj Tryz.func41 ?_;refine ac9 (al 0 (.agg #[.int .i64 0,.slice none 0 0]) I qk fun b2=>WL.perm (aaq _ _ _) (au ?_));refine cl 1 I (EU b l0 over W many hD hI ho hG) ?_;rintro v7 K7 hs7 ⟨le7,ao7,c7,g7,rfl,rfl,o7⟩;refine WL.frz fun K2 le2 le3=>cl 0 I (Gy ao7 (ba W) c7 W (o7.slS.le le3 fun _ _ h=>h) hI.hr (d8.le' (le7.trans le2) hG)) ?_;rintro v8 K8 hs8 ⟨rfl,le8,aoS,cS,rfl,hS⟩;refine al 3 (.agg #[.int .i64 0,.slice none 0 0]) I qk fun b3=>?_;refine bJ 0 0 I I qk I I ?_;refine fin 1 I (ac6 (dy 0 0 I I qk ?_));refine bJ 0 2 I I qk I I ?_;exact fin 0 I (adb (WQ.perm ((aaq _ _ _).cons _) (ml 1 2 I I I qk (⟨le7.trans (le2.trans le8),I,aoS,cS,I,hS⟩))))
def Kz{h:PH}(b:Nat)(l0 over W:List az)(many:Nat)(hD:iV K b l0 over many h)(hI:gY l0 over W)(ho:ba over<=64)(hG:d8 K):
  aj w0 171 [SX b] K (h::hs)
   (fun v K' hs'=>Le K K'/\v=.tuple #[]/\∃ h',hs'=h'::hs/\iV K' b W [] many h'):=by
 refine dj Tryz.func171 ?_;refine ac9 (cl 1 I (Cd b l0 over W many hD hI ho hG) ?_);rintro v6 K6 hs6 ⟨le6,rfl,aoS,cS,rfl,hS⟩;refine cl 0 I (yQ W hI.hr aoS cS hS (d8.le' le6 hG)) ?_;rintro v7 K7 hs7 ⟨le7,rfl,bw2,rfl,hW2⟩;obtain ⟨bw,ao,c,rfl,hW,x⟩:=hD;refine au ?_;exact gW I ⟨le6.trans le7,I,_,I,bw2,none,0,I,hW2,bF.nil _ _ _ _⟩
def xG{h:PH}(b:Nat)(l0 over W W':List az)(p:az)(many:Nat)(hD:iV K b l0 over many h)(hI:gY l0 over W)(ho:ba over<=32)(hG:d8 K)
  (hw:iS p.word/\0<=p.w/\p.w<=1048576) (hr:d7 W') (hW':∀ s,bZ W' s=if p.word=s then (if p.w=0 then none else some p.w) else bZ W s):
  aj w0 141 [SX b,.agg (bK p).toArray] K (h::hs)
   (fun v K' hs'=>Le K K'/\v=.tuple #[]/\∃ h' l1 ov,hs'=h'::hs/\iV K' b l1 ov many h'/\gY l1 ov W'/\ba ov<=32):=by
 obtain ⟨bw,ao,c,rfl,hW,x⟩:=hD;obtain ⟨vs,hvs⟩:=x.isS;refine dj Tryz.func141 ?_;refine ac9 (bx 0 I fun b3=>WL.hs (pt b3 #[str p.word,.int .i64 p.w] 127::pt b #[SX bw,.slice ao (ba over) c,.int .i64 (many:Nat)] 223::hs) I (au ?_));refine bI [pt b #[SX bw,.slice ao (ba over) c,.int .i64 (many:Nat)] 223] 13 [0,2,4,6,8,10,12,14,16,18,20,23,24] ST qk qk (au ?_);refine bQ qk 1 I (v':=.int .i64 (ba over+1:Nat)) (ac qo) (au ?_);refine Ru 0 (ba over) (ba over+1) I I I qo SU (by show (ba over+1)*24<=roomBytes;simp only[roomBytes];omega) qo qo SU fun b16 cur hcur=>fF ST (Le.refl _) (au ?_);obtain ⟨css,q1,q2,q3,q4⟩:=x;have hcl:ba css.flatten=ba over*2:=q2.1;have htk:css.flatten.take (ba over*2)=css.flatten:=aar qo
 refine zQ 0 0 (ba over) I I I (.inl I) q2 qo (fun u hu=>Md q3 (aaR hu)) (by rw[hcur];show 0+ba over*2<=(ba over+1)*2;omega) (fin 0 rfl (ac6 (dy 2 1 rfl rfl qk (lit 0 (bK p).toArray rfl SU qk fun b26=>?_))))
 have oX:bN 2 127 cC (pt b16 (cur.toList.take 0++css.flatten.take (ba over*2)++cur.toList.drop (0+ba over*2)).toArray 127) (some ⟨b16,0,none⟩) (ba over) (ba over+1) over:=by
  have hc2:ba cur.toList=(ba over+1)*2:=by rw[abW];exact hcur
  refine ⟨css,q1,.inl ⟨hcl,qo,by simp only[maxLen];omega,.inr ⟨b16,0,_,rfl,rfl,?_,?_⟩⟩,q3,q4⟩
  ·simp only[abL,aaf,aam,aan];omega
  rw[htk];simp[hcl]
 refine jU 0 1 (bK p) p I I I oX I I (mH _ p I) I SU (by show (_+1)*24<=_;omega) (by simp only[maxLen];omega) fun ao27 c27 g27 o27=>WL.drop (WL.frz fun K2 le2 le3=>WL.drop ?_);have hlp:ba (over++[p])=ba over+1:=by simp
 refine cl 0 I (by rw[<-hlp];exact OY ao27 c27 (over++[p]) (by rw[hlp];exact o27.slS.le le3 fun _ _ h=>h) qo) ?_;rintro v28 K28 hs28 ⟨rfl,ao28,c28,g28,ov,hn,rfl,rfl,o28⟩;have hol:ba ov<=ba over+1:=by have:=hn.len;simpa using this
 have hI2:=hI.change hw hn hr hW';refine WL.frz fun K3 dm le5=>?_;have hD2:iV K3 b l0 ov many (pt b #[SX bw,.slice ao28 (ba ov) c28,.int .i64 (many:Nat)] 223):=⟨bw,ao28,c28,rfl,hW.le (le2.trans dm),o28.slS.le le5 fun _ _ h=>h⟩;refine stp 2 0 I I I I (WL.hs (pt b #[SX bw,.slice ao28 (ba ov) c28,.int .i64 (many:Nat)] 223::hs) I (au ?_));refine af 1 I fun b36 h36=>fin 0 I (th (ah h36 I (fun e2=>?_) (fun e2=>?_)))
 ·refine rg (cl 1 I (Kz b l0 ov W' many hD2 hI2 qo (d8.le' (le2.trans dm) hG)) ?_);rintro v38 K38 hs38 ⟨le6,rfl,h',rfl,hD3⟩;exact fin 0 I (gW I ⟨(le2.trans dm).trans le6,I,h',W',[],I,hD3,hI2.compact,ST⟩)
 exact sk<|gW I ⟨le2.trans dm,I,_,l0,ov,I,hD2,hI2,qo⟩
end
section
def er(W:List az)(s:List UInt8)(w:Int):List az×Int×Int:=
 if ¬iS s then (W,0,140) else if w<1\/w>1048576 then (W,0,141) else if (bZ W s).isSome=false/\ba W=4096 then (W,0,142) else (fu W ⟨s,w⟩,(bZ W s).getD 0,0)
def eG(W:List az)(s:List UInt8):List az×Int×Int:=
 if ¬iS s then (W,0,140) else if (bZ W s).isSome=false then (W,0,143) else (fh W s,(bZ W s).getD 0,0)
def A7{W:List az}(h:d7 W)(s:List UInt8)(w:Int):d7 (er W s w).1:=by
 unfold er
 split
 ·exact h
 rename_i h1
 split
 ·exact h
 rename_i h2
 split
 ·exact h
 rename_i h3;refine h.ins (Classical.not_not.1 h1) ⟨?_,?_⟩ ?_
 ·show 1<=w;omega
 ·show w<=1048576;omega
 have:=h.few;cases e:(bZ W s).isSome with
 | true=>exact .inl rfl
 | false=>exact .inr (by rw[e] at h3;simp at h3;omega)
def Bn{W:List az}(h:d7 W)(s:List UInt8):d7 (eG W s).1:=by
 unfold eG
 split
 ·exact h
 split
 ·exact h
 exact h.rmv s
attribute [local irreducible] Code.wp wpList Calls
def P4{w0:World}{K h:PH}{hs:List PH}(b:Nat)(l0 over W:List az)(s:List UInt8)(w:Int)(hD:iV K b l0 over (ba W) h)(hI:gY l0 over W)(ho:ba over<=32)(hG:d8 K)(hl:ba s<1099511627776):
  aj w0 95 [SX b,str s,.int .i64 w] K (h::hs)
   (fun v K' hs'=>Le K K'/\v=.tuple #[.int .i64 (er W s w).2.1,.int .i64 (er W s w).2.2]/\∃ h' l1 ov,hs'=h'::hs/\iV K' b l1 ov (ba (er W s w).1) h'/\gY l1 ov (er W s w).1/\ba ov<=32):=by
 have hfew:=hI.hr.few;refine bH Tryz.func95 ?_;refine cl 2 I (El b l0 over (ba W) hD hI.hb qo s hl hG) ?_;rintro v13 K13 hs13 ⟨rfl,rfl,rfl⟩;rw[Eh hI];obtain ⟨t9,ht9⟩:∃ t,t=(bZ W s).isSome:=⟨_,rfl⟩;have h13:t9=true↔(bZ W s).isSome=true:=by rw[ht9]
 rw[<-ht9];refine au ?_;refine cl 1 I (uP s hG) ?_;rintro v18 K18 hs18 ⟨rfl,rfl,t18,rfl,h18⟩;refine eE 0 _ I (jc h18) fun b19 h19=>fin 1 I (th (ah h19 I (fun e1=>?_) (fun e1=>?_)))
 ·refine au ?_;have e:er W s w=(W,0,140):=by unfold er;rw[aab e1]
  rw[e];exact bL I I I ⟨Le.refl _,I,h,l0,over,I,hD,hI,ho⟩
 refine ac9 (af 1 I fun b22 h22=>?_)
 refine' eB 1 3 26 [22,23] h22 I I I I I I I (fun _=>?x3) (fun b26 h26=>?_)
 case x3=>
  exact af 1 I fun b25 h25=>fin 1 I<|dk h25 I I I
 refine fin 1 I<|th (ah h26 I (fun e5=>?_) (fun e5=>?_))
 ·refine au ?_;have e:er W s w=(W,0,141):=by unfold er;rw[aaa e1,aab qo]
  rw[e];exact bL I I I ⟨Le.refl _,I,h,l0,over,I,hD,hI,ho⟩
 refine ac9 ?_;have hDk:=hD;obtain ⟨bw,ao,c,rfl,hW,x⟩:=hD;refine eE 1 _ I (jc h13) fun b29 h29=>?_
 refine' gu 1 6 36 [29,30] h29 I I I I I I I (fun _=>?x6) (fun b36 h36=>?_)
 case x6=>
  refine au ?_;exact af 0 I fun b35 h35=>fin 1 I (dk h35 I I I)
 refine fin 1 I<|th (ah h36 I (fun e8=>?_) (fun e8=>?_))
 ·refine au ?_;have e:er W s w=(W,0,142):=by unfold er;rw[aaa e1,aaa qo,aab ⟨by simpa using e8.1,qo⟩]
  rw[e];exact bL I I I ⟨Le.refl _,I,_,l0,over,I,hDk,hI,ho⟩
 have hnf:¬((bZ W s).isSome=false/\ba W=4096):=fun g=>e8 ⟨by simpa using g.1,qo⟩;have e:er W s w=(fu W ⟨s,w⟩,(bZ W s).getD 0,0):=by unfold er;rw[aaa e1,aaa qo,aaa hnf]
 have hr:=A7 hI.hr s w;rw[e] at hr ⊢;have hli:ba (fu W ⟨s,w⟩)=ba (fh W s)+1:=sC ⟨s,w⟩ W;have hlr:=uq (s:=s) hI.hr.rise
 have hW':∀ q,bZ (fu W ⟨s,w⟩) q=if (⟨s,w⟩:az).word=q then (if (⟨s,w⟩:az).w=0 then none else some (⟨s,w⟩:az).w) else bZ W q:=fun q=>by
  rw[LZ hI.hr.rise,aaa (show ¬(⟨s,w⟩:az).w=0 from by show ¬w=0;omega)]
 refine ac9 (eE 1 _ I (jc h13) fun b39 h39=>fin 1 I<|th (ah h39 I (fun e9=>?_) (fun e9=>?_)))
 ·have hlen:ba (fu W ⟨s,w⟩)=ba W+1:=by
   rw[aaa e9] at hlr;omega
  refine au ?_;refine ar 0 I (v':=.int .i64 (ba W+1:Nat)) (ac qo) (stp 2 0 I I I I (WL.hs (pt b #[SX bw,.slice ao (ba over) c,.int .i64 (ba W+1:Nat)] 223::hs) I (au ?_)));refine bd 3 (.agg (bK ⟨s,w⟩).toArray) I (fun w=>by kernel_rfl) (cl 0 I (xG b l0 over W (fu W ⟨s,w⟩) ⟨s,w⟩ (ba W+1) ⟨bw,ao,c,I,hW,x⟩ hI ho hG ⟨Classical.not_not.1 e1,by show 0<=w;omega,by show w<=1048576;omega⟩ hr hW') ?_);rintro v51 K51 hs51 ⟨le,rfl,h',l1,ov,rfl,hD',hI',ho'⟩;refine au ?_;exact bL I I I ⟨le,I,h',l1,ov,I,by rw[hlen];exact hD',hI',ho'⟩
 have hlen:ba (fu W ⟨s,w⟩)=ba W:=by
  rw[aab (Classical.not_not.1 e9)] at hlr;omega
 refine au ?_;refine bd 3 (.agg (bK ⟨s,w⟩).toArray) I (fun w=>by kernel_rfl) (cl 0 I (xG b l0 over W (fu W ⟨s,w⟩) ⟨s,w⟩ (ba W) hDk hI ho hG ⟨Classical.not_not.1 e1,by show 0<=w;omega,by show w<=1048576;omega⟩ hr hW') ?_);rintro v51 K51 hs51 ⟨le,rfl,h',l1,ov,rfl,hD',hI',ho'⟩;refine au ?_;exact bL I I I ⟨le,I,h',l1,ov,I,by rw[hlen];exact hD',hI',ho'⟩
def LE{h:PH}(b:Nat)(l0 over W:List az)(s:List UInt8)(hD:iV K b l0 over (ba W) h)(hI:gY l0 over W)(ho:ba over<=32)(hG:d8 K)(hl:ba s<1099511627776):
  aj w0 98 [SX b,str s] K (h::hs)
   (fun v K' hs'=>Le K K'/\v=.tuple #[.int .i64 (eG W s).2.1,.int .i64 (eG W s).2.2]/\∃ h' l1 ov,hs'=h'::hs/\iV K' b l1 ov (ba (eG W s).1) h'/\gY l1 ov (eG W s).1/\ba ov<=32):=by
 have hfew:=hI.hr.few;refine bH Tryz.func98 ?_;refine cl 2 I (El b l0 over (ba W) hD hI.hb qo s hl hG) ?_;rintro v11 K11 hs11 ⟨rfl,rfl,rfl⟩;rw[Eh hI];obtain ⟨t9,ht9⟩:∃ t,t=(bZ W s).isSome:=⟨_,rfl⟩;have h11:t9=true↔(bZ W s).isSome=true:=by rw[ht9]
 rw[<-ht9];refine au ?_;refine cl 1 I (uP s hG) ?_;rintro v16 K16 hs16 ⟨rfl,rfl,t16,rfl,h16⟩;refine eE 0 _ I (jc h16) fun b17 h17=>fin 1 I (th (ah h17 I (fun e1=>?_) (fun e1=>?_)))
 ·refine au ?_;have e:eG W s=(W,0,140):=by unfold eG;rw[aab e1]
  rw[e];exact bL I I I ⟨Le.refl _,I,h,l0,over,I,hD,hI,ho⟩
 refine ac9 (eE 1 _ I (jc h11) fun b20 h20=>fin 1 I<|th (ah h20 I (fun e2=>?_) (fun e2=>?_)))
 ·refine au ?_;have e:eG W s=(W,0,143):=by unfold eG;rw[aaa e1,aab (by simpa using e2)]
  rw[e];exact bL I I I ⟨Le.refl _,I,h,l0,over,I,hD,hI,ho⟩
 have e:eG W s=(fh W s,(bZ W s).getD 0,0):=by unfold eG;rw[aaa e1,aaa (by simpa using e2)]
 have hr:=Bn hI.hr s;rw[e] at hr ⊢;have hlr:=uq (s:=s) hI.hr.rise;rw[aab (Classical.not_not.1 e2)] at hlr
 have hW':∀ q,bZ (fh W s) q=if (⟨s,0⟩:az).word=q then (if (⟨s,0⟩:az).w=0 then none else some (⟨s,0⟩:az).w) else bZ W q:=fun q=>by
  rw[Lz hI.hr.rise,aab (show (⟨s,0⟩:az).w=0 from rfl)]
 obtain ⟨bw,ao,c,rfl,hW,x⟩:=hD;refine au ?_;refine ar 0 I (v':=.int .i64 ((ba (fh W s):Nat):Int)) (by rw[ac qo];congr 1;omega) (stp 2 0 rfl rfl rfl rfl (WL.hs (pt b #[SX bw,.slice ao (ba over) c,.int .i64 ((ba (fh W s):Nat):Int)] 223::hs) rfl (au ?_)));refine bd 2 (.agg (bK ⟨s,0⟩).toArray) I (fun w=>by kernel_rfl) (cl 0 I (xG b l0 over W (fh W s) ⟨s,0⟩ (ba (fh W s)) ⟨bw,ao,c,I,hW,x⟩ hI ho hG ⟨Classical.not_not.1 e1,show (0:Int)<=0 by decide,show (0:Int)<=1048576 by decide⟩ hr hW') ?_);rintro v31 K31 hs31 ⟨le,rfl,h',l1,ov,rfl,hD',hI',ho'⟩;refine au ?_;exact bL I I I ⟨le,I,h',l1,ov,I,hD',hI',ho'⟩
end
section
def Ct.atT{f:FuncId}{args:List Value}{a b:PH}{S:Value->PH->PH->PH->Prop}(i j:Nat)(hi:hs[i]?=some a)(hj:(hs.eraseIdx i)[j]?=some b)
  (c:Ct P w0 f args K (a::b::(hs.eraseIdx i).eraseIdx j) (fun v K' hs'=>∃ a' b',hs'=a'::b'::(hs.eraseIdx i).eraseIdx j/\S v K' a' b')):
  Ct P w0 f args K hs (fun v K' hs'=>∃ a' b',hs'=((hs.eraseIdx i).set j b').insertIdx i a'/\S v K' a' b'):=by
 have p1:=ig hs i a hi;have p2:=ig (hs.eraseIdx i) j b hj;refine ⟨c.1,fun w hw=>(c.2 w (hw.perm (p1.trans (p2.cons a)))).mono ?_⟩;rintro e w' ⟨v,K',hs',rfl,⟨a',b',rfl,hS⟩,hw'⟩;have q2:=pu (hs.eraseIdx i) j b b' hj
 have hil:i<=ba ((hs.eraseIdx i).set j b'):=by
  have:i<ba hs:=(aas.1 hi).1;rw[aay,List.length_eraseIdx,aab this];omega
 exact ⟨v,K',_,I,⟨a',b',I,hS⟩,hw'.perm ((q2.cons a').trans (List.perm_insertIdx a' _ hil).symm)⟩
def dU(W:List az)(rows:List d9)(c:bM):List az×List d9×rC:=
 if c.kind=1 then (if ba rows=4096 then (W,rows,⟨152,0,0⟩) else (W,rows++[fO],⟨0,ba rows+1,0⟩))
 else if ¬(c.kind=2\/c.kind=3) then (W,rows,⟨161,0,0⟩)
 else if (eA rows c.ses c.seq).2.2≠0 then (W,rows,⟨(eA rows c.ses c.seq).2.2,0,0⟩)
 else if (eA rows c.ses c.seq).2.1=true then (W,rows,(eA rows c.ses c.seq).1)
 else if c.kind=2 then ((er W c.word c.wt).1,rows.set (c.ses-1) ⟨c.seq,⟨(er W c.word c.wt).2.2,0,(er W c.word c.wt).2.1⟩⟩,⟨(er W c.word c.wt).2.2,0,(er W c.word c.wt).2.1⟩)
 else ((eG W c.word).1,rows.set (c.ses-1) ⟨c.seq,⟨(eG W c.word).2.2,0,(eG W c.word).2.1⟩⟩,⟨(eG W c.word).2.2,0,(eG W c.word).2.1⟩)
def Gw{l:List d9}{id seq:Nat}(h1:(eA l id seq).2.2=0)(h2:(eA l id seq).2.1=false):(eA l id seq).1=fq/\nr l id seq:=by
 unfold eA at *
 by_cases e1:id=0\/ba l<id
 ·rw[aab e1] at h1;exact absurd h1 SU
 rw[aaa e1] at h1 h2 ⊢
 by_cases e2:seq=0\/seq<(l.getD (id-1) fO).seq
 ·rw[aab e2] at h1;exact absurd h1 SU
 rw[aaa e2] at h1 h2 ⊢
 by_cases e3:seq=(l.getD (id-1) fO).seq
 ·rw[aab e3] at h2;exact absurd h2 ST
 rw[aaa e3];refine ⟨I,⟨qo,qo⟩,qo⟩
attribute [local irreducible] Code.wp wpList Calls
def lj(K:PH)(b:Nat)(W:List az)(rows:List d9)(m:List PH):Prop:=
 ∃ bd bt l0 over hd a g,m=[pt b #[SX bd,SX bt] 103,hd,a,g]/\iV K bd l0 over (ba W) hd/\gY l0 over W/\ba over<=32/\nc bt rows [a,g]/\ba rows<=4096/\∀ r∈rows,r.seq<=18446744073709551615
theorem lj.le{K K':PH}(l:Le K K'){b:Nat}{W:List az}{rows:List d9}{m:List PH}(h:lj K b W rows m):lj K' b W rows m:=
 let ⟨bd,bt,l0,over,hd,a,g,e,h1,h2⟩:=h
 ⟨bd,bt,l0,over,hd,a,g,e,h1.le l,h2⟩
def OZ(hG:d8 K):
  aj w0 30 [] K hs (fun v K' hs'=>Le K K'/\∃ b m,hs'=m++hs/\lj K' b [] [] m/\v=SX b):=by
 refine bH Tryz.func30 ?_;refine cl 0 I (Qs hG) ?_;rintro v1 K1 hs1 ⟨le1,bD,hd,rfl,hD,rfl⟩;refine cl 0 I Qr ?_;rintro v2 K2 hs2 ⟨rfl,bt,m,rfl,hm,rfl⟩;have hm0:=hm;obtain ⟨ao,cap,g,rfl,o⟩:=hm;exact bd 0 (.agg #[SX bD,SX bt]) I (fun w=>by kernel_rfl) (bx 0 I fun b4=>fin 1 I (adb (WQ.perm ((((aaq _ _ _).cons _).trans (aaq _ _ _)).cons _) (ay I I ⟨le1,b4,_,I,⟨bD,bt,[],[],hd,_,g,I,hD,gY.nil,ST,hm0,ST,ST⟩,I⟩))))
def KM{m:List PH}(b:Nat)(W:List az)(rows:List d9)(hm:lj K b W rows m)(hG:d8 K):
  aj w0 16 [SX b] K (m++hs)
   (fun v K' hs'=>Le K K'/\∃ ao c,v=.slice ao (ba W) c/\hs'=m++hs/\bF 2 cC K' ao (ba W) c W):=by
 obtain ⟨bd,bt,l0,over,hd,a,g,rfl,hD,hI,ho,hTb,hr1,hr2⟩:=hm;refine dj Tryz.func16 ?_;refine ac9 (fin 1 I (ac6 (bE 3 0 I I I (WL.perm (aaq _ _ _) (cl 0 I (EU bd l0 over W (ba W) hD hI qo hG) ?_)))));rintro v7 K7 hs7 ⟨le7,ao,c,g7,rfl,rfl,o7⟩;refine WL.frz fun K2 le2 le3=>WL.perm (aaq _ _ _) (au ?_);exact ay I I ⟨le7.trans le2,ao,c,I,I,o7.slS.le le3 fun _ _ h=>h⟩
end
section
attribute [local irreducible] Code.wp wpList Calls
def zE(w0:World)(g:Nat)(s:List UInt8)(w:Int)(f:List az->List az×Int×Int):Prop:=
 ∀ {K h:PH} {hs:List PH} (b:Nat) (l0 over W:List az),iV K b l0 over (ba W) h->gY l0 over W->ba over<=32->d8 K ->
  aj w0 g [SX b,str s,.int .i64 w] K (h::hs)
   (fun v K' hs'=>∃ h',hs'=h'::hs/\(Le K K'/\v=.tuple #[.int .i64 (f W).2.1,.int .i64 (f W).2.2]/\∃ l1 ov,iV K' b l1 ov (ba (f W).1) h'/\gY l1 ov (f W).1/\ba ov<=32))
def PI(s:List UInt8)(w:Int)(hl:ba s<1099511627776):zE w0 95 s w (fun W=>er W s w):=fun b l0 over W hD hI ho hG=>
 (P4 b l0 over W s w hD hI ho hG hl).mono fun v K' hs' ⟨le,hv,h',l1,ov,e,h1,h2,h3⟩=>⟨h',e,le,hv,l1,ov,h1,h2,h3⟩
def PJ(s:List UInt8)(w:Int)(hl:ba s<1099511627776):zE w0 97 s w (fun W=>eG W s):=fun b l0 over W hD hI ho hG=>by
 refine bH Tryz.func97 ?_;refine cl 2 I (LE b l0 over W s hD hI ho hG hl) ?_;rintro v10 K10 hs10 ⟨le,rfl,h',l1,ov,rfl,h1,h2,h3⟩;refine au ?_;exact bL I I I ⟨h',I,le,I,l1,ov,h1,h2,h3⟩
def SC{m:List PH}(b:Nat)(W:List az)(rows:List d9)(c:bM)(hm:lj K b W rows m)(hG:d8 K)(hs1:c.ses<=18446744073709551615)(hs2:c.seq<=18446744073709551615)(hl:ba c.word<1099511627776):
  aj w0 35 [SX b,.agg c.v] K (m++hs)
   (fun v K' hs'=>Le K K'/\v=.agg (dI (dU W rows c).2.2).toArray/\∃ m',hs'=m'++hs/\lj K' b (dU W rows c).1 (dU W rows c).2.1 m'):=by
 obtain ⟨bD,bt,l0,over,hd,a,g,rfl,hD,hI,ho,hTb,hr1,hr2⟩:=hm;obtain ⟨kind,ses,seq,word,wt⟩:=c;dsimp only at hs1 hs2 hl;have hSt:lj K b W rows [pt b #[SX bD,SX bt] 103,hd,a,g]:=⟨bD,bt,l0,over,hd,a,g,rfl,hD,hI,ho,hTb,hr1,hr2⟩;refine dj Tryz.func35 ?_;refine ac9 (bx 0 I fun b3=>al 0 (.agg #[.int .i64 0,.int .u64 0,.int .i64 0]) I qk fun b4=>WL.hs (pt b4 (dI fq).toArray 54::pt b3 #[.int .i64 kind,.int .u64 (ses:Nat),.int .u64 (seq:Nat),str word,.int .i64 wt] 50::pt b #[SX bD,SX bt] 103::hd::a::g::hs) I (fin 0 I (ac6 ?_)))
 refine fin 1 I (th (jn (σ:=Nat×(List az->List az×Int×Int)) (fun s=>[(0,SX b),(3,SX b3),(4,SX b4),(5,.func (.func s.1) #[] #[])])
  (fun s=>pt b4 (dI fq).toArray 54::pt b3 #[.int .i64 kind,.int .u64 (ses:Nat),.int .u64 (seq:Nat),str word,.int .i64 wt] 50::pt b #[SX bD,SX bt] 103::hd::a::g::hs)
  (fun s=>kind≠1/\(kind=2\/kind=3)/\zE w0 s.1 word wt s.2/\s.2 W=if kind=2 then er W word wt else eG W word) ?_ ?_))
 ·refine au ?_;refine af 0 I fun b15 h15=>fin 1 I (th (ah h15 I (fun e2=>?_) (fun e2=>?_)))
  ·refine au ?_
   refine cl 0 I (Ct.atT (S:=fun v K' a' g'=>K'=K/\nc bt (if ba rows=4096 then rows else rows++[fO]) [a',g']/\v=.tuple #[.int .u64 (if ba rows=4096 then 0 else ba rows+1:Nat),.int .i64 (if ba rows=4096 then 152 else 0)]) 4 4 I I ((OT bt rows hTb hr1).mono fun v K' hs' ⟨e,m',e1,e3,e4⟩=>by
    obtain ⟨ao',c',g',rfl,o'⟩:=e3;exact ⟨_,g',e1,e,⟨ao',c',g',I,o'⟩,e4⟩)) ?_
   rintro v21 K21 hs21 ⟨a',g',rfl,rfl,hTb',rfl⟩;refine au ?_;refine bd 2 (.agg (dI ⟨if ba rows=4096 then 152 else 0,if ba rows=4096 then 0 else ba rows+1,0⟩).toArray) I (fun w=>by kernel_rfl) ?_;refine bJ 0 0 I I qk I I ?_;refine fin 0 I (adb (rB (jr (ml 0 2 I I I qk ?_))))
   have e:dU W rows ⟨kind,ses,seq,word,wt⟩=(W,if ba rows=4096 then rows else rows++[fO],⟨if ba rows=4096 then 152 else 0,if ba rows=4096 then 0 else ba rows+1,0⟩):=by
    grind [dU]
   rw[e];refine ⟨Le.refl _,I,_,I,bD,bt,l0,over,hd,a',g',I,hD,hI,ho,hTb',?_,?_⟩
   ·grind
   dsimp only
   split
   ·exact hr2
   intro r hr;rcases aal.1 hr with h|h
   ·exact hr2 r h
   simp at h;subst h;decide
  refine ac9 (af 0 I fun b28 h28=>fin 1 I<|th (ah h28 I (fun e4=>?_) (fun e4=>?_)))
  ·refine sk (bl ?_);exact jx (95,fun W=>er W word wt) ⟨e2,.inl e4,PI word wt hl,by rw[aab e4]⟩ sb I I
  refine ac9 (af 0 I fun b30 h30=>fin 1 I<|th (ah h30 I (fun e6=>?_) (fun e6=>?_)))
  ·refine rg (fin 1 I (bl ?_));exact jx (97,fun W=>eG W word) ⟨e2,.inr e6,PJ word wt hl,by rw[aaa e4]⟩ sb I I
  refine ac9 (bd 0 (.agg (dI ⟨161,0,0⟩).toArray) I (fun w=>by kernel_rfl) ?_);refine bJ 0 0 I I qk I I ?_;refine fin 0 I (adb (rB (jr (ml 0 2 I I I qk ?_))))
  have e:dU W rows ⟨kind,ses,seq,word,wt⟩=(W,rows,⟨161,0,0⟩):=by
   simp_all [dU]
  rw[e];exact ⟨Le.refl _,I,_,I,hSt⟩
 rintro ⟨gf,f⟩ ⟨hk1,hk2,hF,hfW⟩;dsimp only at *;refine jn (σ:=Nat) (fun s=>[(0,SX b),(3,SX b3),(4,SX b4),(5,.func (.func gf) #[] #[]),(8,SX s),(9,.bool (eA rows ses seq).2.1),(10,.int .i64 (eA rows ses seq).2.2)]) (fun s=>pt s (dI (eA rows ses seq).1).toArray 54::pt b4 (dI fq).toArray 54::pt b3 #[.int .i64 kind,.int .u64 (ses:Nat),.int .u64 (seq:Nat),str word,.int .i64 wt] 50::pt b #[SX bD,SX bt] 103::hd::a::g::hs) (fun s=>True) ?_ ?_
 ·refine bI [pt b3 #[.int .i64 kind,.int .u64 (ses:Nat),.int .u64 (seq:Nat),str word,.int .i64 wt] 50,pt b #[SX bD,SX bt] 103] 17 [0,2,4,6,8,10,12,14,17,18,20,22,24,27,29,30,32] ST qk qk<|dF qk 3 1 I I I (dF qk 1 0 I I I<|dF qk 1 0 I I I (u0 13 qk 0 [17,18,20,22,24,29,30,32] I qk ?_ ?_))
  ·refine cl 0 I (Ct.atT (S:=fun v K' a' g'=>K'=K/\a'=a/\g'=g/\v=.tuple #[.agg (dI (eA rows ses seq).1).toArray,.bool (eA rows ses seq).2.1,.int .i64 (eA rows ses seq).2.2]) 4 4 I I ((Gx bt rows hTb hr1 ses seq hs1 hs2 hr2).mono fun v K' hs' ⟨e,e1,e4⟩=>⟨a,g,e1,e,I,I,e4⟩)) ?_;rintro v40 K40 hs40 ⟨a',g',rfl,rfl,rfl,rfl,rfl⟩;refine WL.hs (pt b4 (dI fq).toArray 54::pt b3 #[.int .i64 kind,.int .u64 (ses:Nat),.int .u64 (seq:Nat),str word,.int .i64 wt] 50::pt b #[SX bD,SX bt] 103::hd::a'::g'::hs) I (bp ST I (aG qk 4 I (al 0 (.agg #[.int .i64 0,.int .u64 0,.int .i64 0]) I qk fun b8=>bp ST I (aG qk 0 I ?_))));refine bJ 0 0 I I qk I I ?_;exact bp ST I (be qk 2 I (jx b8 trivial sb I I))
  refine al 0 (.agg #[.int .i64 0,.int .u64 0,.int .i64 0]) I qk fun b8=>bp ST I (aG qk 0 I (cl 0 I (Ct.atT (S:=fun v K' a' g'=>K'=K/\a'=a/\g'=g/\v=.tuple #[.agg (dI (eA rows ses seq).1).toArray,.bool (eA rows ses seq).2.1,.int .i64 (eA rows ses seq).2.2]) 5 5 I I ((Gx bt rows hTb hr1 ses seq hs1 hs2 hr2).mono fun v K' hs' ⟨e,e1,e4⟩=>⟨a,g,e1,e,I,I,e4⟩)) ?_));rintro v40 K40 hs40 ⟨a',g',rfl,rfl,rfl,rfl,rfl⟩;refine WL.hs (pt b8 #[.int .i64 0,.int .u64 0,.int .i64 0] 54::pt b4 (dI fq).toArray 54::pt b3 #[.int .i64 kind,.int .u64 (ses:Nat),.int .u64 (seq:Nat),str word,.int .i64 wt] 50::pt b #[SX bD,SX bt] 103::hd::a'::g'::hs) I (bp ST I (aG qk 4 I ?_));refine bJ 0 0 I I qk I I ?_;exact bp ST I (be qk 2 I (jx b8 trivial sb I I))
 rintro b8 _;refine sq (ac9 (af 1 I fun b45 h45=>?_));have d1:¬¬(kind=2\/kind=3):=fun h=>h hk2;refine fin 0 I (th (ah h45 I (fun e8=>?_) (fun e8=>?_)))
 ·refine ac9 (bd 1 (.agg (dI ⟨(eA rows ses seq).2.2,0,0⟩).toArray) I (fun w=>by kernel_rfl) ?_);refine bJ 0 1 I I qk I I ?_;refine fin 0 I (adb (rT (ml 1 3 I I I qk ?_)))
  have e:dU W rows ⟨kind,ses,seq,word,wt⟩=(W,rows,⟨(eA rows ses seq).2.2,0,0⟩):=by
   simp_all [dU]
  rw[e];exact ⟨Le.refl _,I,_,I,hSt⟩
 have d2:(eA rows ses seq).2.2=0:=Classical.not_not.1 e8;refine au ?_;refine nt I (fun h9=>?_) (fun h9=>?_)
 ·have d3:(eA rows ses seq).2.1=false:=by simpa using h9
  obtain ⟨d4,d5⟩:=Gw d2 d3;rw[d4];refine sq (bI [pt b3 #[.int .i64 kind,.int .u64 (ses:Nat),.int .u64 (seq:Nat),str word,.int .i64 wt] 50,pt b #[SX bD,SX bt] 103] 17 [0,2,4,6,8,10,12,14,16,19,20,22,24,26,29,30,33] ST qk qk (au ?_));refine cl 0 I (Ct.at 4 I (hF bD l0 over W hD hI ho hG)) ?_;rintro v60 K60 hs60 ⟨hd',rfl,le6,rfl,l1,ov,hD',hI',ho'⟩;refine WL.hs (pt b8 (dI fq).toArray 54::pt b4 (dI fq).toArray 54::pt b3 #[.int .i64 kind,.int .u64 (ses:Nat),.int .u64 (seq:Nat),str word,.int .i64 wt] 50::pt b #[SX bD,SX bt] 103::hd'::a::g::hs) I (fF ST le6 (aG qk 4 I (stp 0 0 I I I I (fF ST (Le.refl _) (aG qk 1 I (stp 0 0 I I I I (WL.hs (pt b8 (dI ⟨(f W).2.2,0,(f W).2.1⟩).toArray 54::pt b4 (dI fq).toArray 54::pt b3 #[.int .i64 kind,.int .u64 (ses:Nat),.int .u64 (seq:Nat),str word,.int .i64 wt] 50::pt b #[SX bD,SX bt] 103::hd'::a::g::hs) I (fF ST (Le.refl _) (au ?_)))))))))
  refine bI [pt b3 #[.int .i64 kind,.int .u64 (ses:Nat),.int .u64 (seq:Nat),str word,.int .i64 wt] 50,pt b #[SX bD,SX bt] 103,pt b8 (dI ⟨(f W).2.2,0,(f W).2.1⟩).toArray 54] 10 [0,2,4,6,8,10,12,14,16,19] ST qk qk<|dF qk 3 1 I I I (dF qk 1 0 I I I<|dF qk 1 0 I I I (ja qk 0 2 I qk I qk<|aG qk 0 I ?_))
  refine cl 0 I (Ct.atT (S:=fun v K' a' g'=>K'=K60/\nc bt (rows.set (ses-1) ⟨seq,⟨(f W).2.2,0,(f W).2.1⟩⟩) [a',g']/\v=.bool true) 5 5 I I ((Qx bt rows hTb hr1 ses seq hs1 hs2 ⟨(f W).2.2,0,(f W).2.1⟩).mono fun v K' hs' ⟨e,m',e1,e3,e4⟩=>by
   rw[aab d5] at e3;obtain ⟨ao',c',g',rfl,o'⟩:=e3;exact ⟨_,g',e1,e,⟨ao',c',g',I,o'⟩,by rw[e4,decide_eq_true d5]⟩)) ?_
  rintro v74 K74 hs74 ⟨a',g',rfl,rfl,hTb',rfl⟩;refine WL.hs (pt b8 (dI ⟨(f W).2.2,0,(f W).2.1⟩).toArray 54::pt b4 (dI fq).toArray 54::pt b3 #[.int .i64 kind,.int .u64 (ses:Nat),.int .u64 (seq:Nat),str word,.int .i64 wt] 50::pt b #[SX bD,SX bt] 103::hd'::a'::g'::hs) I (fF ST (Le.refl _) (be qk 0 I (ac6 (dy 0 0 I I qk ?_))));refine bJ 0 1 I I qk I I ?_;refine fin 0 I (adb (ml 1 3 I I I qk ?_))
  have e:dU W rows ⟨kind,ses,seq,word,wt⟩=((f W).1,rows.set (ses-1) ⟨seq,⟨(f W).2.2,0,(f W).2.1⟩⟩,⟨(f W).2.2,0,(f W).2.1⟩):=by
   grind [dU]
  rw[e];refine ⟨le6,I,_,I,bD,bt,l1,ov,hd',a',g',I,hD',hI',ho',hTb',by simpa using hr1,?_⟩
  grind
 have d3:(eA rows ses seq).2.1=true:=by simpa using h9
 refine sk (ac6 (dy 0 0 I I qk ?_));refine bJ 0 1 I I qk I I ?_;refine fin 0 I (adb (ml 1 3 I I I qk ?_))
 have e:dU W rows ⟨kind,ses,seq,word,wt⟩=(W,rows,(eA rows ses seq).1):=by
  simp_all [dU]
 rw[e];exact ⟨Le.refl _,I,_,I,hSt⟩
end
section
attribute [local irreducible] Code.wp wpList Calls
section ext
variable {P:Program} {T:br} {w0:World} {ops:Array Oper} {Q:Exit->Act->World->Prop} {n:Nat} {l l':Sl} {K K0:PH} {hs A:List PH} {plan plan':List Nat} {z:Nat} {listed listed':Array Bool}
def GX(T:br)(ops:Array Oper)(n z k:Nat)(plan:List Nat)(L:Array Bool)(l:Sl):Option (Nat×Oper×Nat×ByteArray×Int×List Nat×Array Bool×Sl):=
 match mV T ops n z k plan L l with
 | some (d,o,r,L',l')=>match o.op with
  | .index t x i=>match asc T.kinds t,ev l' x,ev l' i with
   | some .str,some (.string s),some (.int _ j)=>some (d,o,t,s,j,r,L',l')
   | _,_,_=>none
  | _=>none
 | _=>none
def vD[hT:TabOK P T](hsel:Region.noSelect ops=true)(k:Nat){d t:Nat}{o:Oper}{i:Int}(xs:List UInt8)(j:Nat){b:UInt8}{s:ByteArray}(h0:GX T ops n z k plan listed l=some (d,o,t,s,i,plan',listed',l'))(hs1:s=⟨xs.toArray⟩)(hj:i=(j:Int))(hb':xs[j]?=some b)
  (hk:WA P w0 ops Q K0 A z plan' listed' n ((d,.int .u8 b.toNat)::l') K hs):WA P w0 ops Q K0 A z plan listed n l K hs:=by
 unfold GX at h0
 split at h0
 ·rename_i d' o' r L' l2 hh
  split at h0
  ·rename_i t' x' i' hop
   split at h0
   ·rename_i s' kk jj hsi hx hi;simp only[aad,aai] at h0;obtain ⟨rfl,rfl,rfl,rfl,rfl,rfl,rfl,rfl⟩:=h0;subst hj hs1;obtain ⟨dd,g1,g2⟩:=hT.kind hsi;obtain rfl:=sr g2;refine nR hsel k hh (fun A w ha=>?_) hk
    have h2:(⟨xs.toArray⟩:ByteArray)[j]?=some b:=by
     obtain ⟨hlt,he⟩:=aas.1 hb';have hsz:j<(⟨xs.toArray⟩:ByteArray).size:=by simpa[ByteArray.size] using hlt
     simp_all [ByteArray.getElem_eq_getElem_data]
    simp only[execOp,hop,ha.ev hx,ha.ev hi];simp[Instr.index,asIntOf,run_underlying g1,h2]
   simp at h0
  simp at h0
 simp at h0
def GW(T:br)(ops:Array Oper)(n z k:Nat)(plan:List Nat)(L:Array Bool)(l:Sl):Option (Nat×Oper×Nat×ByteArray×Int×List Nat×Array Bool×Sl):=
 match mV T ops n z k plan L l with
 | some (d,o,r,L',l')=>match o.op with
  | .slice t x none (some hi) none=>match asc T.kinds t,ev l' x,ev l' hi with
   | some .str,some (.string s),some (.int _ j)=>some (d,o,t,s,j,r,L',l')
   | _,_,_=>none
  | _=>none
 | _=>none
def RE[hT:TabOK P T](hsel:Region.noSelect ops=true)(k:Nat){d t:Nat}{o:Oper}{i:Int}(xs:List UInt8)(H:Nat){s:ByteArray}(h0:GW T ops n z k plan listed l=some (d,o,t,s,i,plan',listed',l'))(hs1:s=⟨xs.toArray⟩)(hj:i=(H:Int))(h2:H<=ba xs)
  (hk:WA P w0 ops Q K0 A z plan' listed' n ((d,str (xs.take H))::l') K hs):WA P w0 ops Q K0 A z plan listed n l K hs:=by
 have hsz:(⟨xs.toArray⟩:ByteArray).size=ba xs:=by rfl
 have he:=Fb xs 0 H (aag _) h2;unfold GW at h0
 split at h0
 ·rename_i d' o' r L' l2 hh
  split at h0
  ·rename_i t' x' i' hop
   split at h0
   ·rename_i s' kk jj hsi hx hi;simp only[aad,aai] at h0;obtain ⟨rfl,rfl,rfl,rfl,rfl,rfl,rfl,rfl⟩:=h0;subst hj hs1;obtain ⟨dd,g1,g2⟩:=hT.kind hsi;obtain rfl:=sr g2;refine nR hsel k hh (fun A w ha=>?_) hk;have h4:((H:Nat):Int)<=((ba xs:Nat):Int):=qo
    rw[show xs.take H=(xs.drop 0).take (H-0) by simp,<-he];simp only[execOp,hop,ha.ev hx];simp[Instr.sliceAt,Instr.slice,Instr.sliceBounds,Instr.sliceBound,asIntOf,run_underlying g1,hsz,ha.ev hi,h2]
   simp at h0
  simp at h0
 simp at h0
end ext
def qK(n c:Nat):Nat:=if n=4 then c % 8 else if n=3 then c % 16 else if n=2 then c % 32 else c % 64
def jS(r:Nat):List UInt8->Nat
 | []=>r
 | c::t=>jS (r*64+c.toNat % 64) t
def kH(s:List UInt8)(n:Nat):Nat:=match s with
 | []=>0
 | c::t=>if n=1 then c.toNat else jS (qK n c.toNat) (t.take (n-1))
theorem Bl:∀ (t:List UInt8) (r:Nat) (c:UInt8),jS r (t++[c])=jS r t*64+c.toNat % 64
 | [],r,c=>rfl
 | a::t,r,c=>Bl t _ c
theorem CW:∀ (t:List UInt8) (r:Nat),jS r t<(r+1)*64 ^ ba t
 | [],r=>by simp[jS]
 | c::t,r=>by
  have:=CW t (r*64+c.toNat % 64);have h2:r*64+c.toNat % 64+1<=(r+1)*64:=qo
  have h3:(r*64+c.toNat % 64+1)*64 ^ ba t<=((r+1)*64)*64 ^ ba t:=aaY _ h2
  grind [jS]
theorem Nh{r:Nat}(h:gk r)(x:List UInt8):kH (wr r++x) (ba (wr r))=r:=by
 obtain ⟨h1,_⟩:=h;unfold wr
 split
 ·simp only[aaz,aaL,aaj,aaG,kH];rw[aab trivial,f8 qo]
 split
 ·simp only[aaz,aaL,aaj,aaG,kH];rw[aaa SU];simp only[Nat.reduceAdd,Nat.reduceSub,abf,abj,jS,qK]
  grind [f8]
 split
 ·simp only[aaz,aaL,aaj,aaG,kH];rw[aaa SU];simp only[Nat.reduceAdd,Nat.reduceSub,abf,abj,jS,qK]
  grind [f8]
 simp only[aaz,aaL,aaj,aaG,kH];rw[aaa SU];simp only[Nat.reduceAdd,Nat.reduceSub,abf,abj,jS,qK];rw[f8 qo,f8 qo,f8 qo,f8 qo]
 simp
 omega
def IJ{s:List UInt8}(h:(dE s).2=0):dE s=(0,0):=by
 cases s with
 | nil=>rfl
 | cons c t=>
  rw[nW] at h ⊢
  grind
def zR(s:List UInt8)(n:Nat):Prop:=gk (kH s n)/\wr (kH s n)=s.take n
def KG{s:List UInt8}{n:Nat}(h:zR s n)(hn:n<=ba s):dE s=(kH s n,n):=by
 have h1:=Cj h.1 (s.drop n);have hl:ba (wr (kH s n))=n:=by rw[h.2,aam];omega
 rw[h.2,aaC] at h1;rw[h1,aam]
 congr 1
 omega
def Mt{s:List UInt8}(h:∀ n,1<=n->n<=4->n<=ba s->¬zR s n):dE s=(0,0):=by
 by_cases hz:(dE s).2=0
 ·exact IJ hz
 obtain ⟨h1,h2⟩:=wT hz;have h3:=qr s;have hl:ba (wr (dE s).1)=(dE s).2:=by rw[h2,aam];omega
 have h4:kH s (dE s).2=(dE s).1:=by
  grind [Nh,List.take_append_drop]
 exact absurd ⟨by rw[h4];exact h1,by rw[h4];exact h2⟩ (h _ qo h3.1 h3.2)
end
section
def sD(n m:Nat)(h:n<9223372036854775808):Value.int .i64 (IntKind.i64.wrap (((n:Nat):Int).tdiv ((m:Nat):Int)))=.int .i64 (n / m:Nat):=by
 rw[<-ack];have:=acl n m
 grind [ac]
attribute [local irreducible] Code.wp wpList Calls
def FP{w0:World}{K:PH}{hs:List PH}(r:Nat):aj w0 213 [.int .i64 (r:Nat)] K hs (fun v K' hs'=>K'=K/\hs'=hs/\∃ t:Bool,v=.bool t/\(t=true↔gk r)):=by
 refine bH Tryz.func213 ?_;refine af 1 I fun b4 h4=>?_
 refine' gu 1 3 8 [4,5] h4 I I I I I I I (fun _=>?x2) (fun b8 h8=>?_)
 case x2=>
  exact af 1 I fun b7 h7=>fin 1 I<|dk h7 I I I
 refine' gu 1 7 16 [8,9] h8 I I I I I I I (fun _=>?x4) (fun b16 h16=>?_)
 case x4=>
  refine af 1 I fun b11 h11=>?_
  refine' eB 1 3 15 [11,12] h11 I I I I I I I (fun _=>?x6) (fun b15 h15=>?_)
  case x6=>
   exact af 1 I fun b14 h14=>fin 1 I<|dk h14 I I I
  exact fin 1 I<|dk h15 I I I
 refine au ?_;exact ay I I ⟨I,I,b16,I,by rw[h16];unfold gk;omega⟩
def MB(r:Nat)(hr:r<=1114111):aj w0 214 [.int .i64 (r:Nat)] K hs (fun v K' hs'=>K'=K/\hs'=hs/\v=str (wr r)):=by
 refine bH Tryz.func214 ?_;refine af 1 I fun b6 h6=>fin 0 I (th (ah h6 I (fun e2=>?_) (fun e2=>?_)))
 ·exact ac9 (ar 1 I (iJ qo) (lit 0 #[.int .u8 (r:Nat)] I SU qk fun b9=>p6 0 [ei r] I (.inr ⟨0,I⟩) (lL (by rw[aao,ab3,f8 (show r<256 by omega)]) I) qk (fin 1 I (adb (rT (WQ.drop (ay I I ⟨I,I,by unfold wr;rw[aab qo]⟩)))))))
 refine sk (ac6 (ar 1 I (v':=.int .i64 (r % 64:Nat)) (kc .i64 r 64) (ar 0 I (v':=.int .i64 (128+r % 64:Nat)) (ac qo) (ar 0 I (iJ qo) (au ?_)))));refine af 1 I fun b16 h16=>fin 0 I (th (ah h16 I (fun e4=>?_) (fun e4=>?_)))
 ·exact ac9 (ar 1 I (v':=.int .i64 (r / 64:Nat)) (sD r 64 qo)<|ar 0 I (v':=.int .i64 (192+r / 64:Nat)) (ac qo) (ar 0 I (iJ qo) (lit 1 #[.int .u8 (192+r / 64:Nat),.int .u8 (128+r % 64:Nat)] I SU qk fun b22=>p6 0 [ei (192+r / 64),ei (128+r % 64)] I (.inr ⟨0,I⟩) (lL (by rw[aao,aao,ab3,f8 (show 192+r / 64<256 by omega),f8 (show 128+r % 64<256 by omega)]) I) qk<|fin 1 I (adb (rT<|WQ.drop (ay I I ⟨I,I,by grind [wr]⟩))))))
 refine sk (ac6 (ar 1 I (v':=.int .i64 (r / 64:Nat)) (sD r 64 qo) (ar 0 I (v':=.int .i64 (r / 64 % 64:Nat)) (kc .i64 (r / 64) 64) (ar 0 I (v':=.int .i64 (128+r / 64 % 64:Nat)) (ac qo) (ar 0 I (iJ qo) (au ?_))))));refine af 1 I fun b30 h30=>fin 0 I (th (ah h30 I (fun e6=>?_) (fun e6=>?_)))
 ·exact ac9 (ar 1 I (v':=.int .i64 (r / 4096:Nat)) (sD r 4096 qo)<|ar 0 I (v':=.int .i64 (224+r / 4096:Nat)) (ac qo) (ar 0 I (iJ qo) (lit 2 #[.int .u8 (224+r / 4096:Nat),.int .u8 (128+r / 64 % 64:Nat),.int .u8 (128+r % 64:Nat)] I SU qk fun b37=>p6 0 [ei (224+r / 4096),ei (128+r / 64 % 64),ei (128+r % 64)] I (.inr ⟨0,I⟩) (lL (by rw[aao,aao,aao,ab3,f8 (show 224+r / 4096<256 by omega),f8 (show 128+r / 64 % 64<256 by omega),f8 (show 128+r % 64<256 by omega)]) I) qk<|fin 1 I (adb (rT<|WQ.drop (ay I I ⟨I,I,by grind [wr]⟩))))))
 exact sk<|ac6 (ar 1 I (v':=.int .i64 (r / 262144:Nat)) (sD r 262144 qo)<|ar 0 I (v':=.int .i64 (240+r / 262144:Nat)) (ac qo) (ar 0 I (iJ qo)<|ar 1 I (v':=.int .i64 (r / 4096:Nat)) (sD r 4096 qo) (ar 0 I (v':=.int .i64 (r / 4096 % 64:Nat)) (kc .i64 (r / 4096) 64)<|ar 0 I (v':=.int .i64 (128+r / 4096 % 64:Nat)) (ac qo) (ar 0 I (iJ qo) (lit 2 #[.int .u8 (240+r / 262144:Nat),.int .u8 (128+r / 4096 % 64:Nat),.int .u8 (128+r / 64 % 64:Nat),.int .u8 (128+r % 64:Nat)] I SU qk fun b50=>p6 0 [ei (240+r / 262144),ei (128+r / 4096 % 64),ei (128+r / 64 % 64),ei (128+r % 64)] I (.inr ⟨0,I⟩) (lL (by rw[aao,aao,aao,aao,ab3,f8 (show 240+r / 262144<256 by omega),f8 (show 128+r / 4096 % 64<256 by omega),f8 (show 128+r / 64 % 64<256 by omega),f8 (show 128+r % 64<256 by omega)]) I) qk<|fin 1 I (adb (WQ.drop<|ay I I ⟨I,I,by grind [wr]⟩)))))))
def OI(s:List UInt8)(n:Nat)(h1:1<=n)(h4:n<=4)(hn:n<=ba s):aj w0 212 [str s,.int .i64 (n:Nat)] K hs (fun v K' hs'=>K'=K/\hs'=hs/\v=.int .i64 (kH s n:Nat)):=by
 obtain ⟨c,t,rfl⟩:∃ c t,s=c::t:=by cases s with
  | nil=>simp at hn;omega
  | cons c t=>simp
 rw[aaj] at hn;have hc:=c.toNat_lt;refine bH Tryz.func212 ?_;refine af 1 I fun b8 h8=>fin 0 I (th (ah h8 I (fun e2=>?_) (fun e2=>?_)))
 ·refine ac9 (pa 1 (c::t) 0 I I I I (ar 0 I (ac qo) (au ?_)));exact ay I I ⟨I,I,by grind [kH]⟩
 refine sk<|ac6 (pa 1 (c::t) 0 I I I I<|ar 0 I (ac qo) (ar 0 I (v':=.int .i64 (c.toNat % 64:Nat)) (kc .i64 c.toNat 64)<|fin 1 I (th<|jn (σ:=Nat) (fun s=>[(0,str (c::t)),(1,.int .i64 (n:Nat)),(5,.int .i64 (s:Nat))]) (fun s=>hs) (fun s=>s=if n=2 then c.toNat % 32 else c.toNat % 64) ?_ ?_)))
 ·refine ac9 (af 1 I fun b17 h17=>fin 0 I<|th (ah h17 I (fun e4=>?_) (fun e4=>?_)))
  ·refine rg (pa 1 (c::t) 0 I I I I (ar 0 I (ac qo) (ar 0 I (v':=.int .i64 (c.toNat % 32:Nat)) (kc .i64 c.toNat 32) (fin 1 I ?_))));exact jx (c.toNat % 32) (by rw[aab qo]) sb I I
  refine sk ?_;exact jx (c.toNat % 64) (by rw[aaa qo]) sb I I
 rintro r1 hr1;refine jn (σ:=Nat) (fun s=>[(0,str (c::t)),(1,.int .i64 (n:Nat)),(5,.int .i64 (s:Nat))]) (fun s=>hs) (fun s=>s=if n=3 then c.toNat % 16 else r1) ?_ ?_
 ·refine ac9 (af 1 I fun b23 h23=>fin 0 I<|th (ah h23 I (fun e6=>?_) (fun e6=>?_)))
  ·refine rg (pa 1 (c::t) 0 I I I I (ar 0 I (ac qo) (ar 0 I (v':=.int .i64 (c.toNat % 16:Nat)) (kc .i64 c.toNat 16) (fin 1 I ?_))));exact jx (c.toNat % 16) (by rw[aab qo]) sb I I
  refine sk ?_;exact jx r1 (by rw[aaa qo]) sb I I
 rintro r2 hr2;refine jn (σ:=Nat) (fun s=>[(0,str (c::t)),(1,.int .i64 (n:Nat)),(5,.int .i64 (s:Nat))]) (fun s=>hs) (fun s=>s=if n=4 then c.toNat % 8 else r2) ?_ ?_
 ·refine ac9 (af 1 I fun b29 h29=>fin 0 I<|th (ah h29 I (fun e8=>?_) (fun e8=>?_)))
  ·refine rg (pa 1 (c::t) 0 I I I I (ar 0 I (ac qo) (ar 0 I (v':=.int .i64 (c.toNat % 8:Nat)) (kc .i64 c.toNat 8) (fin 1 I ?_))));exact jx (c.toNat % 8) (by rw[aab qo]) sb I I
  refine sk ?_;exact jx r2 (by rw[aaa qo]) sb I I
 rintro r3 hr3;have hH:r3=qK n c.toNat:=by unfold qK;rw[hr3,hr2,hr1]
 have hH2:r3<64:=by
  grind
 refine au ?_;refine loop (σ:=Nat) (fun k=>[(0,str (c::t)),(1,.int .i64 (n:Nat)),(5,.int .i64 ((jS r3 (t.take k):Nat):Int)),(6,.int .i64 (k+1:Nat))]) (fun _=>K) (fun _=>hs) (fun k=>k+1<=n) (fun k=>n-k) 0 (show 0+1<=n by omega) sb I I ?_;rintro k hk;have hlt:=CW (t.take k) r3
 have hlt2:jS r3 (t.take k)<16777216:=by
  have h5:ba (t.take k)<=3:=by rw[aam];omega
  have h6:=abg (n:=64) SU h5;have h7:=ab2 (show r3+1<=64 by omega) h6;omega
 refine sq<|ac9<|aX 2 I (fun e10=>?_) (fun e10=>?_)
 ·refine au ?_;obtain ⟨d,hd⟩:∃ d,t[k]?=some d:=⟨_,aae qo⟩;have pZ:=d.toNat_lt;have hts:jS r3 (t.take (k+1))=jS r3 (t.take k)*64+d.toNat % 64:=by rw[aaA,hd,Option.toList_some,Bl]
  refine au ?_;refine ar 1 I (v':=.int .i64 ((jS r3 (t.take k)*64:Nat):Int)) (ac qo) (pa 2 (c::t) (k+1) I I I hd (ar 0 I (ac qo) (ar 0 I (v':=.int .i64 (d.toNat % 64:Nat)) (kc .i64 d.toNat 64) (ar 0 I (v':=.int .i64 ((jS r3 (t.take (k+1)):Nat):Int)) (by rw[hts,ac qo];rfl) (au ?_)))));exact ar 1 I (v':=.int .i64 (k+1+1:Nat)) (ac qo) (fin 1 I (bc (x:=k) (k+1) sb I I qo qo))
 refine au ?_;exact ay I I ⟨I,I,by grind [kH]⟩
end
section
attribute [local irreducible] Code.wp wpList Calls
def N2{w0:World}{K:PH}{hs:List PH}(s:List UInt8)(hl:ba s<1099511627776):aj w0 186 [str s] K hs (fun v K' hs'=>K'=K/\hs'=hs/\v=.tuple #[.int .i64 ((dE s).1:Nat),.int .i64 ((dE s).2:Nat)]):=by
 have hsz:(⟨s.toArray⟩:ByteArray).size=ba s:=by rfl
 refine bH Tryz.func186 ?_;refine loop (σ:=Nat) (fun k=>[(0,str s),(4,.int .i64 (k+1:Nat))]) (fun _=>K) (fun _=>hs) (fun k=>k<=4/\∀ n,1<=n->n<=k->n<=ba s->¬zR s n) (fun k=>4-k) 0 ⟨aag _,fun n h1 h2=>by omega⟩ ⟨I,I,trivial⟩ I I ?_;rintro k ⟨hk,hno⟩;refine sq (ac9 (af 1 I fun b7 h7=>?_))
 refine' gu 1 5 13 [7,8] h7 I I I I I I I (fun _=>?x2) (fun b13 h13=>?_)
 case x2=>
  refine af 3 I fun b12 h12=>?_;rw[hsz] at h12;exact fin 1 I (dk h12 I I I)
 refine fin 0 I<|th (ah h13 I (fun e4=>?_) (fun e4=>?_))
 ·obtain ⟨q,hq⟩:=bC (kH s (k+1));refine au ?_;refine cl 2 I (OI s (k+1) qo qo qo) ?_;rintro v18 K18 hs18 ⟨rfl,rfl,rfl⟩;rw[<-hq];refine au ?_
  by_cases hsc:gk q
  ·refine bI [] 10 [0,3,4,6,10,12,14,9,16,18] ST qk qk (au ?_);refine cl 0 I (FP q) ?_;rintro v20 K20 hs20 ⟨rfl,rfl,t20,rfl,h20⟩;obtain rfl:t20=true:=h20.2 hsc;refine bp ST I (RE qk 4 s (k+1) I I I qo (au ?_));refine cl 0 I (MB q hsc.1) ?_;rintro v23 K23 hs23 ⟨rfl,rfl,rfl⟩;refine bp ST I (gE qk 0 (wr q=s.take (k+1)) I ST fun b27 h27=>au ?_);refine ah h27 I (fun h5=>?_) (fun h5=>?_)
   ·have e:=KG (s:=s) (n:=k+1) ⟨by rw[<-hq];exact hsc,by rw[<-hq];exact h5⟩ qo;refine au ?_;exact bL I I I ⟨I,I,by rw[e,<-hq]⟩
   refine sk<|ac7 (ar 1 I (v':=.int .i64 (k+1+1:Nat)) (ac qo)<|fin 1 I (bc (x:=k) (k+1) sb I I ⟨qo,fun n h1 h2 h3=>?_⟩ qo))
   by_cases hn:n=k+1
   ·rw[hn];exact fun h=>h5 (by rw[hq];exact h.2)
   exact hno n h1 qo h3
  refine bI [] 10 [0,3,4,6,8,10,12,14,16,18] ST qk qk (au ?_);refine cl 0 I (FP q) ?_;rintro v20 K20 hs20 ⟨rfl,rfl,t20,rfl,h20⟩;obtain rfl:t20=false:=by cases t20 <;> simp_all
  refine bp ST I<|be qk 8 I (th<|dt I (sk<|ac7 (ar 1 I (v':=.int .i64 (k+1+1:Nat)) (ac qo)<|fin 1 I (bc (x:=k) (k+1) sb I I ⟨qo,fun n h1 h2 h3=>?_⟩ qo))))
  by_cases hn:n=k+1
  ·rw[hn];exact fun h=>hsc (by rw[hq];exact h.1)
  exact hno n h1 qo h3
 refine au ?_;have e:dE s=(0,0):=Mt fun n h1 h2 h3=>hno n h1 qo h3;refine au ?_;exact bL I I I ⟨I,I,by rw[e];rfl⟩
def Nm(s:List UInt8)(hl:ba s<1099511627776):aj w0 157 [str s] K hs
  (fun v K' hs'=>K'=K/\∃ h ao c,hs'=h::hs/\v=.tuple #[.slice ao (ba ((eo s).getD [])) c,.bool (eo s).isSome]/\aZ h ao (ba ((eo s).getD [])) c 21 1 (eT ((eo s).getD []))):=by
 refine dj Tryz.func157 ?_;refine ac9 (fin 2 I (ac6 (fin 1 I (th (sq (bk (WC.em (loop (σ:=List Nat×List UInt8×PH×Option Addr×Nat) (fun x=>[(0,str x.2.1),(4,.slice x.2.2.2.1 (ba x.1) x.2.2.2.2)]) (fun _=>K) (fun x=>x.2.2.1::hs) (fun x=>eo s=(eo x.2.1).map (x.1 ++ ·)/\ba x.1+ba x.2.1<=ba s/\aZ x.2.2.1 x.2.2.2.1 (ba x.1) x.2.2.2.2 21 1 (eT x.1)) (fun x=>ba x.2.1) ([],s,em,none,0) ⟨ST,ST,aZ.nil _ _⟩ ⟨I,I,trivial⟩ I I ?_))))))));rintro ⟨l,s',g,ao,c⟩ ⟨hr,hlen,o⟩;dsimp only at hr hlen o ⊢;have hsz:(⟨s'.toArray⟩:ByteArray).size=ba s':=by rfl
 refine sq (ac9 (af 2 I fun b9 h9=>?_));rw[hsz] at h9;refine fin 0 I (th (ah h9 I (fun e2=>?_) (fun e2=>?_)))
 ·have hne:s'≠[]:=by rintro rfl;simp at e2
  have hst:=AN hne;have hn:=qr s';refine au ?_;refine cl 1 I (N2 s' qo) ?_;rintro v12 K12 hs12 ⟨rfl,rfl,rfl⟩;refine au ?_;refine af 1 I fun b16 h16=>fin 0 I (th (ah h16 I (fun e4=>?_) (fun e4=>?_)))
  ·refine ac9 (fin 2 I (adb (rT (rB (rT (rB (rT (WQ.drop (WQ.em ?_)))))))));exact bL I I I ⟨I,em,none,0,I,by rw[hr,hst,aab qo];rfl,by rw[hr,hst,aab qo];exact aZ.nil _ _⟩
  have hsc:=(wT (s:=s') qo).1.1;refine sk (ac6 (ar 2 I (m7 qo) (lit 0 #[.int .i32 ((dE s').1:Nat)] I SU qk fun b20=>HF 0 1 l (dE s').1 I I I o (.inr ⟨0,I⟩) (lL I I) qo fun ao20 c20 g20 o20=>fin 1 I (th (WC.drop (rg (zG 2 s' (dE s').2 (ba s') I I I I qo (aac _) ?_)))))));have eq:(s'.drop (dE s').2).take (ba s'-(dE s').2)=s'.drop (dE s').2:=aar ST;rw[eq];exact fin 1 I (bl (bc (x:=(l,s',g,ao,c)) (l++[(dE s').1],s'.drop (dE s').2,g20,ao20,c20) ⟨I,by simp;rfl,trivial⟩ rfl rfl ⟨by dsimp only;rw[hr,hst,aaa qo];cases eo (s'.drop (dE s').2) <;> simp,by simp only[aaf,aaj,aaG,aan];omega,qo⟩ (by simp only[aan];omega)))
 obtain rfl:s'=[]:=acF.1 qo;refine au ?_;exact bL I I I ⟨I,g,ao,c,I,by rw[hr,tE];simp,by rw[hr,tE];simpa using o⟩
def Fw{w0:World}{K:PH}{hs:List PH}(s:List UInt8)(hl:ba s<1099511627776):aj w0 118 [str s] K hs (fun v K' hs'=>K'=K/\hs'=hs/\∃ t:Bool,v=.bool t/\(t=true↔iS s)):=by
 have hsz:(⟨s.toArray⟩:ByteArray).size=ba s:=by rfl
 refine bH Tryz.func118 ?_;refine af 2 I fun b8 h8=>?_;rw[hsz] at h8;refine fin 0 I (th (ah h8 I (fun e2=>?_) (fun e2=>?_)))
 ·refine au ?_;exact ay I I ⟨I,I,false,I,by unfold iS;simp;omega⟩
 refine sk (ac6 (cl 1 I (Nm s hl) ?_));rintro v11 K11 hs11 ⟨rfl,g,ao,c,rfl,rfl,o⟩
 have hrl:ba (rl s)<=ba s:=by
  unfold rl;cases h:eo s with
  | none=>simp
  | some l=>exact (pm h).2.2
 obtain ⟨ok,hok⟩:=bC ((eo s).isSome);have hb:ok=true↔(eo s).isSome=true:=by rw[hok]
 rw[<-hok]
 change aZ g ao (ba (rl s)) c 21 1 (eT (rl s)) at o
 change WL _ _ _ _ _ _ ((11,.tuple #[.slice ao (ba (rl s)) c,.bool ok])::_) _ _
 refine au ?_;refine loop (σ:=Nat) (fun i=>[(3,.slice ao (ba (rl s)) c),(4,.bool ok),(5,.int .i64 (i:Nat))]) (fun _=>K11) (fun _=>g::hs) (fun i=>i<=ba (rl s)/\∀ r∈(rl s).take i,32<r/\r≠127) (fun i=>ba (rl s)-i) 0 ⟨aag _,ST⟩ ⟨I,I,I,trivial⟩ I I ?_;rintro i ⟨hi,hall⟩;refine sq (ac9 (aX 3 I (fun e4=>?_) (fun e4=>?_)))
 ·refine au ?_;have hil:i<ba (rl s):=qo
  have hget:(eT (rl s))[i]?=some (.int .i32 (((rl s)[i]:Nat):Int)):=by simp_all [eT]
  have hts:(rl s).take (i+1)=(rl s).take i++[(rl s)[i]]:=by simp
  refine au ?_;refine fe 2 i I I I o.isS hget fun a22 hc22=>ld 0 I (.inr ⟨0,I⟩) hc22 (af 0 I fun b24 h24=>?_)
  refine' eB 1 6 31 [24,25] h24 I I I I I I I (fun _=>?x6) (fun b31 h31=>?_)
  case x6=>
   exact fe 2 i I I I o.isS hget fun a28 hc28=>ld 0 I (.inr ⟨0,I⟩) hc28 (af 0 I fun b30 h30=>fin 1 I<|dk h30 I I I)
  refine fin 0 I<|th (ah h31 I (fun e8=>?_) (fun e8=>?_))
  ·refine ac9 (fin 1 I (adb (rB (rT (rT (rB (rT (WQ.drop (ay I I ⟨I,I,false,I,⟨fun h=>Bool.noConfusion h,fun h=>?_⟩⟩)))))))));have:=h.2.2.1 _ (acn hil);omega
  refine sk<|ac7 (ar 1 I (v':=.int .i64 (i+1:Nat)) (ac qo)<|fin 1 I (bc (x:=i) (i+1) sb I I ⟨qo,fun r hr=>?_⟩ qo))
  grind
 refine au ?_;obtain rfl:i=ba (rl s):=qo
 rw[aav] at hall;refine au ?_
 refine' gu 2 4 37 [4,32,33] hb I I I I I I I (fun _=>?y3) (fun b37 h37=>?_)
 case y3=>
  exact af 2 I fun b36 h36=>fin 1 I<|dk h36 I I I
 refine' gu 1 4 42 [37,38] h37 I I I I I I I (fun _=>?y4) (fun b42 h42=>?_)
 case y4=>
  exact af 2 I fun b41 h41=>fin 1 I<|dk h41 I I I
 exact fin 1 I<|adb<|WQ.drop (ay I I ⟨I,I,b42,I,by grind [iS]⟩)
def Of{w0:World}{K:PH}{hs:List PH}(a b:List UInt8)(ha:ba a<1099511627776)(hb:ba b<1099511627776):aj w0 158 [str a,str b] K hs (fun v K' hs'=>K'=K/\hs'=hs/\v=.bool (Op.bytesLess a b)):=by
 have hsa:(⟨a.toArray⟩:ByteArray).size=ba a:=by rfl
 have hsb:(⟨b.toArray⟩:ByteArray).size=ba b:=by rfl
 refine bH Tryz.func158 ?_;refine loop (σ:=Nat) (fun i=>[(0,str a),(1,str b),(5,.int .i64 (i:Nat))]) (fun _=>K) (fun _=>hs) (fun i=>i<=ba a/\i<=ba b/\Op.bytesLess a b=Op.bytesLess (a.drop i) (b.drop i)) (fun i=>ba a-i) 0 ⟨aag _,aag _,I⟩ ⟨I,I,I,trivial⟩ I I ?_;rintro i ⟨hia,hib,he⟩;refine sq (ac9 (af 3 I fun b9 h9=>?_));rw[hsa] at h9
 refine' gu 1 5 15 [9,10] h9 I I I I I I I (fun _=>?x2) (fun b15 h15=>?_)
 case x2=>
  refine af 3 I fun b14 h14=>?_;rw[hsb] at h14;exact fin 1 I (dk h14 I I I)
 refine fin 0 I<|th (ah h15 I (fun e4=>?_) (fun e4=>?_))
 ·obtain ⟨x,hx⟩:∃ x,a[i]?=some x:=⟨_,aae qo⟩;obtain ⟨y,hy⟩:∃ y,b[i]?=some y:=⟨_,aae qo⟩;obtain ⟨q1,q2⟩:=aas.1 hx;obtain ⟨q3,q4⟩:=aas.1 hy;rw[aaF q1,aaF q3,q2,q4,pD] at he;refine au ?_;refine bI [] 7 [0,2,4,6,8,10,12] ST qk qk (vD qk 2 a i I I I hx (vD qk 2 b i I I I hy (gE qk 0 (x≠y) I (by simp[<-UInt8.toNat_inj];omega) fun b24 h24=>au ?_)));refine ah h24 I (fun e5=>?_) (fun e5=>?_)
  ·refine sq (bI [] 8 [0,2,4,6,8,10,12,14] ST qk qk (vD qk 2 a i I I I hx (vD qk 2 b i I I I hy (gE qk 0 (x<y) I (by simp[acJ]) fun b31 h31=>au ?_))));refine ay I I ⟨I,I,?_⟩
   grind
  obtain rfl:x=y:=Classical.not_not.1 e5;refine sk (ac7 (ar 1 I (v':=.int .i64 (i+1:Nat)) (ac qo) (fin 1 I (bc (x:=i) (i+1) sb I I ⟨qo,qo,?_⟩ qo))));rw[he]
  simp
 refine au ?_;refine af 4 I fun b36 h36=>?_;rw[hsa,hsb] at h36;refine au ?_;refine ay I I ⟨I,I,?_⟩
 congr 1
 rw[he,abT,h36]
 by_cases h:i=ba a
 ·rw[h,aaS];cases hd:b.drop (ba a) with
  | nil=>
   simp_all [oa]
  | cons y t=>
   grind [Op.bytesLess]
 grind [Op.bytesLess]
end
section
def mX(p:az)(l:List az)(done:Bool):List az:=if done=true then fu l p else l
structure ms (p:az) (l:List az) (i:Nat) (done:Bool):Prop where
 no:done=false->∀ x∈l.take i,bA x p=true
 yes:done=true->∃ x∈l.take i,bA x p=false
def DB(p:az)(l:List az)(y:az)(h:bA y p=false):fu (l++[y]) p=if y.word=p.word then fu l p else fu l p++[y]:=by
 unfold fu;rw[aa0,aa0]
 grind [yD,bA]
def DE{p:az}{l:List az}(h:∀ x∈l,bA x p=true):fu l p=l++[p]:=by
 unfold fu;rw[acO.2 h,acC.2];intro x hx g;have:=iW.tr _ _ _ (h x hx) g;rw[iW.irr] at this;exact Bool.noConfusion this
def ms.first{p:az}{l:List az}{i:Nat}{y:az}(h:ms p l i false)(hy:l[i]?=some y)(hn:bA y p=false):ms p l (i+1) true/\fu (l.take (i+1)) p=if y.word=p.word then l.take i++[p] else l.take i++[p]++[y]:=by
 have ht:l.take (i+1)=l.take i++[y]:=by rw[aaA,hy];rfl
 refine ⟨⟨fun g=>Bool.noConfusion g,fun _=>⟨y,by rw[ht];simp,hn⟩⟩,?_⟩;rw[ht,DB p _ y hn,DE (h.no rfl)]
def ms.go{p:az}{l:List az}{i:Nat}{y:az}(h:ms p l i false)(hy:l[i]?=some y)(hn:bA y p=true):ms p l (i+1) false/\l.take (i+1)=l.take i++[y]/\y.word≠p.word:=by
 have ht:l.take (i+1)=l.take i++[y]:=by rw[aaA,hy];rfl
 refine ⟨⟨fun _ x hx=>?_,fun g=>Bool.noConfusion g⟩,ht,yE hn⟩;rw[ht] at hx;rcases aal.1 hx with g|g
 ·exact h.no I x g
 simp at g;rw[g];exact hn
def ms.on{p:az}{l:List az}{i:Nat}{y:az}(hr:jD l)(h:ms p l i true)(hy:l[i]?=some y):ms p l (i+1) true/\fu (l.take (i+1)) p=if y.word=p.word then fu (l.take i) p else fu (l.take i) p++[y]:=by
 have ht:l.take (i+1)=l.take i++[y]:=by rw[aaA,hy];rfl
 obtain ⟨x,hx,hxp⟩:=h.yes rfl
 have hxy:bA x y=true:=by
  obtain ⟨j,hj,rfl⟩:=acP.1 hx
  grind [List.pairwise_iff_getElem]
 have hyp:bA y p=false:=by
  cases g:bA y p with
  | false=>rfl
  | true=>have:=iW.tr _ _ _ hxy g;simp_all
 refine ⟨⟨fun g=>Bool.noConfusion g,fun _=>⟨x,by rw[ht];simp[hx],hxp⟩⟩,?_⟩;rw[ht,DB p _ y hyp]
attribute [local irreducible] Code.wp wpList Calls
def Ql(ao:Option Addr)(cp:Nat)(l:List az)(p:az)(x:bF 2 cC K ao (ba l) cp l)(hr:jD l)(hl:ba l<=1000000)(hw:∀ q∈l,ba q.word<1099511627776)(hp:ba p.word<1099511627776):
  aj w0 120 [.slice ao (ba l) cp,.agg (bK p).toArray] K hs
   (fun v K' hs'=>K'=K/\∃ ao c g,v=.slice ao (ba (fu l p)) c/\hs'=g::hs/\bN 2 127 cC g ao (ba (fu l p)) c (fu l p)):=by
 refine dj Tryz.func120 ?_;refine ac9 (bx 0 I fun b3=>WL.hs (pt b3 (bK p).toArray 127::hs) I (fin 1 I (ac6 (fin 1 I (ac6 (fin 1 I (ac5 (WL.em (au ?_)))))))))
 refine loop (σ:=Nat×Bool×Option Addr×Nat×PH) (fun s=>[(0,.slice ao (ba l) cp),(3,SX b3),(5,.slice s.2.2.1 (ba (mX p (l.take s.1) s.2.1)) s.2.2.2.1),(6,.bool s.2.1),(7,.int .i64 s.1)]) (fun _=>K) (fun s=>s.2.2.2.2::pt b3 (bK p).toArray 127::hs)
  (fun s=>s.1<=ba l/\ms p l s.1 s.2.1/\bN 2 127 cC s.2.2.2.2 s.2.2.1 (ba (mX p (l.take s.1) s.2.1)) s.2.2.2.1 (mX p (l.take s.1) s.2.1)) (fun s=>ba l-s.1) (0,false,none,0,Go.En.em)
  ⟨aag _,⟨fun _ x hx=>by simp at hx,fun g=>Bool.noConfusion g⟩,bN.nil _ _⟩ ⟨rfl,rfl,rfl,rfl,rfl,trivial⟩ rfl rfl ?_
 rintro ⟨i,done,a5,c5,g5⟩ ⟨hi,hI,o⟩;dsimp only at *;refine sq (ac9 (af 3 I fun b11 h11=>fin 0 I (th (ah h11 I (fun e2=>?_) (fun e2=>?_)))))
 ·obtain ⟨ad,rfl⟩:=x.addr qo SU;obtain ⟨y,hy⟩:∃ y,l[i]?=some y:=⟨_,aae qo⟩;have hyw:=hw y (aap hy);obtain ⟨cy,hcy,hcyl,hcyc⟩:=x.cells hy;obtain rfl:=hcy;obtain ⟨vs,xv⟩:=x.isS
  have hlen:∀ d,ba (mX p (l.take i) d)<=i+1:=fun d=>by
   grind [sC,mX,fh]
  have hpl:=hlen done
  refine sk (th (sq (bk (jn (σ:=Bool×List az×Option Addr×Nat×PH) (fun s=>[(0,.slice (some ad) (ba l) cp),(3,SX b3),(5,.slice s.2.2.1 (ba s.2.1) s.2.2.2.1),(6,.bool s.1),(7,.int .i64 (i:Nat))]) (fun s=>s.2.2.2.2::pt b3 (bK p).toArray 127::hs)
   (fun s=>ba s.2.1<=i+2/\bN 2 127 cC s.2.2.2.2 s.2.2.1 (ba s.2.1) s.2.2.2.1 s.2.1/\ms p l (i+1) s.1/\mX p (l.take (i+1)) s.1=if y.word=p.word then s.2.1 else s.2.1++[y]) ?_ ?_))))
  ·cases done with
   | true=>
    obtain ⟨h1,h2⟩:=hI.on hr hy;refine sq (bI [pt b3 (bK p).toArray 127] 13 [0,2,4,6,8,10,12,14,16,18,20,22,24] ST qk qk (be qk 13 I (th (dt I (sk (jx (true,mX p (l.take i) true,a5,c5,g5) ⟨ax,o,h1,?_⟩ sb rfl rfl))))))
    simp_all [mX]
   | false=>
    refine sq (bI [pt b3 (bK p).toArray 127] 13 [0,2,4,6,8,10,12,14,16,18,21,22,24] ST qk qk (bh qk 5 i I I qo (lc qk 1 I (.inl I) (hcyc 0 _ I) (au ?_))));refine cl 0 I (Of y.word p.word hyw hp) ?_;rintro v24 K24 hs24 ⟨rfl,rfl,rfl⟩;refine bp ST I ?_;obtain ⟨lt,hlt⟩:=bC (bA y p)
    change WA _ _ _ _ _ _ _ _ _ _ ((24,.bool (bA y p))::_) _ _
    rw[<-hlt];refine au ?_;refine nt I (fun h3=>?_) (fun h3=>?_)
    ·have hf:bA y p=false:=by rw[<-hlt];simpa using h3
     obtain ⟨h1,h2⟩:=hI.first hy hf
     refine ac9 (dy 1 1 I I qk (lit 0 (bK p).toArray I SU qk fun b29=>jU 0 1 (bK p) p I I I o I I (mH _ p I) I SU (by show (_+1)*24<=_;omega) (by simp only[maxLen];omega) fun ao30 c30 g30 o30=>WL.drop (fin 1 rfl (ac8 (fin 1 rfl (jx (true,l.take i++[p],ao30,c30,g30) ⟨?_,?_,h1,?_⟩ ⟨rfl,rfl,?_,rfl,rfl,trivial⟩ rfl rfl))))))
     ·simp_all
     ·dsimp only;rw[aaf];exact o30
     ·dsimp only;rw[mX,aab rfl];exact h2
     dsimp only;rw[aaf];rfl
    have hf:bA y p=true:=by rw[<-hlt];simpa using h3
    obtain ⟨h1,h2,h4⟩:=hI.go hy hf;refine sk (jx (false,l.take i,a5,c5,g5) ⟨?_,o,h1,?_⟩ sb I I)
    all_goals simp_all [mX]
  rintro ⟨d2,out,a2,c2,g2⟩ ⟨hol,o2,hI2,hout⟩;dsimp only at *;refine sq (bI [pt b3 (bK p).toArray 127] 8 [0,2,4,6,8,10,12,14] ST qk qk (bh qk 2 i I I qo (lc qk 1 I (.inl I) (hcyc 0 _ I) (au ?_))));refine gE qk 0 (y.word≠p.word) I ST fun b38 h38=>au ?_;refine ah h38 I (fun e4=>?_) (fun e4=>?_)
  ·rw[aaa e4] at hout;refine rg (dz 3 i I I xv qo SU fun a42 e42=>?_);cases e42;refine eD 0 (bK y) I qk (.inl I) hcyc (lit 0 (bK y).toArray I SU qk fun b44=>jU 0 1 (bK y) y I I I o2 I I (mH _ y I) I SU (by show (_+1)*24<=_;omega) (by simp only[maxLen];omega) fun ao45 c45 g45 o45=>WL.drop (au ?_));refine ar 1 I (v':=.int .i64 (i+1:Nat)) (ac qo) (fin 1 I (bc (x:=(i,done,a5,c5,g5)) (i+1,d2,ao45,c45,g45) ⟨I,I,?_,I,I,trivial⟩ I I ⟨qo,hI2,?_⟩ (by (try dsimp only);omega)))
   ·dsimp only;rw[hout,aaf];rfl
   simp_all
  rw[aab (Classical.not_not.1 e4)] at hout;refine sk (ac7 (ar 1 I (v':=.int .i64 (i+1:Nat)) (ac qo) (fin 1 I (bc (x:=(i,done,a5,c5,g5)) (i+1,d2,a2,c2,g2) ⟨I,I,?_,I,I,trivial⟩ I I ⟨qo,hI2,?_⟩ (by (try dsimp only);omega)))))
  ·dsimp only;rw[hout];rfl
  dsimp only;rw[hout];exact o2
 have hil:i=ba l:=qo
 subst hil;refine ex (xt (xt (xb (ac5 ?_))));rw[aav] at o ⊢;cases done with
 | false=>
  have hI':=DE fun x hx=>hI.no rfl x (by rw[aav];exact hx);refine fin 2 I (th (dY I (rg (dy 1 1 I I qk (lit 0 (bK p).toArray I SU qk fun b50=>jU 0 1 (bK p) p I I I o I I (mH _ p I) I SU (by show (ba l+1)*24<=_;omega) (by show ba l+1<=_;simp only[maxLen];omega) fun ao51 c51 g51 o51=>WL.drop (fin 1 rfl (ac6 (fin 2 rfl (adb (WQ.drop1 (ay rfl rfl ⟨rfl,ao51,c51,g51,?_,rfl,?_⟩)))))))))))
  ·rw[hI',aaf];rfl
  rw[hI',aaf];exact o51
 | true=>
  exact fin 2 I<|th (dt I<|sk (ac6<|fin 2 I (adb (WQ.drop1<|ay I I ⟨I,a5,c5,g5,I,I,o⟩))))
end
section
attribute [local irreducible] Code.wp wpList Calls
def FW(ao:Option Addr)(c:Nat)(l:List az)(s:List UInt8)(x:bF 2 cC K ao (ba l) c l)(hl:ba l<=1000000):
  aj w0 119 [.slice ao (ba l) c,str s] K hs (fun v K' hs'=>K'=K/\hs'=hs/\v=.tuple #[.int .i64 ((bZ l s).getD 0),.bool (bZ l s).isSome]):=by
 refine bH Tryz.func119 ?_;refine ar 2 I (v':=.int .i64 ((ba l:Int)-1-((0:Nat):Int))) (by rw[ac qo];simp) (au ?_);refine loop (σ:=Nat) (fun i=>[(0,.slice ao (ba l) c),(1,str s),(6,.int .i64 ((ba l:Int)-1-((i:Nat):Int)))]) (fun _=>K) (fun _=>hs) (fun i=>i<=ba l/\(l.reverse.take i).find? (fun p=>decide (p.word=s))=none) (fun i=>ba l-i) 0 ⟨aag _,ST⟩ ⟨I,I,I,trivial⟩ I I ?_;rintro i ⟨hi,hno⟩;refine sq (ac9 (aX 1 I (fun e2=>?_) (fun e2=>?_)))
 ·refine au ?_;have hil:i<ba l:=qo
  obtain ⟨p,hp⟩:∃ p,l[ba l-1-i]?=some p:=⟨_,aae qo⟩
  have her:l.reverse[i]?=some p:=by
   rw[List.getElem?_reverse qo];exact hp
  obtain ⟨ad,rfl⟩:=x.addr qo SU;obtain ⟨vs,xv⟩:=x.isS;obtain ⟨cs,hc,hcl,hcell⟩:=x.cells hp;obtain rfl:=hc;refine au ?_;refine dz 2 (ba l-1-i) I (show _=((ba l-1-i:Nat):Int) by omega) xv qo SU fun a16 ha=>?_;cases ha;refine ld 1 I (.inl I) (hcell 0 _ I) (HO 1 I fun b20 h20=>fin 0 I (th (ah h20 I (fun e4=>?_) (fun e4=>?_))))
  ·have hF:bZ l s=some p.w:=by unfold bZ;rw[Bu hno her (by simpa using e4)];rfl
   refine ac9 (dz 2 (ba l-1-i) I (show _=((ba l-1-i:Nat):Int) by omega) xv qo SU fun a23 ha=>?_);cases ha;refine ld 1 I (.inl I) (hcell 1 _ I) (au ?_);exact bL I I I ⟨I,I,by rw[hF];rfl⟩
  refine sk (ac7 (ar 1 I (v':=.int .i64 ((ba l:Int)-1-((i+1:Nat):Int))) (by rw[ac qo];congr 1;omega) (fin 1 rfl (bc (x:=i) (i+1) sb rfl rfl ⟨hil,?_⟩ qo))));rw[aaA,her,acM,hno];simp[show ¬p.word=s by simpa using e4]
 refine au ?_;have hie:i=ba l:=qo
 rw[hie,aar ST] at hno;have hF:bZ l s=none:=by unfold bZ;rw[hno];rfl
 refine au ?_;exact bL I I I ⟨I,I,by rw[hF];rfl⟩
end
section
attribute [local irreducible] Code.wp wpList Calls
def P3{w0:World}{K:PH}{hs:List PH}(ao:Option Addr)(cp:Nat)(W:List az)(s:List UInt8)(w:Int)(x:bF 2 cC K ao (ba W) cp W)(hr:d7 W)(hl:ba s<1099511627776):
  aj w0 50 [.slice ao (ba W) cp,str s,.int .i64 w] K hs
   (fun v K' hs'=>Le K K'/\hs'=hs/\∃ ao' c',v=.tuple #[.slice ao' (ba (er W s w).1) c',.int .i64 (er W s w).2.1,.int .i64 (er W s w).2.2]/\bF 2 cC K' ao' (ba (er W s w).1) c' (er W s w).1):=by
 have hfew:=hr.few;refine bH Tryz.func50 ?_;refine cl 1 I (Fw s hl) ?_;rintro v13 K13 hs13 ⟨rfl,rfl,t13,rfl,h13⟩;refine au ?_;refine cl 2 I (FW ao cp W s x qo) ?_;rintro v17 K17 hs17 ⟨rfl,rfl,rfl⟩;obtain ⟨t9,ht9⟩:∃ t,t=(bZ W s).isSome:=⟨_,rfl⟩;have h17:t9=true↔(bZ W s).isSome=true:=by rw[ht9]
 rw[<-ht9];refine fin 5 I (ac5 (eE 1 _ I (jc h13) fun b21 h21=>fin 0 I (th (ah h21 I (fun e1=>?_) (fun e1=>?_)))))
 ·refine au ?_;have e:er W s w=(W,0,140):=by unfold er;rw[aab e1]
  rw[e];exact jq I I I I ⟨Le.refl _,I,ao,cp,I,x⟩
 refine au ?_;refine af 1 I fun b24 h24=>?_
 refine' eB 1 3 28 [24,25] h24 I I I I I I I (fun _=>?x3) (fun b28 h28=>?_)
 case x3=>
  exact af 1 I fun b27 h27=>fin 1 I<|dk h27 I I I
 refine fin 0 I<|th (ah h28 I (fun e5=>?_) (fun e5=>?_))
 ·refine au ?_;have e:er W s w=(W,0,141):=by simp_all [er]
  rw[e];exact jq I I I I ⟨Le.refl _,I,ao,cp,I,x⟩
 refine au ?_;refine eE 1 _ I (jc h17) fun b31 h31=>?_
 refine' gu 1 4 36 [31,32] h31 I I I I I I I (fun _=>?x6) (fun b36 h36=>?_)
 case x6=>
  exact af 2 I fun b35 h35=>fin 1 I<|dk h35 I I I
 refine fin 0 I<|th (ah h36 I (fun e8=>?_) (fun e8=>?_))
 ·refine au ?_;have e:er W s w=(W,0,142):=by grind [er]
  rw[e];exact jq I I I I ⟨Le.refl _,I,ao,cp,I,x⟩
 have hnf:¬((bZ W s).isSome=false/\ba W=4096):=fun g=>e8 ⟨by simpa using g.1,qo⟩;have e:er W s w=(fu W ⟨s,w⟩,(bZ W s).getD 0,0):=by simp_all [aaa,er]
 rw[e];refine sk (ac6 (bd 3 (.agg (bK ⟨s,w⟩).toArray) I (fun w=>by kernel_rfl) (cl 0 I (Ql ao cp W ⟨s,w⟩ x hr.rise qo (fun q hq=>by have:=(hr.one q hq).1.1;omega) hl) ?_)));rintro v42 K42 hs42 ⟨rfl,ao',c',g,rfl,rfl,o⟩;exact fin 4 I (adb (WQ.frz fun K2 le2 le3=>jq I I I I ⟨le2,I,ao',c',I,o.slS.le le3 fun _ _ h=>h⟩))
def LC(ao:Option Addr)(cp:Nat)(W:List az)(s:List UInt8)(x:bF 2 cC K ao (ba W) cp W)(hr:d7 W)(hl:ba s<1099511627776):
  aj w0 49 [.slice ao (ba W) cp,str s] K hs
   (fun v K' hs'=>Le K K'/\hs'=hs/\∃ ao' c',v=.tuple #[.slice ao' (ba (eG W s).1) c',.int .i64 (eG W s).2.1,.int .i64 (eG W s).2.2]/\bF 2 cC K' ao' (ba (eG W s).1) c' (eG W s).1):=by
 have hfew:=hr.few;obtain ⟨vs,xv⟩:=x.isS;refine bH Tryz.func49 ?_;refine cl 1 I (Fw s hl) ?_;rintro v13 K13 hs13 ⟨rfl,rfl,t13,rfl,h13⟩;refine au ?_;refine cl 2 I (FW ao cp W s x qo) ?_;rintro v17 K17 hs17 ⟨rfl,rfl,rfl⟩;obtain ⟨t9,ht9⟩:∃ t,t=(bZ W s).isSome:=⟨_,rfl⟩;have h17:t9=true↔(bZ W s).isSome=true:=by rw[ht9]
 obtain ⟨had,hhad⟩:∃ t,t=(bZ W s).getD 0:=⟨_,rfl⟩;rw[<-ht9,<-hhad];refine fin 5 I (ac5 (eE 1 _ I (jc h13) fun b21 h21=>fin 0 I (th (ah h21 I (fun e1=>?_) (fun e1=>?_)))))
 ·refine au ?_;have e:eG W s=(W,0,140):=by unfold eG;rw[aab e1]
  rw[e];exact jq I I I I ⟨Le.refl _,I,ao,cp,I,x⟩
 refine sk<|ac5 (eE 1 _ I (jc h17) fun b24 h24=>fin 0 I<|th (ah h24 I (fun e2=>?_) (fun e2=>?_)))
 ·refine au ?_;have e:eG W s=(W,0,143):=by simp_all [eG]
  rw[e];exact jq I I I I ⟨Le.refl _,I,ao,cp,I,x⟩
 have e:eG W s=(fh W s,had,0):=by simp_all [eG]
 rw[e];refine sk (ac6 (fin 1 I (ac5 (WL.em (au ?_)))));refine loop (σ:=Nat×Option Addr×Nat×PH) (fun q=>[(0,.slice ao (ba W) cp),(1,str s),(8,.int .i64 had),(10,.slice q.2.1 (ba (fh (W.take q.1) s)) q.2.2.1),(11,.int .i64 q.1)]) (fun _=>K17) (fun q=>q.2.2.2::hs17) (fun q=>q.1<=ba W/\bN 2 127 cC q.2.2.2 q.2.1 (ba (fh (W.take q.1) s)) q.2.2.1 (fh (W.take q.1) s)) (fun q=>ba W-q.1) (0,none,0,Go.En.em) ⟨aag _,bN.nil _ _⟩ ⟨I,I,I,I,I,trivial⟩ I I ?_;rintro ⟨i,a5,c5,g5⟩ ⟨hi,o⟩;dsimp only at *;refine sq (ac9 (af 3 I fun b29 h29=>fin 0 I (th (ah h29 I (fun e4=>?_) (fun e4=>?_)))))
 ·obtain ⟨y,hy⟩:∃ y,W[i]?=some y:=⟨_,aae qo⟩;obtain ⟨ad,rfl⟩:=x.addr qo SU;obtain ⟨cy,hcy,hcyl,hcyc⟩:=x.cells hy;obtain rfl:=hcy
  have ht:fh (W.take (i+1)) s=if y.word=s then fh (W.take i) s else fh (W.take i) s++[y]:=by
   rw[aaA,hy]
   grind [fh]
  have hpl:ba (fh (W.take i) s)<=i:=aat (act _ _) (by rw[aam];omega);refine au ?_;refine dz 2 i I I xv qo SU fun a34 e34=>?_;cases e34;refine ld 1 I (.inl I) (hcyc 0 _ I) (R6 1 I fun b38 h38=>fin 0 I (th (ah h38 I (fun e6=>?_) (fun e6=>?_))))
  ·rw[aaa qo] at ht;refine rg (dz 3 i I I xv qo SU fun a42 e42=>?_);cases e42;refine eD 0 (bK y) I qk (.inl I) hcyc (lit 0 (bK y).toArray I SU qk fun b44=>jU 0 1 (bK y) y I I I o I I (mH _ y I) I SU (by show (_+1)*24<=_;omega) (by simp only[maxLen];omega) fun ao45 c45 g45 o45=>WL.drop (au ?_));refine ar 1 I (v':=.int .i64 (i+1:Nat)) (ac qo) (fin 1 I (bc (x:=(i,a5,c5,g5)) (i+1,ao45,c45,g45) ⟨I,I,I,?_,I,trivial⟩ I I ⟨qo,?_⟩ (by (try dsimp only);omega)))
   ·dsimp only;rw[ht,aaf];rfl
   simp_all
  rw[aab (by simpa using e6)] at ht;refine sk (ac7 (ar 1 I (v':=.int .i64 (i+1:Nat)) (ac qo) (fin 1 I (bc (x:=(i,a5,c5,g5)) (i+1,a5,c5,g5) ⟨I,I,I,?_,I,trivial⟩ I I ⟨ax,?_⟩ qo))))
  ·dsimp only;rw[ht];rfl
  dsimp only;rw[ht];exact o
 have:i=ba W:=qo
 subst this;rw[aav] at o ⊢;exact ex (xt (xt (xb (ac6 (fin 5 I (adb (WQ.frz fun K2 le2 le3=>jq I I I I ⟨le2,I,a5,c5,I,o.slS.le le3 fun _ _ h=>h⟩)))))))
def Px(a b:az)(w:World):(Op.equalIn 10000 127 (.agg (bK a).toArray) (.agg (bK b).toArray)).run Tryz.prog w=.ok (decide (a=b)) w:=by
 have u3:=Tryz.underlying3;have a3:=Tryz.isAgg3;have z3:=Tryz.sizeOf3;have u4:=Tryz.underlying9;have a4:=Tryz.isAgg9;have z4:=Tryz.sizeOf9;obtain ⟨a1,a2⟩:=a;obtain ⟨b1,b2⟩:=b
 have es:(Op.equalIn 9999 9 (str a1) (str b1)).run Tryz.prog w=.ok (decide (a1=b1)) w:=by
  have e0:((⟨a1.toArray⟩:ByteArray) == (⟨b1.toArray⟩:ByteArray))=decide (a1=b1):=by
   change (a1.toArray == b1.toArray)=decide (a1=b1)
   rw[abT]
   simp
  rw[show (9999:Nat)=9998+1 from rfl];unfold str Op.equalIn;simp only[Sem.run_bind,run_underlying u4,Result.andThen,Sem.run_pure,e0]
 unfold bK;rw[show (10000:Nat)=9999+1 from rfl,run_equalIn_agg w 9999 127 _ _ qk qk];simp only[Program.fieldsOf,Tryz.underlying127]
 go_simp
 grind
def OH(ao ao2:Option Addr)(c c2:Nat)(a b:List az)(x:bF 2 cC K ao (ba a) c a)(y:bF 2 cC K ao2 (ba b) c2 b)(hl:ba a<=1000000):
  aj w0 15 [.slice ao (ba a) c,.slice ao2 (ba b) c2] K hs
   (fun v K' hs'=>K'=K/\hs'=hs/\∃ t:Bool,v=.bool t/\(t=true↔a=b)):=by
 refine bH Tryz.func15 ?_;refine aX 4 I (fun e2=>?_) (fun e2=>?_)
 ·refine au ?_;exact ay I I ⟨I,I,false,I,⟨fun h=>Bool.noConfusion h,fun h=>absurd (by rw[h]) e2⟩⟩
 refine au ?_;have hlen:ba a=ba b:=qo
 refine au ?_;refine loop (σ:=Nat) (fun i=>[(0,.slice ao (ba a) c),(1,.slice ao2 (ba b) c2),(5,.int .i64 (i:Nat))]) (fun _=>K) (fun _=>hs) (fun i=>i<=ba a/\a.take i=b.take i) (fun i=>ba a-i) 0 ⟨aag _,I⟩ ⟨I,I,I,trivial⟩ I I ?_;rintro i ⟨hi,he⟩;refine sq (ac9 (aX 3 I (fun e4=>?_) (fun e4=>?_)))
 ·refine au ?_;obtain ⟨p,hp⟩:∃ p,a[i]?=some p:=⟨_,aae qo⟩;obtain ⟨q,hq⟩:∃ q,b[i]?=some q:=⟨_,aae qo⟩;obtain ⟨ad,rfl⟩:=x.addr qo SU;obtain ⟨ad2,rfl⟩:=y.addr qo SU;obtain ⟨cp,hcp,hcpl,hcpc⟩:=x.cells hp;obtain rfl:=hcp;obtain ⟨cq,hcq,hcql,hcqc⟩:=y.cells hq;obtain rfl:=hcq;refine au ?_;refine bI [] 9 [0,2,4,6,8,10,12,14,16] ST qk qk (bh qk 2 i I I qo (ip qk 0 (bK p) I qk qk (.inl I) hcpc (bh qk 2 i I I qo (ip qk 0 (bK q) I qk qk (.inl I) hcqc (u5 qk 0 I qk (fun w=>Px p q w) (au ?_))))));refine nt I (fun e5=>?_) (fun e5=>?_)
  ·have e6:p≠q:=by simpa using e5
   refine au ?_;exact ay I I ⟨I,I,false,I,⟨fun h=>Bool.noConfusion h,fun h=>absurd (by simp_all) e6⟩⟩
  have e6:p=q:=by simpa using e5
  exact sk (ac7 (ar 1 I (v':=.int .i64 (i+1:Nat)) (ac qo) (fin 1 I (bc (x:=i) (i+1) sb I I ⟨qo,by simp_all [aaA]⟩ (by (try dsimp only);omega)))))
 refine au ?_;have:i=ba a:=qo
 subst this;rw[aav,hlen,aav] at he;refine au ?_;exact ay I I ⟨I,I,true,I,⟨fun _=>he,fun _=>I⟩⟩
end
end Go.En
