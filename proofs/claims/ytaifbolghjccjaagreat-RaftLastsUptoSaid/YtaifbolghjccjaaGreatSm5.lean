/-
  Part 5.
-/
import Derived.Test.YtaifbolghjccjaaGreatSm4
set_option linter.defProp false
set_option linter.unusedSectionVars false
set_option linter.unusedSimpArgs false
set_option linter.unusedVariables false
set_option maxRecDepth 4000
namespace Go.En
open Go.Proofs Go.Proofs.YtaifbolghjccjaaGreat
open List renaming length -> eq
attribute [local irreducible] Code.wp wpList Calls
variable {P : Program} {w0 : World} {K : PH} {hs : List PH}
section
def A8{s:bZ}{r:Nat×List UInt8}(hs:s.bd)(hr:r.1<18446744073709551616/\eq r.2<=48):(s.pick r).bd:=by
 unfold bZ.pick
 split
 ·exact hr
 exact hs
def ym{c:Nat}{D:Dk}(o:D.Ok c)(area:Nat):(gF D area).bd:=
 A8 (A8 ⟨Nat.zero_lt_succ _,aad _⟩ (uw o area 0)) (uw o area 1)
theorem Cc:∀ (r:List (List UInt8)) (i:Nat) (l:List af),i9 i r=some l->eq l=eq r/\∀ e∈l,ic e
 | [],i,l,h=>by
  cases h
  simp
 | b::r,i,l,h=>by
  rw[uz] at h;cases hg:fL b with
  | none=>rw[hg] at h;cases h
  | some e=>
   rw[hg] at h;dsimp only at h
   split at h
   ·cases hr:i9 (i+1) r with
    | none=>rw[hr] at h;cases h
    | some q=>
     rw[hr] at h;cases h;obtain ⟨g1,g2⟩:=Cc r (i+1) q hr;have h3:=Ft hg;refine ⟨by simp[g1],fun y hy=>?_⟩;rcases aay.1 hy with rfl|hy
     ·exact ⟨l6.1 (by rw[h3.1];rfl),h3.2⟩
     exact g2 y hy
   cases h
def FR{c:Nat}{D:Dk}(o:aP c D){fr first:Nat}{W:Wl}{E:Dk}(h:dz D fr first=(some W,E,0)):eq W.old<=eq D.areas:=by
 unfold dz at h
 split at h
 ·cases h
 split at h
 ·cases h
 rename_i h1
 split at h
 ·cases h
 rename_i h2
 split at h
 ·cases h
 rename_i h3
 split at h
 ·cases h
 simp only[aag,aae] at h;obtain ⟨rfl,_⟩:=h
 have h3:(ga D fr (ca (aU D)) (dD fr first (aU D)) []).2.2=true:=by
  simp_all
 have h0:ig D (dD fr first (aU D)).next [] (dD fr first (aU D)):=⟨rfl,rfl,rfl,by simp[dD],by simp[dD];omega,by simp[dD],by simp[dD],by simp[dD]⟩;have hS:=(ig.scan o.ok _ _ _ _ h0 h3).old;rw[abd] at hS
 grind [pz,tf]
def zN(g:List Nat)(n:Nat)(D:Dk):Rk 0 D (fy D g n).1:=by
 unfold fy
 split
 ·exact (Rk.of D).free _
 exact (Rk.of D).sync _
theorem yT(g:List Nat):∀ (l:List Nat) (D:Dk),Rk 0 D (wsettle g l D).1
 | [],D=>Rk.of D
 | n::r,D=>by
  unfold Go.En.wsettle
  split
  ·exact (zN g n D).trans<|yT g r _
  exact zN g n D
def Hj(D:Dk)(fr first:Nat):Rk 0 D (dz D fr first).2.1:=by
 grind [Rk.of,yT,dz]
theorem t8(pl:Nat):∀ (l:List Int) (D:Dk),Rk 0 D (lgFree pl l D).1
 | [],D=>Rk.of D
 | a::r,D=>by
  rw[qz]
  split
  ·split
   ·exact (Rk.of D).free _
   exact ((Rk.of D).free _).trans<|t8 pl r _
  exact t8 pl r D
def Fp{D:Dk}{S:bZ}{v:List Int}(hv:eq v<=7){p:aX×Nat×Nat}(h:jk D S v=some p):m7 p.1/\p.2.1<=bH/\p.2.2<=bH:=by
 unfold jk at h
 split at h
 ·cases h;exact ⟨⟨aad _,aad _,hv,aad _⟩,aad _,aad _⟩
 split at h
 ·cases h
 split at h
 ·cases h
 cases h;refine ⟨⟨fZ _ _,fZ _ _,(EV _).1,?_⟩,fZ _ _,fZ _ _⟩
 grind [fZ,mX]
theorem Rn.opened{c q:Nat}{D:Dk}(o:aP c D)(hq:eq D.areas<=q){first:List Int}{L:Lg}(h:(fA D first).1=some L):Rn (c+2*q) q L (fA D first).2.1/\(fA D first).2.2=0:=by
 unfold fA at h ⊢
 split at h
 ·cases h
 rename_i hv;have hv:(bU first).isSome=true:=by grind
 rw[aaa (by rw[hv];simp)]
 split at h
 ·cases h
 rename_i hd;rw[aaa hd];cases hkh:iy (gF D 0) with
 | none=>rw[hkh] at h;cases h
 | some kh=>
  rw[hkh] at h;dsimp only at h ⊢;cases hhd:jk D (gF D 4) first with
  | none=>rw[hhd] at h;cases h
  | some p=>
   rw[hhd] at h;dsimp only at h ⊢;unfold rN at h ⊢
   split at h
   ·cases h
   rename_i hf;rw[aaa hf];have oF:aP (c+q) (lgFree p.2.1 (aU D) D).1:=(aP.lgFree p.2.1 (aU D) D c o).up (by rw[tf];omega);have hFq:eq (lgFree p.2.1 (aU D) D).1.areas<=q:=by have:=(t8 p.2.1 (aU D) D).len oF.ok;omega
   generalize (lgFree p.2.1 (aU D) D).1=F at h oF hFq ⊢;unfold rM at h ⊢;have hco:=yh (D:=F) (fr:=p.2.2) (first:=p.1.idx+1);have hdo:=oF.opened p.2.2 (p.1.idx+1);have hrk:=(Hj F p.2.2 (p.1.idx+1)).len hdo.ok;cases hw:(dz F p.2.2 (p.1.idx+1)).1 with
   | none=>rw[hw] at h;cases h
   | some W=>
    rw[hw] at h;dsimp only at h ⊢
    have he:dz F p.2.2 (p.1.idx+1)=(some W,(dz F p.2.2 (p.1.idx+1)).2.1,0):=by
     rw[<-hw,<-hco.2 W hw]
    have hb:=cy.opened oF he;have hold:=FR oF he;cases hre:j2 p.1 W with
    | none=>rw[hre] at h;cases h
    | some l=>
     rw[hre] at h;dsimp only at h ⊢;cases h;have hS:=Fp (qx hv) hhd;have hw70:=hb.1.recs
     have hrd:eq l<=70000000000+(c+q)/\∀ e∈l,ic e:=by
      grind [Cc,List.length_drop,j2]
     have hkb:kh.1<=ac /\ -1<=kh.2/\kh.2<=6:=by
      grind [iy,aG]
     refine ⟨⟨⟨hb.1.up qo,ym o.ok 0,ym o.ok 4,hkb.1,hkb.2,hS.1.idx,hS.1.term,hS.1.vot,hS.1.data,by have:=hS.2.1;dsimp only;omega,by grind [bH,cG],aH,hrd.2⟩,hdo.up qo,aH,qo⟩,rfl⟩
end
section
section deqs
variable {P:Program} {T:bg} {w0:World} {ops:Array Oper} {Q:Exit->Act->World->Prop} {plan plan':List Nat} {z:Nat} {listed listed':Array Bool} {n:Nat} {l l':Sl} {K K0:PH} {hs A:List PH}
end deqs
def uY{r:Int}(h:0<=r/\r<=1073741824):aP 0 (dT r):=⟨La ⟨h.1,qo⟩,by simp[dT],by simp[dT],by simp[dT,eC];omega⟩
end
section
def j7(t:Nat)(a:List af):Nat:=((a.getLast?).map af.term).getD t
def FA(t:Nat)(e:af)(a:List af):j7 t (e::a)=j7 e.term a:=by
 grind [j7]
theorem nC:∀ (a b:List af) (i t:Nat),cH i t (a++b)=0↔cH i t a=0/\cH (i+eq a) (j7 t a) b=0
 | [],b,i,t=>by simp[j7,cH]
 | e::a,b,i,t=>by
  rw[aaJ,kC,kC]
  by_cases h:e.idx≠i+1\/e.term<t
  ·omega
  rw[aaa h,aaa h,nC a b e.idx e.term,FA,aan,show e.idx+eq a=i+(eq a+1) by omega]
def pA{s:aX}{l:List af}{k:Nat}(h:k<=eq l):trm s l (s.idx+k)=(j7 s.term (l.take k),true):=by
 grind [trm,j7]
theorem ze{i t:Nat}{l:List af}(h:cH i t l=0)(k:Nat):cH i t (l.take k)=0:=by
 grind [List.take_append_drop,nC]
def tT{i t:Nat}{l:List af}(h:cH i t l=0){k:Nat}(hk:k<=eq l):cH (i+k) (j7 t (l.take k)) (l.drop k)=0:=by
 grind [List.take_append_drop,nC]
def Rl.wf(r:Rl):Prop:=cH r.sn.idx r.sn.term r.l=0
theorem Rl.wf.idx{r:Rl}(h:r.wf){j:Nat}{e:af}(he:r.l[j]?=some e):e.idx=r.sn.idx+j+1:=kG r.l _ _ h j e he
theorem Rl.wf.setHard{r:Rl}(h:r.wf)(t:Nat)(v:Int):(r.setHard t v).1.wf:=by
 unfold Rl.setHard
 split
 ·exact h
 split
 ·exact h
 exact h
theorem Rl.wf.append{r:Rl}(h:r.wf)(x:List af):(r.append x).1.wf:=by
 unfold Rl.append
 split
 ·exact h
 rename_i hf;have hf:=lw (Decidable.not_not.1 hf);show cH r.sn.idx r.sn.term (r.l++x)=0;rw[nC];rw[pA (aac _),aaE] at hf;exact ⟨h,hf⟩
theorem Rl.wf.merge1{r:Rl}(h:r.wf){i t:Nat}(hi:r.sn.idx<=i){x:List af}(hf:cH i t x=0)(last:Nat):(r.merge1 i t x last).1.wf:=by
 unfold Rl.merge1
 split
 ·exact h
 rename_i hc;have hc:=not_or.1 hc;have ht:trm r.sn r.l i=(t,true):=Prod.ext (Decidable.not_not.1 hc.2) (by simpa using hc.1);obtain ⟨⟨y,B⟩,hy⟩:∃ p,skp r.sn r.l x true=p:=⟨_,rfl⟩;cases y with
 | nil=>rw[nf hy];exact h
 | cons e q=>
  rw[na hy];obtain ⟨u,g1,g2,g3,_⟩:=nN r.sn r.l x i t true hf ht e q B hy;have g5:=kD (s:=r.sn) (l:=r.l) (i:=e.idx-1) (by rw[g2]);show cH r.sn.idx r.sn.term (r.l.take (e.idx-r.sn.idx-1)++(e::q))=0;rw[nC];refine ⟨ze h _,?_⟩;have hl:=pA (s:=r.sn) (l:=r.l) (k:=e.idx-r.sn.idx-1) qo
  grind
theorem Rl.wf.merge{r:Rl}(h:r.wf)(i t:Nat)(x:List af):(r.merge i t x).1.wf:=by
 unfold Rl.merge
 split
 ·exact h
 rename_i hf;have hf:=lw (Decidable.not_not.1 hf)
 split
 ·split
  ·exact h
  split
  ·exact h
  rename_i h2;refine h.merge1 (aac _) ?_ _;cases hd:x.drop (r.sn.idx-i) with
  | nil=>rfl
  | cons e q=>
   have h3:=l7 x i t _ e q hf hd;rw[hd] at h2;simp at h2;rw[kC,aaa qo];exact h3.2
 exact h.merge1 qo hf _
theorem Rl.wf.save{r:Rl}(h:r.wf)(s:aX):(r.save s).1.wf:=by
 unfold Rl.save
 split
 ·exact h
 rename_i hf;obtain ⟨_,_,hlt,_⟩:=ls (Decidable.not_not.1 hf)
 split
 ·exact h
 rename_i hh;have hh:dL r.sn r.l s=true:=by simpa using hh
 have hle:=yu hh hlt;show cH s.idx s.term (r.l.drop (s.idx-r.sn.idx))=0;have:=tT h (k:=s.idx-r.sn.idx) qo;have hl:=pA (s:=r.sn) (l:=r.l) (k:=s.idx-r.sn.idx) qo
 grind [dL]
theorem Rl.wf.install{r:Rl}(h:r.wf)(s:aX):(r.install s).1.wf:=by
 unfold Rl.install
 split
 ·exact h
 split
 ·exact h.save s
 exact I
end
section
def Ct.lawT{f:FuncId}{args:List Value}(c:Ct P w0 f args K hs (fun v K' _=>Le K K'/\v=.bool true)):Ct P w0 f args K hs (fun v K' _=>K'=K/\v=.bool true):=
 Ct.fix2 c (fun w v K' hs' hS ⟨le,hv⟩=>⟨K,hs',⟨rfl,hv⟩,hS.weak le⟩)
end
section
theorem yN(s:aX)(l:List af):∀ (x:List af) (b:Bool) (y:List af) (B:Bool),skp s l x b=(y,B)->∃ p,x=p++y/\∀ e∈p,trm s l e.idx=(e.term,true)
 | [],b,y,B,h=>by cases h;exact ⟨[],I,Nm⟩
 | a::x,b,y,B,h=>by
  rw[pH] at h
  by_cases hc:(trm s l a.idx).2=false\/(trm s l a.idx).1≠a.term
  ·rw[aab hc] at h;cases h;exact ⟨[],I,Nm⟩
  rw[aaa hc] at h;have hc:=not_or.1 hc;obtain ⟨p,h1,h2⟩:=yN s l x true y B h;refine ⟨a::p,by rw[h1];rfl,fun e he=>?_⟩;rcases aay.1 he with rfl|he
  ·exact Prod.ext (Decidable.not_not.1 hc.2) (by simpa using hc.1)
  exact h2 e he
def Da(r r':Rl)(i:Nat)(x:List af):Prop:=
 r'.sn=r.sn/\(∀ e∈x,r.sn.idx<e.idx->trm r'.sn r'.l e.idx=(e.term,true))/\(∀ (j:Nat) y,r.l[j]?=some y->r.sn.idx+j+1<=i->r'.l[j]?=some y)
def uc{r:Rl}{i t:Nat}(hi:r.sn.idx<=i){x:List af}(hf:cH i t x=0)(last:Nat)(hg:(r.merge1 i t x last).2.2.1=true):Da r (r.merge1 i t x last).1 i x/\(r.merge1 i t x last).2.1=last:=by
 unfold Rl.merge1 at hg ⊢
 split
 ·rename_i hc;rw[aab hc] at hg;cases hg
 rename_i hc;have hc:=not_or.1 hc;have ht:trm r.sn r.l i=(t,true):=Prod.ext (Decidable.not_not.1 hc.2) (by simpa using hc.1);obtain ⟨⟨y,B⟩,hy⟩:∃ p,skp r.sn r.l x true=p:=⟨_,rfl⟩;obtain ⟨p,hp,hpt⟩:=yN r.sn r.l x true y B hy;cases y with
 | nil=>
  rw[nf hy];rw[aar] at hp;subst hp;exact ⟨⟨I,fun e he _=>hpt e he,fun j y hj _=>hj⟩,I⟩
 | cons e q=>
  rw[na hy];obtain ⟨u,g1,g2,g3,_⟩:=nN r.sn r.l x i t true hf ht e q B hy;have g5:=kD (s:=r.sn) (l:=r.l) (i:=e.idx-1) (by rw[g2]);have hlen:eq (r.l.take (e.idx-r.sn.idx-1))=e.idx-r.sn.idx-1:=by rw[aam];omega
  refine ⟨⟨I,fun z hz _=>?_,fun j y hj hji=>?_⟩,I⟩
  ·show trm r.sn (r.l.take (e.idx-r.sn.idx-1)++(e::q)) z.idx=_;rw[hp] at hz;rcases aaj.1 hz with hz|hz
   ·have hzt:=hpt z hz;obtain ⟨k,hk⟩:=abi hz;have hkl:=(aax.1 hk).1;have hix:z.idx=i+k+1:=kG x i t hf k z (by rw[hp,abt hkl];exact hk);have hie:e.idx=i+eq p+1:=kG x i t hf (eq p) e (by rw[hp,abn (aac _)];simp);have h2:=qQ (s:=r.sn) (l:=r.l.take (e.idx-r.sn.idx-1)++(e::q)) (i:=z.idx) (n:=e.idx-r.sn.idx-1) qo (by rw[aah,hlen];omega);rw[abu qo,aav qo] at h2;rw[<-h2,qQ qo qo];exact hzt
   obtain ⟨k,hk⟩:=abi hz;have hkl:=(aax.1 hk).1;have hix:z.idx=(e.idx-1)+k+1:=kG (e::q) (e.idx-1) u g3 k z hk;unfold trm;rw[aaa qo,aaa (by rw[aah,hlen];omega),abn qo,hlen,show z.idx-r.sn.idx-1-(e.idx-r.sn.idx-1)=k by omega,hk]
   rfl
  have hie:i<e.idx:=g1;show (r.l.take (e.idx-r.sn.idx-1)++(e::q))[j]?=some y;have hjl:=(aax.1 hj).1;rw[abt qo,aba qo];exact hj
def Hv{r:Rl}(i t:Nat)(x:List af)(hg:(r.merge i t x).2.2.1=true):Da r (r.merge i t x).1 i x/\(r.merge i t x).2.1=i+eq x/\cH i t x=0:=by
 unfold Rl.merge at hg ⊢
 by_cases hf:eA i t x≠0
 ·rw[aab hf] at hg;cases hg
 rw[aaa hf] at hg ⊢;have hf:=lw (Decidable.not_not.1 hf)
 by_cases hi:i<r.sn.idx
 ·rw[aab hi] at hg ⊢
  by_cases h1:i+eq x<r.sn.idx
  ·rw[aab h1] at hg ⊢;refine ⟨⟨I,fun e he h2=>?_,fun j y hj _=>hj⟩,I,hf⟩;obtain ⟨k,hk⟩:=abi he;have hkl:=(aax.1 hk).1;have:=kG x i t hf k e hk;omega
  rw[aaa h1] at hg ⊢
  by_cases h2:((x.drop (r.sn.idx-i)).head?.map fun e=>decide (e.term<r.sn.term))=some true
  ·rw[aab h2] at hg;cases hg
  rw[aaa h2] at hg ⊢
  have hf2:cH r.sn.idx r.sn.term (x.drop (r.sn.idx-i))=0:=by
   cases hd:x.drop (r.sn.idx-i) with
   | nil=>rfl
   | cons e q=>
    have h3:=l7 x i t _ e q hf hd;rw[hd] at h2;simp at h2;rw[kC,aaa qo];exact h3.2
  obtain ⟨⟨h3,h4,h5⟩,h6⟩:=uc (aac _) hf2 _ hg;refine ⟨⟨h3,fun e he hie=>(h4 e ?_ hie),fun j y hj hji=>by omega⟩,h6,hf⟩;obtain ⟨k,hk⟩:=abi he;have:=kG x i t hf k e hk;refine aao (i:=k-(r.sn.idx-i)) ?_;rw[abb,show r.sn.idx-i+(k-(r.sn.idx-i))=k by omega];exact hk
 rw[aaa hi] at hg ⊢;have:=uc qo hf _ hg;exact ⟨this.1,this.2,hf⟩
end
section
def Rl.last(r:Rl):Nat:=r.sn.idx+eq r.l
def Rl.ent(r:Rl)(i:Nat):Option af:=if i<=r.sn.idx then none else r.l[i-r.sn.idx-1]?
def Kp(r r':Rl)(c:Nat):Prop:=r.sn.idx<=r'.sn.idx/\∀ i,r'.sn.idx<i->i<=c->r'.ent i=r.ent i
def Kp.refl(r:Rl)(c:Nat):Kp r r c:=⟨aac _,fun _ _ _=>rfl⟩
theorem Kp.trans{r s t:Rl}{c d:Nat}(h:Kp r s c)(g:Kp s t d)(hd:c<=d):Kp r t c:=
 ⟨aas h.1 g.1,fun i h1 h2=>(g.2 i h1 qo).trans (h.2 i (by have:=g.1;omega) h2)⟩
def Kp.same{r r':Rl}{c:Nat}(h1:r'.sn=r.sn)(h2:r'.l=r.l):Kp r r' c:=by
 refine ⟨by rw[h1];omega,fun i _ _=>?_⟩;unfold Rl.ent;rw[h1,h2]
def Gw(r:Rl)(x:List af):Kp r (r.append x).1 r.last/\r.last<=(r.append x).1.last/\(r.append x).1.sn=r.sn:=by
 unfold Rl.append
 split
 ·exact ⟨Kp.refl _ _,aac _,I⟩
 refine ⟨⟨aac _,fun i h1 h2=>?_⟩,?_,I⟩
 ·unfold Rl.last at h2;show (if i<=r.sn.idx then none else (r.l++x)[i-r.sn.idx-1]?)=if i<=r.sn.idx then none else r.l[i-r.sn.idx-1]?
  grind
 simp[Rl.last]
theorem zH{s:aX}{l:List af}:∀ {x:List af} {b:Bool} {e:af} {r:List af} {B:Bool},skp s l x b=(e::r,B)->(trm s l e.idx).2=false\/(trm s l e.idx).1≠e.term
 | [],b,e,r,B,h=>by cases h
 | a::x,b,e,r,B,h=>by
  rw[pH] at h
  split at h
  ·rename_i hc;cases h;exact hc
  exact zH h
def Rl.clash(r:Rl)(com i t:Nat):Bool:=decide (i<=com) && ((trm r.sn r.l i).2 && decide ((trm r.sn r.l i).1≠t))
def za{r:Rl}{com:Nat}(hcl:com<=r.last){i t:Nat}(hi:r.sn.idx<=i){x:List af}(hf:cH i t x=0)(hn:∀ e∈x,r.clash com e.idx e.term=false)(last:Nat):
  Kp r (r.merge1 i t x last).1 com/\com<=(r.merge1 i t x last).1.last/\(r.merge1 i t x last).1.sn=r.sn:=by
 unfold Rl.merge1
 split
 ·exact ⟨Kp.refl _ _,hcl,I⟩
 rename_i hc;have hc:=not_or.1 hc;have ht:trm r.sn r.l i=(t,true):=Prod.ext (Decidable.not_not.1 hc.2) (by simpa using hc.1);obtain ⟨⟨y,B⟩,hy⟩:∃ p,skp r.sn r.l x true=p:=⟨_,rfl⟩;have hsuf:=mh r.sn r.l x true;rw[hy] at hsuf;cases y with
 | nil=>rw[nf hy];exact ⟨Kp.refl _ _,hcl,I⟩
 | cons e q=>
  rw[na hy];obtain ⟨u,g1,g2,g3,g4⟩:=nN r.sn r.l x i t true hf ht e q B hy;have g5:=kD (s:=r.sn) (l:=r.l) (i:=e.idx-1) (by rw[g2]);have hne:=hn e (hsuf.subset Nm);have hst:(trm r.sn r.l e.idx).2=false\/(trm r.sn r.l e.idx).1≠e.term:=zH hy
  have hce:com<e.idx:=by
   grind [Rl.last,trm,Rl.clash]
  unfold Rl.last at hcl;have hlen:eq (r.l.take (e.idx-r.sn.idx-1))=e.idx-r.sn.idx-1:=by rw[aam];omega
  refine ⟨⟨aac _,fun k h1 h2=>?_⟩,?_,I⟩
  ·have h1:r.sn.idx<k:=h1;show (if k<=r.sn.idx then none else (r.l.take (e.idx-r.sn.idx-1)++(e::q))[k-r.sn.idx-1]?)=if k<=r.sn.idx then none else r.l[k-r.sn.idx-1]?
   grind
  show com<=r.sn.idx+eq (r.l.take (e.idx-r.sn.idx-1)++(e::q));rw[aah,hlen];omega
def HA{r:Rl}{com:Nat}(hcl:com<=r.last)(i t:Nat){x:List af}(hn:∀ e∈x,r.clash com e.idx e.term=false):
  Kp r (r.merge i t x).1 com/\com<=(r.merge i t x).1.last/\(r.merge i t x).1.sn=r.sn:=by
 unfold Rl.merge
 split
 ·exact ⟨Kp.refl _ _,hcl,I⟩
 rename_i hf;have hf:=lw (Decidable.not_not.1 hf)
 split
 ·split
  ·exact ⟨Kp.refl _ _,hcl,I⟩
  split
  ·exact ⟨Kp.refl _ _,hcl,I⟩
  rename_i h2;refine za hcl (aac _) ?_ (fun e he=>hn e (aaM he)) _;cases hd:x.drop (r.sn.idx-i) with
  | nil=>rfl
  | cons e q=>
   have h3:=l7 x i t _ e q hf hd;rw[hd] at h2;simp at h2;rw[kC,aaa qo];exact h3.2
 exact za hcl qo hf hn _
def zT{r:Rl}{i t:Nat}{x:List af}(hi:r.sn.idx<=i)(hf:cH i t x=0){last:Nat}(hl:last=i+eq x)(hg:(r.merge1 i t x last).2.2.1=true):last<=(r.merge1 i t x last).1.last:=by
 obtain ⟨⟨h1,h2,h3⟩,h4⟩:=uc hi hf last hg;unfold Rl.last;rw[h1];cases x with
 | nil=>
  unfold Rl.merge1 at hg ⊢
  split
  all_goals simp_all [kD,nf,skp]
 | cons e q=>
  obtain ⟨z,hz⟩:∃ z,(e::q)[eq q]?=some z:=⟨_,aai Nm⟩;have h5:=kG _ _ _ hf _ z hz;have h6:=h2 z (aao hz) qo;have h7:=kD (s:=(r.merge1 i t (e::q) last).1.sn) (l:=(r.merge1 i t (e::q) last).1.l) (i:=z.idx) (by rw[h6]);rw[h1] at h7;simp at hl;omega
theorem Bl{r:Rl}{i t:Nat}{x:List af}(hg:(r.merge i t x).2.2.1=true):(r.merge i t x).2.1<=(r.merge i t x).1.last:=by
 obtain ⟨-,h0,hf⟩:=Hv i t x hg;rw[h0];unfold Rl.merge at hg ⊢
 by_cases hf0:eA i t x≠0
 ·rw[aab hf0] at hg;cases hg
 rw[aaa hf0] at hg ⊢
 by_cases hi:i<r.sn.idx
 ·rw[aab hi] at hg ⊢
  by_cases h1:i+eq x<r.sn.idx
  ·grind [Rl.last]
  rw[aaa h1] at hg ⊢
  by_cases h2:((x.drop (r.sn.idx-i)).head?.map fun e=>decide (e.term<r.sn.term))=some true
  ·rw[aab h2] at hg;cases hg
  rw[aaa h2] at hg ⊢;refine zT (aac _) ?_ (by rw[aak];omega) hg;cases hd:x.drop (r.sn.idx-i) with
  | nil=>rfl
  | cons e q=>
   have h3:=l7 x i t _ e q hf hd;rw[hd] at h2;simp at h2;rw[kC,aaa qo];exact h3.2
 rw[aaa hi] at hg ⊢;exact zT qo hf I hg
theorem uW(r:Rl)(s:aX)(c:Nat):Kp r (r.save s).1 c/\(r.save s).1.last=r.last/\((r.save s).1=r\/(r.save s).1.sn=s/\r.sn.idx<s.idx/\s.idx<=r.last/\(r.save s).2=0):=by
 unfold Rl.save
 split
 ·exact ⟨Kp.refl _ _,I,.inl I⟩
 rename_i hf;obtain ⟨_,_,hlt,_⟩:=ls (Decidable.not_not.1 hf)
 split
 ·exact ⟨Kp.refl _ _,I,.inl I⟩
 rename_i hh;have hle:=yu (by simpa using hh) hlt;refine ⟨⟨by show r.sn.idx<=s.idx;omega,fun i h1 h2=>?_⟩,?_,.inr ⟨rfl,hlt,hle,rfl⟩⟩
 ·have h1:s.idx<i:=h1;show (if i<=s.idx then none else (r.l.drop (s.idx-r.sn.idx))[i-s.idx-1]?)=if i<=r.sn.idx then none else r.l[i-r.sn.idx-1]?
  grind
 grind [Rl.last]
def FB(r:Rl)(s:aX)(c:Nat)(hc:c<=s.idx):Kp r (r.install s).1 c/\((r.install s).1=r\/(r.install s).1.sn=s/\r.sn.idx<s.idx/\s.idx<=(r.install s).1.last/\(r.install s).2=0):=by
 unfold Rl.install
 split
 ·exact ⟨Kp.refl _ _,.inl I⟩
 rename_i hf;obtain ⟨_,_,hlt,_⟩:=ls (Decidable.not_not.1 hf)
 split
 ·grind [uW]
 refine ⟨⟨by show r.sn.idx<=s.idx;omega,fun i h1 h2=>?_⟩,.inr ⟨rfl,hlt,by simp[Rl.last],rfl⟩⟩;have h1:s.idx<i:=h1;omega
end
section
structure fP (n:Int) (t:Nat) (m:aB):Prop where
 ok:m.ok
 bd:m.bd
 frm:m.frm=n
 term:m.term<=t
theorem fP.up{n:Int}{t u:Nat}{m:aB}(h:fP n t m)(hu:t<=u):fP n u m:=⟨h.ok,h.bd,h.frm,aas h.term hu⟩
def kO:(-9223372036854775808:Int)<=0/\(0:Int)<=9223372036854775807:=by decide
section
variable {n to:Int} {T:Nat} (hn:0<=n/\n<7) (ht:0<=to/\to<7) (hne:n≠to) (h0:T≠0) (hT:T<=ac)
include hn ht hne h0 hT
def MS{i l:Nat}(hi:i<=ac)(hl:l<=ac):fP n T { aB.zero with kind:=1,frm:=n,to:=to,term:=T,idx:=i,lt:=l }:=by
 refine ⟨⟨⟨by simp[cJ],hn,ht,hne,h0⟩,fun f hf=>?_,?_⟩,⟨hT,hi,hl,aad _,aad _,kO,kO,fun e he=>(by cases he),aad _,fun v hv=>(by cases hv),aad _,aad _⟩,I,aac _⟩
 ·simp[cJ] at hf;rcases hf with rfl|rfl <;> trivial
 simp[jo,cJ,gY,bT.clr,aB.zero]
def wP{g:Bool}:fP n T { aB.zero with kind:=2,frm:=n,to:=to,term:=T,good:=g }:=by
 refine ⟨⟨⟨by simp[cJ],hn,ht,hne,h0⟩,fun f hf=>?_,?_⟩,⟨hT,aad _,aad _,aad _,aad _,kO,kO,fun e he=>(by cases he),aad _,fun v hv=>(by cases hv),aad _,aad _⟩,I,aac _⟩
 ·simp[cJ] at hf;subst hf
  trivial
 simp[jo,cJ,gY,bT.clr,aB.zero]
def MQ{i l c r:Nat}{es:List af}(hi:i<=ac)(hl:l<=ac)(hc:c<=ac)(hr:r<=ac)(he:entsOK i 0 es)(he8:eq es<=8)(heb:∀ e∈es,e.idx<=ac/\e.term<=ac/\eq e.data<=4194304):
  fP n T { aB.zero with kind:=3,frm:=n,to:=to,term:=T,idx:=i,lt:=l,com:=c,rnd:=r,ents:=es }:=by
 refine ⟨⟨⟨by simp[cJ],hn,ht,hne,h0⟩,fun f hf=>?_,?_⟩,⟨hT,hi,hl,hc,hr,kO,kO,heb,by show eq es<=_;omega,fun v hv=>(by cases hv),aad _,aad _⟩,rfl,aac _⟩
 ·simp[cJ] at hf;rcases hf with rfl|rfl|rfl|rfl|rfl
  all_goals first|trivial|exact ⟨he,he8⟩
 simp[jo,cJ,gY,bT.clr,aB.zero]
def sS{g:Bool}{i r:Nat}(hi:i<=ac)(hr:r<=ac):fP n T { aB.zero with kind:=4,frm:=n,to:=to,term:=T,good:=g,idx:=i,rnd:=r }:=by
 refine ⟨⟨⟨by simp[cJ],hn,ht,hne,h0⟩,fun f hf=>?_,?_⟩,⟨hT,hi,aad _,aad _,hr,kO,kO,fun e he=>(by cases he),aad _,fun v hv=>(by cases hv),aad _,aad _⟩,I,aac _⟩
 ·simp[cJ] at hf;rcases hf with rfl|rfl|rfl <;> trivial
 simp[jo,cJ,gY,bT.clr,aB.zero]
def MP{i l:Nat}{o w:Int}{vs:List Int}{d:List UInt8}(hi:i<=ac)(hl:l<=ac)(ho:0<=o)(how:o+eq d<=w)(hw:w<=2097152)(hv:(bU vs).isSome=true)(hd:eq d<=256):
  fP n T { aB.zero with kind:=5,frm:=n,to:=to,term:=T,idx:=i,lt:=l,off:=o,whole:=w,vot:=vs,data:=d }:=by
 have hcf:=tJ hv;have hvl:=pq vs _ hcf.2 qo qo;refine ⟨⟨⟨by simp[cJ],hn,ht,hne,h0⟩,fun f hf=>?_,?_⟩,⟨hT,hi,hl,aad _,aad _,aH,aH,fun e he=>(by cases he),aad _,fun v hv=>?_,aH,aH⟩,rfl,aac _⟩
 ·simp[cJ] at hf;rcases hf with rfl|rfl|rfl|rfl|rfl|rfl
  ·trivial
  ·trivial
  ·show 0<=o/\o<=2097152;omega
  ·show 0<=w/\w<=2097152;omega
  ·exact hv
  refine ⟨hd,?_⟩
  grind [aC]
 ·simp[jo,cJ,gY,bT.clr,aB.zero]
 have:=pp vs _ hcf.2 qo v hv;omega
def MO{i:Nat}{o:Int}(hi:i<=ac)(ho:0<=o/\o<=2097152):fP n T { aB.zero with kind:=6,frm:=n,to:=to,term:=T,idx:=i,off:=o }:=by
 refine ⟨⟨⟨by simp[cJ],hn,ht,hne,h0⟩,fun f hf=>?_,?_⟩,⟨hT,hi,aad _,aad _,aad _,aH,kO,fun e he=>(by cases he),aad _,fun v hv=>(by cases hv),aad _,aad _⟩,rfl,aac _⟩
 ·simp[cJ] at hf;rcases hf with rfl|rfl
  ·trivial
  exact ho
 simp[jo,cJ,gY,bT.clr,aB.zero]
end
structure TI (R:Nd) (L:Lg):Prop where
 out:∀ m∈R.out,fP R.nd L.kt m
 role:R.role≠0->L.kt≠0
 com:L.sn.idx<=R.com/\R.com<=L.last
 wf:L.rl.wf
def TI.r{R R':Nd}{L:Lg}(h:TI R L)(h1:R'.out=R.out:=by rfl)(h2:R'.nd=R.nd:=by rfl)(h3:R'.com=R.com:=by rfl)(h4:R'.role=R.role\/R'.role=0:=by exact .inl rfl):TI R' L:=
 ⟨by rw[h1,h2];exact h.out,fun hr=>h.role qo,by rw[h3];exact h.com,h.wf⟩
theorem TI.say{R:Nd}{L:Lg}(h:TI R L){m:aB}(hm:fP R.nd L.kt { m with frm:=R.nd,term:=L.kt }):TI (R.say L m) L:=
 ⟨fun x hx=>by rcases aaj.1 hx with hx|hx;exact h.out x hx;rw[aaz.1 hx];exact hm,h.role,h.com,h.wf⟩
structure Nz (R:Nd):Prop where
 pr:∀ v,(R.pr v).ok
 com:R.com<=ac
 rnd:R.rnd<=ac
 nd:0<=R.nd/\R.nd<7
def Rb.nz{z k:Nat}{R:Nd}(o:Rb z k R)(hk:k<=ac):Nz R:=⟨o.pr,o.com,by have:=o.rnd;omega,o.nd⟩
theorem Nz.setP{R:Nd}(o:Nz R)(v:Int){p:Pr}(h:p.ok):Nz (R.setP v p):={ o with pr:=fun i=>by unfold Nd.setP;dsimp only;split;exact h;exact o.pr i }
theorem Nz.say{R:Nd}(o:Nz R)(L:Lg)(m:aB):Nz (R.say L m):=⟨o.pr,o.com,o.rnd,o.nd⟩
theorem Nz.send{R:Nd}(o:Nz R)(L:Lg)(v:Int):Nz (R.send L v):=by
 have h:=o.setP v (p:={ R.p v with ws:=true }) (o.pr v.toNat);unfold Nd.send
 repeat' split
 ·exact o
 all_goals exact h.say L _
theorem zh{i t:Nat}:∀ {x:List af} {j:Nat},cH (i+j) t x=0->(∀ e∈x,e.ok)->i+j+eq x<=ac->entsOK i j x
 | [],_,_,_,_=>trivial
 | e::r,j,h,hk,hl=>by
  obtain ⟨h1,h2,h3⟩:=nI h;simp only[aan] at hl;refine ⟨hk e Nm,?_,qo,?_⟩
  ·rw[h1,aaQ (by unfold ac at hl;omega)]
  rw[h1,Nat.add_assoc] at h3;exact zh h3 (fun x hx=>hk x (by simp[hx])) qo
def Hp{c:Nat}{L:Lg}(b:bp c L)(hc:c<=900000000)(hw:L.rl.wf)(i:Nat):entsOK (i-1) 0 (gW L.sn L.l i 8)/\eq (gW L.sn L.l i 8)<=8/\∀ e∈gW L.sn L.l i 8,e.idx<=ac/\e.term<=ac/\eq e.data<=4194304:=by
 unfold gW
 split
 ·exact ⟨trivial,aad _,fun e he=>by cases he⟩
 rename_i k hk;obtain ⟨h1,h2,h3,h4⟩:=pE hk;have hm:∀ e∈(L.l.drop k).take (8:Int).toNat,e∈L.l:=fun e he=>aaM (aaW he);refine ⟨?_,by grind,fun e he=>?_⟩
 ·have hf:cH (L.sn.idx+k) (j7 L.sn.term (L.l.take k)) (L.l.drop k)=0:=tT hw (abz h4);refine zh (t:=j7 L.sn.term (L.l.take k)) (j:=0) ?_ (fun e he=>(b.ents e (hm e he)).1) ?_
  ·grind [ze]
  have h5:=b.idx;have h6:=b.len
  grind [bH,ac]
 have h5:=b.ents e (hm e he);have h6:=lu h5.1.2.2;omega
section
variable {c q z k:Nat} {R:Nd} {L:Lg} {D:Dk}
theorem TI.send(h:TI R L)(nz:Nz R)(b:bp c L)(hc:c<=900000000)(f:L.cf){v:Int}(hv:0<=v/\v<7)(hne:R.nd≠v)(h0:L.kt≠0):TI (R.send L v) L:=by
 have hp:=nz.pr v.toNat;have hsi:=b.idx;have hsd:=b.data;unfold Pr.ok cM at hp;unfold bH at hsi;have hkt:=b.kt;unfold Nd.send
 split
 ·exact h
 split
 ·refine TI.say (R:=R.setP v { R.p v with ws:=true }) (h.r) ?_;have h2:0<=(R.p v).of:=hp.2.2.2.1
  have hm:fP R.nd L.kt { aB.zero with kind:=5,frm:=R.nd,to:=v,term:=L.kt,idx:=L.sn.idx,lt:=L.sn.term,off:=min (R.p v).of (eq L.sn.data),whole:=eq L.sn.data,vot:=L.sn.vot,data:=(L.sn.data.drop (R.p v).of.toNat).take 256 }:=by
   refine MP nz.nd hv hne h0 hkt (by unfold ac;omega) b.st qo ?_ qo f ?_
   all_goals grind
  exact hm
 rename_i hns;refine TI.say (R:=R.setP v { R.p v with ws:=true }) (h.r) ?_;obtain ⟨p1,p2,p3⟩:=Hp b hc h.wf (R.p v).nx;have hnx:(R.p v).nx<=4611686018427387904:=hp.2.1
 have hm:fP R.nd L.kt { aB.zero with kind:=3,frm:=R.nd,to:=v,term:=L.kt,idx:=(R.p v).nx-1,lt:=(L.trm ((R.p v).nx-1)).1,com:=R.com,rnd:=R.rnd,ents:=gW L.sn L.l (R.p v).nx 8 }:=
  MQ nz.nd hv hne h0 hkt (by unfold ac;omega) (L.trm_le b _) nz.com nz.rnd p1 p2 p3
 exact hm
def tX(R:Nd)(L:Lg)(v:Int):(R.send L v).nd=R.nd/\(R.send L v).com=R.com/\(R.send L v).role=R.role:=by
 unfold Nd.send
 repeat' split
 all_goals exact ⟨rfl,rfl,rfl⟩
theorem TI.tellL(a:Bool)(b:bp c L)(hc:c<=900000000)(f:L.cf)(h0:L.kt≠0):∀ (l:List Int) {R:Nd},TI R L->Nz R->(∀ v∈l,(0<=v/\v<7)/\R.nd≠v)->TI (Nd.tellL a L l R) L/\Nz (Nd.tellL a L l R)/\(Nd.tellL a L l R).nd=R.nd/\(Nd.tellL a L l R).com=R.com/\(Nd.tellL a L l R).role=R.role
 | [],R,h,nz,_=>⟨h,nz,rfl,rfl,rfl⟩
 | v::r,R,h,nz,hl=>by
  unfold Nd.tellL;obtain ⟨R0,hR0⟩:=be (if a=true then R.setP v { R.p v with ws:=false } else R);rw[<-hR0]
  have hs:R0.nd=R.nd/\R0.com=R.com/\R0.role=R.role/\R0.out=R.out/\Nz R0:=by
   rw[hR0]
   split
   ·exact ⟨I,I,I,I,nz.setP v (p:={ R.p v with ws:=false }) (nz.pr v.toNat)⟩
   exact ⟨I,I,I,I,nz⟩
  obtain ⟨g1,g2,g3,g4,g5⟩:=hs;have hv:=hl v Nm;have h1:TI R0 L:=h.r g4 g1 g2 (.inl g3);have h2:=h1.send g5 b hc f hv.1 qo h0;obtain ⟨s1,s2,s3⟩:=tX R0 L v;obtain ⟨t1,t2,t3,t4,t5⟩:=TI.tellL a b hc f h0 r h2 (g5.send L v) (fun u hu=>by rw[s1,g1];exact hl u (by simp[hu]))
  simp_all
theorem TI.tell(h:TI R L)(o:NI c q z k R L D)(hc:c<=900000000)(hk:k<=1000000)(h0:L.kt≠0)(a:Bool):TI (R.tell L a) L/\(R.tell L a).nd=R.nd/\(R.tell L a).com=R.com/\(R.tell L a).role=R.role:=by
 have hcf:fS L.cfg.1:=iV o.rn.lb o.cf L.last;have hr:=o.rb.rnd;unfold Nd.tell
 have hl:∀ v∈R.oth L,(0<=v/\v<7)/\R.nd≠v:=fun v hv=>by
  obtain ⟨h1,h2⟩:=abL.1 hv;exact ⟨hcf.mem h1,fun e=>by simp[e] at h2⟩
 obtain ⟨R0,hR0⟩:=be (if a=true then { R with rnd:=R.rnd+1 } else R);rw[<-hR0];have nz:=o.rb.nz (by unfold ac;omega)
 have hs:R0.nd=R.nd/\R0.com=R.com/\R0.role=R.role/\R0.out=R.out/\Nz R0:=by
  rw[hR0]
  split
  ·exact ⟨I,I,I,I,{ nz with rnd:=by show R.rnd+1<=ac;unfold ac;omega }⟩
  exact ⟨I,I,I,I,nz⟩
 obtain ⟨g1,g2,g3,g4,g5⟩:=hs;obtain ⟨t1,t2,t3,t4,t5⟩:=TI.tellL a o.rn.lb hc o.cf h0 (R.oth L) (h.r g4 g1 g2 (.inl g3)) g5 (fun v hv=>by rw[g1];exact hl v hv)
 simp_all
end
end
section
def Kp.mono{r s:Rl}{c d:Nat}(h:Kp r s d)(hc:c<=d):Kp r s c:=⟨h.1,fun i h1 h2=>h.2 i h1 qo⟩
structure St (R:Nd) (L:Lg) (R':Nd) (L':Lg):Prop where
 kt:L.kt<=L'.kt
 com:R.com<=R'.com
 kp:Kp L.rl L'.rl R.com
 nd:R'.nd=R.nd
theorem St.refl(R:Nd)(L:Lg):St R L R L:=⟨aac _,aac _,Kp.refl _ _,rfl⟩
theorem St.trans{R R' R'':Nd}{L L' L'':Lg}(h:St R L R' L')(g:St R' L' R'' L''):St R L R'' L'':=
 ⟨aas h.kt g.kt,aas h.com g.com,h.kp.trans g.kp h.com,g.nd.trans h.nd⟩
def St.r{R R1 R2:Nd}{L L':Lg}(h:St R L R1 L')(h1:R2.nd=R1.nd:=by rfl)(h2:R2.com=R1.com:=by rfl):St R L R2 L':=⟨h.kt,by rw[h2];exact h.com,h.kp,by rw[h1];exact h.nd⟩
structure PI (u n:Nat) (R:Nd) (L:Lg) (D:Dk):Prop where
 sim:du u u L
 liv:bD n D
 ti:TI R L
theorem PI.up{u n u' n':Nat}{R:Nd}{L:Lg}{D:Dk}(h:PI u n R L D)(hu:u<=u')(hn:n'<=n):PI u' n' R L D:=⟨h.sim.up hu hu,h.liv.mono hn,h.ti⟩
def PI.t{u n:Nat}{R R':Nd}{L:Lg}{D:Dk}(h:PI u n R L D)(g:TI R' L):PI u n R' L D:=⟨h.sim,h.liv,g⟩
def TI.lg{R:Nd}{L L':Lg}(h:TI R L)(hk:L.kt<=L'.kt)(hs:L'.sn.idx<=R.com)(hl:R.com<=L'.last)(hw:L'.rl.wf):TI R L':=
 ⟨fun m hm=>(h.out m hm).up hk,fun hr=>by have:=h.role hr;omega,⟨hs,hl⟩,hw⟩
theorem TI.did{R:Nd}{L:Lg}(h:TI R L)(e:Int):TI (R.did e) L:=by
 unfold Nd.did
 split
 ·exact h
 exact ⟨fun m hm=>(by cases hm),fun hr=>absurd I hr,h.com,h.wf⟩
def kH(R:Nd)(e:Int):(R.did e).nd=R.nd/\(R.did e).com=R.com:=by
 unfold Nd.did
 split <;> exact ⟨rfl,rfl⟩
section
variable {c q z k u n:Nat} {R:Nd} {L:Lg} {D:Dk}
theorem Lg.last_rl(L:Lg):L.last=L.rl.last:=rfl
def uU(o:NI c q z k R L D)(hc:c<=900000000){j:Nat}(hj:j<=8):L.sn.idx+eq L.l+j<2*bH:=by
 have h1:=o.rn.lb.idx;have h2:=o.rn.lb.len;unfold bH at h1 ⊢;omega
theorem PI.append(h:PI u (n+11) R L D)(o:NI c q z k R L D)(hc:c<=900000000)(e:af)(he:e.idx<=ac/\e.term<=ac):
  PI (u+1) n R (L.append [e] D).1 (L.append [e] D).2.1/\St R L R (L.append [e] D).1/\(L.append [e] D).1.kt=L.kt:=by
 obtain ⟨h1,h2,h3,h4⟩:=h.sim.append [e] (n:=n) (by simpa using h.liv) (by simpa using he) (uU o hc (j:=1) qo);have hs:=qE L [e] D;obtain ⟨k1,k2,k3⟩:=Gw L.rl [e];rw[<-h4] at k1 k2;have hco:=h.ti.com;refine ⟨⟨h3.up qo Nm,h2,h.ti.lg (aaP hs.1.symm) (by rw[hs.2.2];exact hco.1) (aas hco.2 k2) (by rw[h4];exact Rl.wf.append h.ti.wf [e])⟩,⟨aaP hs.1.symm,aac _,k1.mono hco.2,I⟩,hs.1⟩
theorem PI.sync(h:PI u n R L D):PI u n R (L.sync D).1 (L.sync D).2.1/\St R L R (L.sync D).1/\(L.sync D).1.kt=L.kt:=by
 obtain ⟨h1,h2,h3,h4,h5,h6⟩:=h.sim.sync h.liv;have hs:=qR L D;have hl:(L.sync D).1.last=L.last:=by rw[Lg.last_rl,h4];rfl
 refine ⟨⟨h3,h2,h.ti.lg (aaP hs.1.symm) (by rw[h5];exact h.ti.com.1) (by rw[hl];exact h.ti.com.2) (by rw[h4];exact h.ti.wf)⟩,⟨aaP hs.1.symm,aac _,by rw[h4];exact Kp.refl _ _,I⟩,hs.1⟩
theorem PI.setHard(h:PI u (n+1) R L D)(hu:u<=1000000)(t:Nat)(v:Int)(ht:t<=ac):
  PI (u+1) n R (L.setHard D t v).1 (L.setHard D t v).2.1/\St R L R (L.setHard D t v).1/\((L.setHard D t v).2.2=0->(L.setHard D t v).1.kt=t):=by
 obtain ⟨h1,h2,h3,h4⟩:=h.sim.setHard h.liv t v ht hu;obtain ⟨s1,s2,s3⟩:=pc L D t v
 have hk:L.kt<=(L.setHard D t v).1.kt:=by
  omega
 have hl:(L.setHard D t v).1.last=L.last:=by unfold Lg.last;rw[s1,s2]
 refine ⟨⟨h3.up (aac _) qo,h2,h.ti.lg hk (by rw[s1];exact h.ti.com.1) (by rw[hl];exact h.ti.com.2) (by rw[h4];exact Rl.wf.setHard h.ti.wf t v)⟩,⟨hk,aac _,Kp.same s1 s2,I⟩,fun h0=>?_⟩;omega
theorem TI.agr1(h:TI R L)(h0:L.kt≠0):TI (R.agr1 L) L/\St R L (R.agr1 L) L/\(R.agr1 L).role=R.role:=by
 unfold Nd.agr1;dsimp only;generalize jF L.cfg.1 _=m
 split
 ·rename_i hc
  have hle:m<=L.last:=by
   grind [Lg.trm,trm,Lg.last]
  exact ⟨⟨h.out,h.role,⟨aas h.com.1 (abz hc.1),hle⟩,h.wf⟩,⟨aac _,abz hc.1,Kp.refl _ _,I⟩,I⟩
 exact ⟨h,St.refl _ _,I⟩
theorem TI.agr2(h:TI R L)(o:NI c q z k R L D)(hc:c<=900000000)(hk:k<=1000000)(h0:L.kt≠0):TI (R.agr2 L) L/\St R L (R.agr2 L) L:=by
 unfold Nd.agr2
 split
 ·obtain ⟨t1,t2,t3,t4⟩:=h.tell o hc hk h0 true;exact ⟨t1.r I I I (.inr I),⟨aac _,aaP t3.symm,Kp.refl _ _,t2⟩⟩
 exact ⟨h,St.refl _ _⟩
theorem TI.agree(h:TI R L)(o:NI c q z k R L D)(hc:c<=900000000)(hk:k<=1000000)(h0:L.kt≠0):TI (R.agree L) L/\St R L (R.agree L) L:=by
 obtain ⟨a1,a2,a3⟩:=h.agr1 h0;obtain ⟨b1,b2⟩:=a1.agr2 (o.r (o.rb.agr1 o.rn.lb qo)) hc hk h0;exact ⟨b1,a2.trans b2⟩
theorem TI.lay2(h:TI R L)(o:NI c q z k R L D)(hc:c<=900000000)(hk:k<=900000)(h0:L.kt≠0):TI (R.lay2 L) L/\St R L (R.lay2 L) L:=by
 obtain ⟨a1,a2⟩:=h.agree o hc qo h0;unfold Nd.lay2
 split
 ·obtain ⟨t1,t2,t3,t4⟩:=a1.tell (o.r (o.rb.agree o.rn.lb o.cf qo)) hc qo h0 false;exact ⟨t1,a2.trans ⟨aac _,aaP t3.symm,Kp.refl _ _,t2⟩⟩
 exact ⟨a1,a2⟩
theorem PI.lay(h:PI u (n+11) R L D)(o:NI c q z k R L D)(hc:c<=800000000)(hk:k<=900000)(h0:L.kt≠0)(kind:Int)(data:List UInt8):
  PI (u+1) n (R.lay L D kind data).1 (R.lay L D kind data).2.1 (R.lay L D kind data).2.2.1/\St R L (R.lay L D kind data).1 (R.lay L D kind data).2.1:=by
 have h1:=o.last qo;have hkt:=o.rn.lb.kt;have he:(L.last+1)<=ac/\L.kt<=ac:=⟨by unfold cM at h1;unfold ac;omega,hkt⟩;have oa:=o.append ⟨L.last+1,L.kt,kind,data⟩ he qo;obtain ⟨a1,a2,a3⟩:=h.append o qo ⟨L.last+1,L.kt,kind,data⟩ he;have ob:=oa.sync;obtain ⟨b1,b2,b3⟩:=a1.sync;unfold Nd.lay;dsimp only
 split
 ·obtain ⟨d1,d2⟩:=kH R (L.append [⟨L.last+1,L.kt,kind,data⟩] D).2.2;exact ⟨a1.t (a1.ti.did _),a2.r d1 d2⟩
 split
 ·obtain ⟨d1,d2⟩:=kH R ((L.append [⟨L.last+1,L.kt,kind,data⟩] D).1.sync (L.append [⟨L.last+1,L.kt,kind,data⟩] D).2.1).2.2;exact ⟨b1.t (b1.ti.did _),(a2.trans b2).r d1 d2⟩
 obtain ⟨l1,l2⟩:=b1.ti.lay2 ob qo hk qo;exact ⟨b1.t l1,(a2.trans b2).trans l2⟩
theorem PI.elect(h:PI u (n+11) R L D)(o:NI c q z k R L D)(hc:c<=800000000)(hk:k<=900000)(h0:L.kt≠0)(l:List Int):
  PI (u+1) n (R.elect L D l).1 (R.elect L D l).2.1 (R.elect L D l).2.2.1/\St R L (R.elect L D l).1 (R.elect L D l).2.1:=by
 unfold Nd.elect
 split
 ·exact ⟨h.up qo qo,St.refl _ _⟩
 have ht:TI (R.up L) L:=⟨h.ti.out,fun _=>h0,h.ti.com,h.ti.wf⟩;obtain ⟨l1,l2⟩:=(h.t ht).lay (o.upR qo) hc hk h0 0 [];exact ⟨l1,(St.r (St.refl R L):St R L (R.up L) L).trans l2⟩
theorem TI.asks(b:bp c L)(hc:c<=900000000)(h0:L.kt≠0):∀ (l:List Int) {R:Nd},TI R L->(0<=R.nd/\R.nd<7)->(∀ v∈l,(0<=v/\v<7)/\R.nd≠v)->TI (Nd.asks L l R) L/\(Nd.asks L l R).nd=R.nd/\(Nd.asks L l R).com=R.com
 | [],R,h,_,_=>⟨h,rfl,rfl⟩
 | v::r,R,h,hn,hl=>by
  unfold Nd.asks;have hv:=hl v Nm;have h1:=Lg.last_le b qo
  have hm:fP R.nd L.kt { aB.zero with kind:=1,frm:=R.nd,to:=v,term:=L.kt,idx:=L.last,lt:=(L.trm L.last).1 }:=
   MS hn hv.1 hv.2 h0 b.kt (by unfold cM at h1;unfold ac;omega) (L.trm_le b _)
  obtain ⟨t1,t2,t3⟩:=TI.asks b hc h0 r (h.say (m:={ aB.zero with kind:=1,to:=v,idx:=L.last,lt:=(L.trm L.last).1 }) hm) hn (fun w hw=>hl w (by simp[hw]));exact ⟨t1,t2,t3⟩
theorem PI.stand(h:PI u (n+12) R L D)(o:NI c q z k R L D)(hc:c<=700000000)(hk:k<=800000)(hu:u<=1000000)(hkt:L.kt<cM)(l:List Int):
  PI (u+2) n (R.stand L D l).1 (R.stand L D l).2.1 (R.stand L D l).2.2.1/\St R L (R.stand L D l).1 (R.stand L D l).2.1:=by
 have hkm:L.kt+1<=ac:=by unfold cM at hkt;unfold ac;omega
 have oa:=o.setHard (L.kt+1) R.nd hkm;obtain ⟨a1,a2,a3⟩:=h.setHard (n:=n+11) hu (L.kt+1) R.nd hkm;unfold Nd.stand;dsimp only;generalize L.setHard D (L.kt+1) R.nd=A at oa a1 a2 a3 ⊢;obtain ⟨L1,D1,c1⟩:=A;dsimp only at oa a1 a2 a3 ⊢
 split
 ·obtain ⟨d1,d2⟩:=kH R c1;exact ⟨(a1.t (a1.ti.did _)).up qo qo,a2.r d1 d2⟩
 rename_i hc0;have hk1:L1.kt≠0:=qo
 have hcf:fS L1.cfg.1:=iV oa.rn.lb oa.cf L1.last;have ht:TI R.cand L1:=⟨a1.ti.out,fun _=>hk1,a1.ti.com,a1.ti.wf⟩
 obtain ⟨t1,t2,t3⟩:=TI.asks oa.rn.lb qo hk1 (R.cand.oth L1) ht o.rb.nd (fun v hv=>by
  obtain ⟨g1,g2⟩:=abL.1 hv;exact ⟨hcf.mem g1,fun e=>by simp[e] at g2⟩)
 have hol:=mj R.cand oa.rn.lb oa.cf;obtain ⟨e1,e2⟩:=(a1.t t1).elect (oa.r ((Rb.asks _ _ oa.rb.cand).up (j:=k+8) qo)) qo qo hk1 l;exact ⟨e1,(a2.r t2 t3).trans e2⟩
theorem PI.idle(h:PI u (n+12) R L D)(o:NI c q z k R L D)(hc:c<=700000000)(hk:k<=700000)(hu:u<=1000000)(d:Nat):
  PI (u+2) n (R.idle L D d).1 (R.idle L D d).2.1 (R.idle L D d).2.2.1/\St R L (R.idle L D d).1 (R.idle L D d).2.1:=by
 have ht:TI (R.idle0 d) L:=h.ti.r;have hs:St R L (R.idle0 d) L:=(St.refl R L).r;unfold Nd.idle
 split
 ·exact ⟨(h.t ht).up qo qo,hs⟩
 obtain ⟨e1,e2⟩:=(h.t ht).stand (o.r (o.rb.idle0 d)) hc qo hu qo L.cfg.1;exact ⟨e1,hs.trans e2⟩
theorem TI.beat(h:TI R L)(o:NI c q z k R L D)(hc:c<=900000000)(hk:k<=1000000)(h0:L.kt≠0):TI (R.beat L) L/\St R L (R.beat L) L:=by
 unfold Nd.beat
 split
 ·obtain ⟨t1,t2,t3,t4⟩:=(h.r:TI { R with el:=0 } L).tell (o.r o.rb.el0) hc hk h0 true;exact ⟨t1,⟨aac _,aaP t3.symm,Kp.refl _ _,t2⟩⟩
 exact ⟨h.r,(St.refl R L).r⟩
theorem PI.tick(h:PI u (n+12) R L D)(o:NI c q z k R L D)(hc:c<=700000000)(hk:k<=700000)(hu:u<=1000000)(d:Nat):
  PI (u+2) n (R.tick L D d).1 (R.tick L D d).2.1 (R.tick L D d).2.2.1/\St R L (R.tick L D d).1 (R.tick L D d).2.1:=by
 unfold Nd.tick
 split
 ·exact ⟨h.up qo qo,St.refl _ _⟩
 split
 ·rename_i hr;obtain ⟨b1,b2⟩:=h.ti.beat o qo qo (h.ti.role qo);exact ⟨(h.t b1).up qo qo,b2⟩
 exact h.idle o hc hk hu d
theorem PI.raise(h:PI u (n+1) R L D)(hu:u<=1000000)(t:Nat)(ht:t<=ac):
  PI (u+1) n (R.raise L D t).1 (R.raise L D t).2.1 (R.raise L D t).2.2.1/\St R L (R.raise L D t).1 (R.raise L D t).2.1/\((R.raise L D t).2.2.2=0->(R.raise L D t).2.1.kt=t):=by
 obtain ⟨a1,a2,a3⟩:=h.setHard hu t (-1) ht;unfold Nd.raise;dsimp only;refine ⟨?_,?_,a3⟩
 ·split
  ·exact a1.t<|a1.ti.r I I I (.inr I)
  exact a1.t<|a1.ti.did _
 split
 ·exact a2.r
 obtain ⟨d1,d2⟩:=kH R (L.setHard D t (-1)).2.2;exact a2.r d1 d2
end
end
section
def uR{n:Nat}{l:Sl}{o:Oper}{f:Fn}{x:Operand}{v:Value}(hop:o.op=.makeFunc f #[x] #[])(hx:ev l x=some v)(hr:∀ w,(Instr.makeFunc f #[v] #[]).run P w=.ok (.func f #[v] #[]) w):∀ A w,Ag n l A->(execOp A.eval o).run P w=.ok (.value (.func f #[v] #[])) w:=by
 intro A w ha;simp only[execOp,hop,Array.map_empty,List.map_toArray,aaq,List.map_nil,ha.ev hx];rw[Sem.run_bind];have h:=hr w;simp[ha.ev hx,h,Result.andThen]
def Ct.at3{f:FuncId}{args:List Value}{a b c:PH}{S:Value->PH->PH->PH->PH->Prop}(pre:List PH){post:List PH}
  (h:Ct P w0 f args K (a::b::c::(pre++post)) (fun v K' hs'=>∃ a' b' c',hs'=a'::b'::c'::(pre++post)/\S v K' a' b' c')):
  Ct P w0 f args K (pre++(a::b::c::post)) (fun v K' hs'=>∃ a' b' c',hs'=pre++(a'::b'::c'::post)/\S v K' a' b' c'):=by
 have p:∀ x y z:PH,(pre++(x::y::z::post)).Perm (x::y::z::(pre++post)):=fun x y z=>aal pre [x,y,z] post;refine ⟨h.1,fun w hw=>(h.2 w (hw.perm (p a b c))).mono ?_⟩;rintro e w' ⟨v,K',hs',rfl,⟨a',b',c',rfl,hS⟩,hw'⟩;exact ⟨v,K',_,I,⟨a',b',c',I,hS⟩,hw'.perm (p a' b' c').symm⟩
def Ct.at2p{f:FuncId}{args:List Value}{a b:PH}{S:Value->PH->PH->PH->Prop}(pre:List PH){post:List PH}
  (h:Ct P w0 f args K (a::b::(pre++post)) (fun v K' hs'=>∃ a' b',hs'=a'::b'::(pre++post)/\S v K' a' b')):
  Ct P w0 f args K (pre++(a::b::post)) (fun v K' hs'=>∃ a' b',hs'=pre++(a'::b'::post)/\S v K' a' b'):=by
 have p:∀ x y:PH,(pre++(x::y::post)).Perm (x::y::(pre++post)):=fun x y=>aal pre [x,y] post;refine ⟨h.1,fun w hw=>(h.2 w (hw.perm (p a b))).mono ?_⟩;rintro e w' ⟨v,K',hs',rfl,⟨a',b',rfl,hS⟩,hw'⟩;exact ⟨v,K',_,I,⟨a',b',I,hS⟩,hw'.perm (p a' b').symm⟩
def C1{T:bg}{ops:Array Oper}{Q:Exit->Act->World->Prop}{plan plan':List Nat}{z:Nat}{listed listed':Array Bool}{n:Nat}{l l':Sl}{K0:PH}{A:List PH}(ys:List Nat)[hT:bc P T](hsel:Region.noSelect ops=true)(k i:Nat){p d t b ty:Nat}{c:Array Value}{fr:Nat×Nat}(h0:mC T ops n z k plan listed l=some (p,d,t,⟨b,0,none⟩,plan',listed',l'))(hwf:lD ops z ys (p / 2)=true)
  (hi:A[i]?=some (pt b c ty fr)) (hm:iA P t c.size=true) (hk:WA P w0 ops Q K0 A z plan' listed' n ((d,.agg c)::l') K hs):WA P w0 ops Q K0 A z plan listed n l K hs:=by
 unfold mC at h0
 split at h0
 ·rename_i p' o r L' l2 hh
  split at h0
  ·rename_i dd t' x hp hz hg hd hop
   split at h0
   ·rename_i a' hb hx;simp only[aae,aag] at h0;obtain ⟨rfl,rfl,rfl,rfl,rfl,rfl,rfl⟩:=h0;obtain ⟨g1,g2⟩:=jB hh;refine WA.pures hsel k g1 ?_;have hp2:p'=2*(p' / 2):=by have:=aaB hp;omega
    rw[hp2];refine WA.look g2 hsel hz hd hb (fun A' ha=>.inl ⟨fX ha hg,fun w hw=>?_⟩) hk;obtain ⟨L,hcl,hun,hst⟩:=hw;have h2:=pC (P:=P) (w:=w) (t:=t') (a:=⟨b,0,none⟩) (cs:=c.toList) qo rfl (fun j v hv=>(hst (xj hcl ys hun hwf)).cell (.inr ⟨i,hi⟩) (lx c.toList (fun j v h=>by simpa using h) j v hv));have e:c.toList.toArray=c:=by simp
    rw[e] at h2;simp only[execOp,hop,ha.ev hx];simp[h2]
   simp at h0
  simp at h0
 simp at h0
def kw(p:Pr)(t:List Value):List Value:=.int .u64 p.mt::.int .u64 p.nx::.int .u64 p.rd::.bool p.ws::.int .i64 p.of::t
structure NS where
 y:Value
 v:Value
 d:Value
 o:Value
 f0:Value
 f1:Value
 f2:Value
def aW(lb:Nat)(R:Nd)(s:NS):Array Value:=
 (.int .i64 R.nd::Nr lb::.bool R.hl::.int .i64 R.role::.int .i64 R.lead::.int .u64 R.com::.int .i64 R.el::.int .i64 R.wt::s.y::.int .u64 R.rnd ::
  kw (R.pr 0) (kw (R.pr 1) (kw (R.pr 2) (kw (R.pr 3) (kw (R.pr 4) (kw (R.pr 5) (kw (R.pr 6)
   [.int .i64 R.pf,.int .u64 R.ps.idx,.int .u64 R.ps.term,s.v,s.d,s.o,s.f0,s.f1,s.f2]))))))).toArray
def sx{j:Nat}(h:j<7):j=0\/j=1\/j=2\/j=3\/j=4\/j=5\/j=6:=qo
def iI(lb:Nat)(R:Nd)(s:NS){j:Nat}(hj:j<7){k:Nat}{v:Value}(h:(kw (R.pr j) [])[k]?=some v):(aW lb R s)[10+j*5+k]?=some v:=by
 have hk:k<5:=by
  have:=(aax.1 h).1;simpa[kw] using this
 obtain rfl|rfl|rfl|rfl|rfl:k=0\/k=1\/k=2\/k=3\/k=4:=qo
 all_goals
  obtain rfl|rfl|rfl|rfl|rfl|rfl|rfl:=sx hj
  all_goals exact h
def A2(R:Nd)(j:Nat)(p:Pr)(i:Nat):(R.setP (j:Int) p).pr i=if i=j then p else R.pr i:=rfl
def pQ(lb:Nat)(R:Nd)(s:NS){j:Nat}(hj:j<7)(p:Pr):
  (p.nx=(R.pr j).nx/\p.rd=(R.pr j).rd/\p.ws=(R.pr j).ws/\p.of=(R.pr j).of->(aW lb R s).setIfInBounds (10+j*5) (.int .u64 p.mt)=aW lb (R.setP (j:Int) p) s) /\
  (p.mt=(R.pr j).mt/\p.rd=(R.pr j).rd/\p.ws=(R.pr j).ws/\p.of=(R.pr j).of->(aW lb R s).setIfInBounds (10+j*5+1) (.int .u64 p.nx)=aW lb (R.setP (j:Int) p) s) /\
  (p.mt=(R.pr j).mt/\p.nx=(R.pr j).nx/\p.ws=(R.pr j).ws/\p.of=(R.pr j).of->(aW lb R s).setIfInBounds (10+j*5+2) (.int .u64 p.rd)=aW lb (R.setP (j:Int) p) s) /\
  (p.mt=(R.pr j).mt/\p.nx=(R.pr j).nx/\p.rd=(R.pr j).rd/\p.of=(R.pr j).of->(aW lb R s).setIfInBounds (10+j*5+3) (.bool p.ws)=aW lb (R.setP (j:Int) p) s) /\
  (p.mt=(R.pr j).mt/\p.nx=(R.pr j).nx/\p.rd=(R.pr j).rd/\p.ws=(R.pr j).ws->(aW lb R s).setIfInBounds (10+j*5+4) (.int .i64 p.of)=aW lb (R.setP (j:Int) p) s):=by
 obtain ⟨a,b,c,d,e⟩:=p;refine ⟨?_,?_,?_,?_,?_⟩
 all_goals
  rintro ⟨h1,h2,h3,h4⟩;dsimp only at h1 h2 h3 h4;subst h1 h2 h3 h4;obtain rfl|rfl|rfl|rfl|rfl|rfl|rfl:=sx hj
  all_goals rfl
def kW(K:PH)(c:List Value)(m:aB):Prop:=∃ p,c=(mv m p).toList/\dr K m p
theorem kW.le{K K':PH}(l:Le K K'){c:List Value}{m:aB}(h:kW K c m):kW K' c m:=let ⟨p,h1,h2⟩:=h;⟨p,h1,h2.le l⟩
theorem pM{α:Type}{R:List Value->α->Prop}:∀ {cs:List (List Value)} {xs:List α},dY R cs xs↔dP R cs xs
 | [],[]=>Iff.rfl
 | _::_,_::_=>and_congr_right fun _=>pM
 | [],_::_=>Iff.rfl
 | _::_,[]=>Iff.rfl
theorem eO.of{ao:Option Addr}{n cap:Nat}{es:List af}(x:dn 4 (dB K) K ao n cap es):eO K ao cap es:=by
 obtain ⟨css,rfl,h2,h3,h4⟩:=x;exact ⟨css,h2,pM.1 h3⟩
def eO.slS{ao:Option Addr}{cap:Nat}{es:List af}(x:eO K ao cap es):dn 4 (dB K) K ao (eq es) cap es:=by
 obtain ⟨css,h2,h3⟩:=x;refine ⟨css,I,h2,pM.2 h3,fun d hd=>?_⟩;obtain ⟨i,hi⟩:=abJ.1 hd;have h4:=(pM.2 h3).len;have h5:i<eq es:=by have:=(aax.1 hi).1;omega
 obtain ⟨c,g1,ao',cap',g2,_⟩:=(pM.2 h3).get (aai h5);rw[hi] at g1;cases g1;rw[g2]
 rfl
abbrev RT:Nat:=106
abbrev gp(rb:Nat):Value:=.func (.func 121) #[Nr rb] #[]
abbrev ko(rb:Nat):Value:=.func (.func 122) #[Nr rb] #[]
structure lX (K:PH) (rb:Nat) (R:Nd) (s:NS) (hy hd ho:PH):Prop where
 y:∃ ao cap,s.y=.slice ao (eq R.yes) cap/\aZ hy ao (eq R.yes) cap 3 1 (iv R.yes)
 v:∃ ao cap,s.v=.slice ao (eq R.ps.vot) cap/\aw K ao (eq R.ps.vot) cap 1 (iv R.ps.vot)
 d:∃ ao cap,s.d=.slice ao (eq R.ps.data) cap/\aZ hd ao (eq R.ps.data) cap 5 1 (bv R.ps.data)
 o:∃ ao cap,s.o=.slice ao (eq R.out) cap/\jd 14 34 (kW K) ho ao (eq R.out) cap R.out
 f:s.f0=gp rb/\s.f1=gp rb/\s.f2=ko rb
theorem lX.le{K K':PH}(l:Le K K'){rb:Nat}{R:Nd}{s:NS}{hy hd ho:PH}(G:lX K rb R s hy hd ho):lX K' rb R s hy hd ho:=by
 obtain ⟨h1,⟨ao,cap,h2,h2'⟩,h3,⟨ao4,cap4,h4,h4'⟩,h5⟩:=G;exact ⟨h1,⟨ao,cap,h2,h2'.le l⟩,h3,⟨ao4,cap4,h4,h4'.imp fun _ _=>kW.le l⟩,h5⟩
def gt(K:PH)(rb:Nat)(R:Nd)(s:NS)(g:PH):Prop:=∃ hy hd ho,g=cZ [hy,hd,ho]/\gT [hy,hd,ho]/\lX K rb R s hy hd ho
theorem gt.le{K K':PH}(l:Le K K'){rb:Nat}{R:Nd}{s:NS}{g:PH}(G:gt K rb R s g):gt K' rb R s g:=let ⟨hy,hd,ho,h1,h2,h3⟩:=G;⟨hy,hd,ho,h1,h2,h3.le l⟩
def gt.r{rb:Nat}{R R':Nd}{s:NS}{g:PH}(G:gt K rb R s g)(h1:R'.yes=R.yes:=by rfl)(h2:R'.ps.vot=R.ps.vot:=by rfl)(h3:R'.ps.data=R.ps.data:=by rfl)(h4:R'.out=R.out:=by rfl):gt K rb R' s g:=by
 obtain ⟨hy,hd,ho,g1,g2,⟨a,b,c,d,e⟩⟩:=G;exact ⟨hy,hd,ho,g1,g2,⟨by rw[h1];exact a,by rw[h2];exact b,by rw[h3];exact c,by rw[h4];exact d,e⟩⟩
structure di (K:PH) (rb lb db:Nat) (R:Nd) (L:Lg) (D:Dk) (s:NS) (lh g:PH):Prop where
 l:dG K lb db L D lh
 g:gt K rb R s g
theorem di.le{K K':PH}(l:Le K K'){rb lb db:Nat}{R:Nd}{L:Lg}{D:Dk}{s:NS}{lh g:PH}(o:di K rb lb db R L D s lh g):di K' rb lb db R L D s lh g:=⟨o.l.le l,o.g.le l⟩
def Ng(rb lb db:Nat)(K:PH)(R:Nd)(L:Lg)(D:Dk)(K' a b c:PH):Prop:=∃ s,a=pt rb (aW lb R s) RT/\Le K K'/\di K' rb lb db R L D s b c
abbrev fF(w0:World)(K:PH)(hs:List PH)(rb lb db:Nat)(R:Nd)(s:NS)(lh g:PH)(f:FuncId)(args:List Value)(R':Nd)(L':Lg)(D':Dk)(u:Value):Prop:=
 aj w0 f args K (pt rb (aW lb R s) RT::lh::g::hs) (fun v K' hs'=>∃ a b c,hs'=a::b::c::hs/\Ng rb lb db K R' L' D' K' a b c/\v=u)
end
section
def Gg{c yes:List Int}{j:Nat}(hj:j<eq c):eq ((c.take (j+1)).filter fun v=>decide (v∈yes))=eq ((c.take j).filter fun v=>decide (v∈yes))+if c[j]∈yes then 1 else 0:=by
 rw[aaK,aai hj,abG,aah];simp only[abK,acA,List.filter_nil]
 split <;> simp_all
def GF{f:Int->Nat}{c:List Int}{j:Nat}(hj:j<eq c):((c.take j).map f++List.replicate (eq c-j) 0).set j (f c[j])=(c.take (j+1)).map f++List.replicate (eq c-(j+1)) 0:=by
 have h1:eq ((c.take j).map f)=j:=by simp;omega
 rw[aca _ _ qo,h1,ab8,show eq c-j=eq c-(j+1)+1 by omega,List.replicate_succ,List.set_cons_zero,aaK,aai hj];simp only[abK,aaX,aaq,List.map_nil,aaD,ab5]
def FP{f:Int->Nat}{c:List Int}{ys:List Nat}(hp:ys.Perm (c.map f))(hs:de 0 (eq ys) ys):ys.getD ((eq c-1) / 2) 0=jF c f:=by
 have h:=uH (l:=c.map fun v=>((f v:Nat):Int)) (ys:=ys.map fun x=>((x:Nat):Int)) (by simpa[Function.comp_def] using hp.map fun x=>((x:Nat):Int)) hs.pw;unfold jF;rw[<-h,aaG,aaG,aby];cases ys[(eq c-1) / 2]? <;> simp
section
variable {w0:World} {K hv:PH} {hs:List PH}
def Bw(hm:In K hs hv)(ao:Option Addr)(k:Nat)(l:List Int)(x:aw hv ao (eq l) k 1 (iv l))(hl:eq l<=1099511627776)(n:Int):
  aj w0 154 [.slice ao (eq l) k,.int .i64 n] K hs (fun v K' hs'=>K'=K/\hs'=hs/\∃ i:Int,v=.int .i64 i/\(n∈l->∃ j:Nat,i=(j:Int)/\l[j]?=some n/\n∉l.take j)/\(n∉l->i = -1)):=by
 refine ent Tryz.func154 ?_;refine au ?_;refine loop (σ:=Nat) (fun j=>[(0,.slice ao (eq l) k),(1,.int .i64 n),(7,.int .i64 (eq l)),(8,.int .i64 (j:Nat))]) (fun _=>K) (fun _=>hs) (fun j=>j<=eq l/\n∉l.take j) (fun j=>eq l-j) 0 ⟨aad _,Nm⟩ ⟨I,I,I,I,trivial⟩ I I ?_;rintro j ⟨hj,hno⟩;refine au ?_;refine bh 0 I (fun e2=>?_) (fun e2=>?_)
 ·refine au ?_;have hjl:j<eq l:=qo
  refine au ?_;refine dR 3 j I I I x (lH hjl) fun a14 hc14=>?_;refine ld 0 I hm hc14 ?_;refine bh 0 I (fun e4=>?_) (fun e4=>?_)
  ·refine au ?_;exact ah I I ⟨I,I,((j:Nat):Int),I,fun _=>⟨j,I,by rw[aai hjl,e4],hno⟩,fun h=>absurd (by rw[e4];exact abp hjl) h⟩
  refine au ?_;refine ar 0 I (aC (x:=((j+1:Nat):Int)) qo) ?_;refine fin 1 I ?_;refine bw (x:=j) (j+1) sb I I ⟨qo,?_⟩ qo;rw[aaK,aai hjl];simp only[abK,aaj,aaz,not_or];exact ⟨hno,e4⟩
 refine au ?_;rw[aav qo] at hno;refine au ?_;exact ah I I ⟨I,I,-1,I,fun h=>absurd h hno,fun _=>I⟩
def yv(hm:In K hs hv)(ao:Option Addr)(k:Nat)(l:List Int)(x:aw hv ao (eq l) k 1 (iv l))(hl:eq l<=1099511627776)(n:Int):
  aj w0 129 [.slice ao (eq l) k,.int .i64 n] K hs (fun v K' hs'=>K'=K/\hs'=hs/\v=.bool (decide (n∈l))):=by
 refine ent Tryz.func129 ?_;refine au ?_;refine cl 2 I (Bw hm ao k l x hl n) ?_;rintro v7 K7 hs7 ⟨rfl,rfl,i,rfl,hi,hn⟩;refine ai 0 I fun b8 h8=>?_;refine au ?_;refine ah I I ⟨I,I,?_⟩
 rw[show b8=decide (n∈l) from by
  rw[aaS,h8,decide_eq_true_iff]
  by_cases h:n∈l
  ·obtain ⟨j,rfl,_⟩:=hi h;simp[h]
  rw[hn h];simp[h]]
def yH(d:Nat)(hd:d<18446744073709551616):
  aj w0 135 [.int .u64 (d:Nat)] K hs (fun v K' hs'=>K'=K/\hs'=hs/\v=.int .i64 (10+d % 22:Nat)):=by
 refine ent Tryz.func135 ?_;refine au ?_;refine ar 1 I (kK .u64 d 22) ?_;refine ar 0 I (aC qo) ?_;refine ar 0 I (aC (x:=((10+d % 22:Nat):Int)) qo) ?_;refine au ?_;exact ah I I ⟨I,I,I⟩
def rf(hm:In K hs hv)(ao:Option Addr)(k:Nat)(l:List Int)(x:aw hv ao (eq l) k 1 (iv l))(hl:eq l<=1099511627776)(n:Int):
  aj w0 147 [.agg #[.slice ao (eq l) k],.int .i64 n] K hs (fun v K' hs'=>K'=K/\hs'=hs/\v=.bool (decide (n∈l))):=by
 refine ent Tryz.func147 ?_;refine au ?_;refine bx 0 I fun b2=>?_;refine au ?_;refine cl 1 I (yv (In.cons hm) ao k l x hl n) ?_;rintro v8 K8 hs8 ⟨rfl,rfl,rfl⟩;refine au (WQ.drop ?_);exact ah I I ⟨I,I,I⟩
def Kx{hy:PH}(hm:In K hs hv)(ao:Option Addr)(k:Nat)(c:List Int)(x:aw hv ao (eq c) k 1 (iv c))(hc:eq c<=1099511627776)(hmy:In K hs hy)(ay:Option Addr)(ky:Nat)(yes:List Int)(y:aw hy ay (eq yes) ky 1 (iv yes))(hyl:eq yes<=1099511627776):
  aj w0 69 [.agg #[.slice ao (eq c) k],.slice ay (eq yes) ky] K hs (fun v K' hs'=>K'=K/\hs'=hs/\v=.bool (n7 c yes)):=by
 refine ent Tryz.func69 ?_;refine au ?_;refine bx 0 I fun b2=>?_;refine au ?_
 refine loop (σ:=Nat) (fun j=>[(1,.slice ay (eq yes) ky),(2,Nr b2),(5,.int .i64 ((eq ((c.take j).filter fun v=>decide (v∈yes)):Nat):Int)),(9,.slice ao (eq c) k),(10,.int .i64 (eq c)),(11,.int .i64 (j:Nat))])
  (fun _=>K) (fun _=>pt b2 #[.slice ao (eq c) k] 46::hs) (fun j=>j<=eq c) (fun j=>eq c-j) 0 (aad _) ⟨rfl,rfl,rfl,rfl,rfl,rfl,trivial⟩ rfl rfl ?_
 intro j hj;have hn:eq ((c.take j).filter fun v=>decide (v∈yes))<=j:=aas (acb _ _) (by simp;omega);refine au ?_;refine bh 0 I (fun e2=>?_) (fun e2=>?_)
 ·refine au ?_;have hjl:j<eq c:=qo
  have hst:=Gg (yes:=yes) hjl;refine au ?_;refine dR 0 j I I I x (lH hjl) fun a13 hc13=>?_;refine ld 0 I (In.cons hm) hc13 ?_;refine au ?_;refine cl 2 I (yv (In.cons hmy) ay ky yes y hyl c[j]) ?_;rintro v17 K17 hs17 ⟨rfl,rfl,rfl⟩;refine fin 0 I (th (fe I (fun e3=>?_) (fun e3=>?_)))
  ·rw[decide_eq_true_iff] at e3;rw[aab e3] at hst;refine au ?_;refine ar 1 I (aC (x:=((eq ((c.take j).filter fun v=>decide (v∈yes))+1:Nat):Int)) qo) ?_;refine au ?_;refine ar 0 I (aC (x:=((j+1:Nat):Int)) qo) ?_;refine fin 1 I ?_;exact bw (x:=j) (j+1) ⟨I,I,by rw[hst];rfl,rfl,rfl,rfl,trivial⟩ rfl rfl qo qo
  rw[decide_eq_false_iff_not] at e3;rw[aaa e3] at hst;refine au ?_;refine ar 0 I (aC (x:=((j+1:Nat):Int)) qo) ?_;refine fin 1 I ?_;exact bw (x:=j) (j+1) ⟨I,I,by rw[hst];rfl,rfl,rfl,rfl,trivial⟩ rfl rfl qo qo
 refine au ?_;obtain rfl:j=eq c:=qo
 rw[aaE];refine au ?_;refine ar 1 I (kR (eq c) 2 qo) ?_;refine ai 0 I fun b26 h26=>?_;refine au (WQ.drop ?_);refine ah I I ⟨I,I,?_⟩
 rw[show b26=n7 c yes from by
  unfold n7;rw[aaS,h26,decide_eq_true_iff];omega]
def H5{hM:PH}(hm:In K hs hv)(ao:Option Addr)(k:Nat)(c:List Int)(x:aw hv ao (eq c) k 1 (iv c))(hc:fS c)(hmM:In K hs hM)(am:Option Addr)(ms:List Nat)(hml:eq ms=7)(xM:aw hM am 7 7 1 (ik ms)):
  aj w0 199 [.agg #[.slice ao (eq c) k],.slice am 7 7] K hs (fun v K' hs'=>K'=K/\hs'=hs/\v=.int .u64 ((jF c (fun v:Int=>ms.getD v.toNat 0):Nat):Int)):=by
 have hcl:=hc.len;have hc0:eq c≠0:=by have:=hc.1;simpa using this
 refine ent Tryz.func199 ?_;refine au ?_;refine bx 0 I fun b2=>?_;refine au ?_;refine ai 1 I fun b11 h11=>?_;refine fin 0 I (th (ax h11 I (fun e2=>absurd e2 qo) (fun e2=>?_)));refine au ?_;refine DY 1 (eq c) (.int .u64 0) I I I I (by simp[roomBytes];omega) qo qo Nn fun bq ol=>?_;refine au ?_
 refine loop (σ:=Nat) (fun i=>[(1,.slice am 7 7),(2,Nr b2),(5,.slice (some ⟨bq,0,none⟩) (eq c) (eq c)),(18,.int .i64 (eq c)),(19,.int .i64 (i:Nat))]) (fun _=>K)
  (fun i=>pt bq (kA true [] ((c.take i).map (fun v:Int=>ms.getD v.toNat 0)++List.replicate (eq c-i) 0) []) 29::pt b2 #[.slice ao (eq c) k] 46::hs) (fun i=>i<=eq c) (fun i=>eq c-i) 0 (aad _) ⟨rfl,rfl,rfl,rfl,rfl,trivial⟩ rfl (by
   have:Array.replicate (eq c) (Value.int .u64 0)=kA true [] (List.replicate (eq c) 0) []:=by simp[kA,gD,kI]
   simp[this]
   rfl) ?_
 intro i hi;refine au ?_;refine bh 0 I (fun e4=>?_) (fun e4=>?_)
 ·refine au ?_;have hil:i<eq c:=qo
  have hv:=hc.mem (abp hil);refine au ?_;refine dR 1 i I I I x (lH hil) fun a25 hc25=>?_;refine ld 0 I (In.cons (In.cons hm)) hc25 ?_;refine au ?_;refine ai 1 I fun b28 h28=>?_
  refine' dU (q:=c[i]<7) 1 5 34 [28,29] h28 I I I I I I I (fun _=>?x6) (fun b34 h34=>?_)
  case x6=>
   refine au ?_;refine ai 3 I fun b33 h33=>?_;exact fin 1 I (bK h33 I I I)
  refine fin 0 I (th (ax h34 I (fun e8=>?_) (fun e8=>absurd ⟨hv.1,hv.2⟩ e8)));refine au ?_;have hvn:c[i].toNat<eq ms:=qo
  refine dR 4 c[i].toNat I qo I xM (u:=.int .u64 (ms.getD c[i].toNat 0:Nat)) (by simp[ik,hvn,aaG]) fun a39 hc39=>?_;refine ld 0 I (In.cons (In.cons hmM)) hc39 ?_;have hfs:=GF (f:=fun v:Int=>ms.getD v.toNat 0) hil;have hsz:eq ((c.take i).map (fun v:Int=>ms.getD v.toNat 0)++List.replicate (eq c-i) 0)=eq c:=by simp;omega
  generalize (c.take i).map (fun v:Int=>ms.getD v.toNat 0)++List.replicate (eq c-i) 0=XS at hfs hsz ⊢;have xl:=nR (kd:=true) (g:=bq) (e:=29) (pre:=[]) (xs:=XS) (post:=[]) (cap:=eq c) qo;rw[hsz] at xl;refine fj 0 i I I xl qo Nn fun a41 h41=>?_;cases h41;rw[bf,aaI,aaf];have hg:=bI (kd:=true) (pre:=[]) (xs:=XS) (post:=[]) (i:=i) qo;rw[aaT,aaI] at hg;refine stp 0 0 I I hg I ?_
  refine WL.h 0 (pt bq (kA true [] ((c.take (i+1)).map (fun v:Int=>ms.getD v.toNat 0)++List.replicate (eq c-(i+1)) 0) []) 29) ?_ (.here (by
   rw[<-hfs,<-dZ qo];simp[kI]))
  refine au ?_;refine ar 0 I (aC (x:=((i+1:Nat):Int)) qo) ?_;refine fin 1 I ?_;exact bw (x:=i) (i+1) sb I I qo qo
 refine au ?_;obtain rfl:i=eq c:=qo
 refine au ?_;rw[ab8,List.replicate_zero,aar,aaE];have hxl:eq (c.map fun v:Int=>ms.getD v.toNat 0)=eq c:=by simp
 have hs:=vJ true (w0:=w0) (K:=K) (hs:=pt b2 #[.slice ao (eq c) k] 46::hs) bq (eq c) [] [] (c.map fun v:Int=>ms.getD v.toNat 0) qo qo;rw[hxl] at hs;refine cl 1 I hs ?_;rintro v44 K44 hs44 ⟨rfl,ys,rfl,hp,hS⟩;have hyl:eq ys=eq c:=by rw[hp.len,hxl]
 rw[<-hyl] at hS;have hag:=FP hp.perm hS;refine au ?_;refine ar 3 I (aC (x:=(eq c:Int)-1) qo) ?_;refine ar 0 (v':=.int .i64 (((eq c-1) / 2:Nat):Int)) I (by rw[show (eq c:Int)-1=((eq c-1:Nat):Int) from qo];exact kR (eq c-1) 2 qo) ?_;have xl:=nR (kd:=true) (g:=bq) (e:=29) (pre:=[]) (xs:=ys) (post:=[]) (cap:=eq c) qo;rw[hyl] at xl;have hk:(eq c-1) / 2<eq ys:=qo
 refine dR 0 ((eq c-1) / 2) I I I xl (u:=.int .u64 ((ys.getD ((eq c-1) / 2) 0:Nat):Int)) (by simp[gD,kI,hk,aaG]) fun a50 hc50=>?_;refine ld 0 I (.inr ⟨0,I⟩) hc50 ?_;rw[hag];refine au (WQ.drop (WQ.drop ?_));exact ah I I ⟨I,I,I⟩
def uO(t i lt last:Nat):aj w0 139 [.int .u64 (t:Nat),.int .u64 (i:Nat),.int .u64 (lt:Nat),.int .u64 (last:Nat)] K hs (fun v K' hs'=>K'=K/\hs'=hs/\v=.bool (gX t i lt last)):=by
 refine ent Tryz.func139 ?_;refine au ?_;refine ai 2 I fun b11 h11=>?_
 refine' dx (q:=t=lt/\last<=i) 1 9 21 [11,12] h11 I I I I I I I (fun _=>?x2) (fun b21 h21=>?_)
 case x2=>
  refine au ?_;refine ai 2 I fun b15 h15=>?_
  refine' dU (q:=last<=i) 1 4 20 [15,16] h15 I I I I I I I (fun _=>?x4) (fun b20 h20=>?_)
  case x4=>
   refine au ?_;refine ai 2 I fun b19 h19=>?_;exact fin 1 I (bK (h19.trans qo) I I I)
  exact fin 1 I<|bK (h20.trans qo) I I I
 refine au ?_;refine ah I I ⟨I,I,?_⟩
 rw[show b21=gX t i lt last from by
  unfold gX;rw[aaS,h21,decide_eq_true_iff];omega]
def Ln(nx mt hint:Nat)(h1:nx<18446744073709551616)(h2:mt+1<18446744073709551616):aj w0 146 [.int .u64 (nx:Nat),.int .u64 (mt:Nat),.int .u64 (hint:Nat)] K hs (fun v K' hs'=>K'=K/\hs'=hs/\v=.int .u64 (kM nx mt hint:Nat)):=by
 refine ent Tryz.func146 ?_;refine au ?_;refine ar 1 (v':=.int .u64 (((hint+1) % 18446744073709551616:Nat):Int)) I (congrArg (Value.int .u64) (by simp[IntKind.wrap,IntKind.signed,IntKind.bits])) ?_;refine ar 2 (v':=.int .u64 (max nx 1-1:Nat)) I (by rw[show (if (1:Int)>(nx:Int) then (1:Int) else (nx:Int))-1=((max nx 1-1:Nat):Int) from by split <;> omega];exact bL qo) ?_;refine ar 2 I (bL (x:=((mt+1:Nat):Int)) qo) ?_;refine au ?_;refine ah I I ⟨I,I,?_⟩;unfold kM
 congr 1
 generalize (hint+1) % 18446744073709551616=a;generalize max nx 1-1=b
 split <;> split at * <;> omega
end
end
section
def KS(l:List Int)(j:Nat)(n:Int):(iv l).set j (.int .i64 n)=iv (l.set j n):=by simp[iv,List.map_set]
def Bv(l:List Int)(j:Nat):(iv l).take j=iv (l.take j):=by simp[iv]
structure mR (c:List Int) (p:Int->Bool) (i j:Nat) (xs:List Int):Prop where
 len:eq xs=eq c
 lt:i<j/\j<=eq c
 done:xs.take i=(c.take j).filter p
 todo:xs.drop j=c.drop j
def mR.skip{c:List Int}{p:Int->Bool}{i j:Nat}{xs:List Int}(o:mR c p i j xs)(hj:j<eq c)(h:p c[j]=false):mR c p i (j+1) xs:=by
 obtain ⟨h1,h2,h3,h4⟩:=o;refine ⟨h1,qo,?_,?_⟩
 ·rw[h3,aaK,aai hj,abG];simp[h]
 rw[<-aaR,<-aaR,h4]
def mR.keep{c:List Int}{p:Int->Bool}{i j:Nat}{xs:List Int}(o:mR c p i j xs)(hj:j<eq c)(h:p c[j]=true):mR c p (i+1) (j+1) (xs.set i c[j]):=by
 obtain ⟨h1,h2,h3,h4⟩:=o;refine ⟨by simpa using h1,qo,?_,?_⟩
 ·have hi:i<eq xs:=qo
  rw[aaK,List.take_set_of_le (aac i),h3,abW hi,aaK,aai hj,abG];simp[h]
 rw[List.drop_set_of_lt qo,<-aaR,<-aaR,h4]
section
variable {w0:World} {K hv:PH} {hs:List PH}
def BK(a:Addr)(cap:Nat)(b:List Int)(hm:In K hs hv)(x:aw hv (some a) (eq b) cap 1 (iv b))(hb0:0<eq b)(hl:eq b<1099511627776):
  aj w0 45 [.slice (some a) (eq b) cap] K hs
   (fun v K' hs'=>K'=K/\∃ h ao' c',hs'=h::hs/\v=.slice ao' (eq b) c'/\aZ h ao' (eq b) c' 3 1 (iv b)):=by
 refine ent Tryz.func45 ?_;refine au ?_;refine cb 1 I (fun h1=>absurd h1 Nm) (fun h1=>?_);refine au ?_;refine lit 0 #[] I Nn qk fun b5=>?_;refine app 1 0 I I (aZ.ofPt (c:=#[]) (n:=0) Nm (by simp[maxLen])) (In.cons hm) x I Nn (vA _) (by show (0+eq b)*8<=_;omega) (by simp[maxLen];omega) fun ao7 c7 g7 o7=>?_;refine au ?_;have e:0+eq b=eq b:=aaI _;rw[e] at o7;exact ah I (by rw[e];rfl) ⟨rfl,g7,ao7,c7,rfl,rfl,o7⟩
def Cd(b1 rb ty1 ty2:Nat)(A:Array Value)(nd:Int)(h1:In K hs (pt b1 #[Nr rb] ty1))(h2:In K hs (pt rb A ty2))(hA:A[0]?=some (.int .i64 nd))(n:Int):
  aj w0 128 [.int .i64 n,Nr b1] K hs (fun v K' hs'=>K'=K/\hs'=hs/\v=.bool (decide (n=nd))):=by
 refine ent Tryz.func128 ?_;refine au ?_;refine ld 1 I h1 (cC.pt I) ?_;refine ld 2 I h2 (cC.pt hA) ?_;refine ai 0 I fun b9 h9=>?_;refine au ?_;exact ah I I ⟨I,I,by rw[show b9=decide (n=nd) from by rw[aaS,h9,decide_eq_true_iff]]⟩
abbrev su(b1:Nat):Value:=.func (.func 128) #[] #[Nr b1]
def KT(hm:In K hs hv)(ao:Option Addr)(k:Nat)(l:List Int)(x:aw hv ao (eq l) k 1 (iv l))(hl:eq l<=1099511627776)(b1 rb ty1 ty2:Nat)(A:Array Value)(nd:Int)(h1:In K hs (pt b1 #[Nr rb] ty1))(h2:In K hs (pt rb A ty2))(hA:A[0]?=some (.int .i64 nd)):
  aj w0 179 [.slice ao (eq l) k,su b1] K hs (fun v K' hs'=>K'=K/\hs'=hs/\∃ i:Int,v=.int .i64 i/\(nd∈l->∃ j:Nat,i=(j:Int)/\l[j]?=some nd/\nd∉l.take j)/\(nd∉l->i = -1)):=by
 refine ent Tryz.func179 ?_;refine au ?_;refine loop (σ:=Nat) (fun j=>[(0,.slice ao (eq l) k),(1,su b1),(7,.int .i64 (eq l)),(8,.int .i64 (j:Nat))]) (fun _=>K) (fun _=>hs) (fun j=>j<=eq l/\nd∉l.take j) (fun j=>eq l-j) 0 ⟨aad _,Nm⟩ ⟨I,I,I,I,trivial⟩ I I ?_;rintro j ⟨hj,hno⟩;refine au ?_;refine bh 0 I (fun e2=>?_) (fun e2=>?_)
 ·refine au ?_;have hjl:j<eq l:=qo
  refine au ?_;refine dR 3 j I I I x (lH hjl) fun a14 hc14=>?_;refine ld 0 I hm hc14 ?_;refine cl 0 I (Cd b1 rb ty1 ty2 A nd h1 h2 hA l[j]) ?_;rintro v16 K16 hs16 ⟨rfl,rfl,rfl⟩;refine fin 0 I (th (fe I (fun e4=>?_) (fun e4=>?_)))
  ·rw[decide_eq_true_iff] at e4;refine au ?_;exact ah I I ⟨I,I,((j:Nat):Int),I,fun _=>⟨j,I,by rw[aai hjl,e4],hno⟩,fun h=>absurd (by rw[<-e4];exact abp hjl) h⟩
  rw[decide_eq_false_iff_not] at e4;refine au ?_;refine ar 0 I (aC (x:=((j+1:Nat):Int)) qo) ?_;refine fin 1 I ?_;refine bw (x:=j) (j+1) sb I I ⟨qo,?_⟩ qo;rw[aaK,aai hjl];simp only[abK,aaj,aaz,not_or];exact ⟨hno,fun h=>e4 h.symm⟩
 refine au ?_;rw[aav qo] at hno;refine au ?_;exact ah I I ⟨I,I,-1,I,fun h=>absurd h hno,fun _=>I⟩
def Lb(g off cap:Nat)(cur:Array Value)(c:List Int)(o:aZ (pt g cur 3) (some ⟨g,off,none⟩) (eq c) cap 3 1 (iv c))(hsz:cur.size=off+cap)(htk:(cur.toList.drop off).take (eq c)=iv c)(hl:eq c<=1000000)(b1 rb ty1 ty2:Nat)(A:Array Value)(nd:Int)
  (h1:In K hs (pt b1 #[Nr rb] ty1)) (h2:In K hs (pt rb A ty2)) (hA:A[0]?=some (.int .i64 nd)):
  aj w0 127 [.slice (some ⟨g,off,none⟩) (eq c) cap,su b1] K (pt g cur 3::hs)
   (fun v K' hs'=>K'=K/\∃ cur',hs'=pt g cur' 3::hs/\v=.slice (some ⟨g,off,none⟩) (eq (c.filter fun v=>decide (v≠nd))) cap/\aZ (pt g cur' 3) (some ⟨g,off,none⟩) (eq (c.filter fun v=>decide (v≠nd))) cap 3 1 (iv (c.filter fun v=>decide (v≠nd)))):=by
 refine ent Tryz.func127 ?_;refine au ?_;refine cl 2 I (KT (.inr ⟨0,I⟩) _ cap c o.isS qo b1 rb ty1 ty2 A nd (In.cons h1) (In.cons h2) hA) ?_;rintro v10 K10 hs10 ⟨rfl,rfl,i,rfl,hi,hn⟩;refine au ?_;refine bh 1 I (fun e2=>?_) (fun e2=>?_)
 ·refine au ?_
  have hno:nd∉c:=fun h=>by
   obtain ⟨j,rfl,_⟩:=hi h;omega
  have hf:(c.filter fun v=>decide (v≠nd))=c:=acd.2 fun v hv=>by
   simp only[decide_eq_true_iff];rintro rfl;exact hno hv
  refine au ?_;rw[hf];exact ah I I ⟨I,cur,I,I,o⟩
 refine au ?_;have hin:nd∈c:=Classical.byContradiction fun h=>e2 (hn h);obtain ⟨j0,rfl,hj0,hb⟩:=hi hin;have hj0l:=(aax.1 hj0).1;refine au ?_;refine ar 1 I (aC (x:=((j0+1:Nat):Int)) qo) ?_;refine au ?_;have hcap:=o.2.1
 refine loop (σ:=Nat×Nat×Array Value×List Int) (fun s=>[(0,.slice (some ⟨g,off,none⟩) (eq c) cap),(1,su b1),(5,.int .i64 s.1),(6,.int .i64 s.2.1)]) (fun _=>K10) (fun s=>pt g s.2.2.1 3::hs)
  (fun s=>mR c (fun v=>decide (v≠nd)) s.1 s.2.1 s.2.2.2/\s.2.2.1.size=off+cap/\(s.2.2.1.toList.drop off).take (eq c)=iv s.2.2.2) (fun s=>eq c-s.2.1) (j0,j0+1,cur,c) ⟨⟨rfl,by show j0<j0+1/\j0+1<=eq c;omega,?_,rfl⟩,hsz,htk⟩ sb rfl rfl ?_
 ·rw[aaK,hj0,abG];simp only[abK,acA,List.filter_nil];simp only[ne_eq,not_true_eq_false,decide_false,acp,if_false,aar];exact (acd.2 fun v hv=>by simp only[decide_eq_true_iff];rintro rfl;exact hb hv).symm
 rintro ⟨i,j,cu,xs⟩ ⟨hI,hcs,hct⟩;dsimp only at hI hcs hct ⊢;have hlt:=hI.lt;have ox:aZ (pt g cu 3) (some ⟨g,off,none⟩) (eq c) cap 3 1 (iv xs):=aZ.mkp hcs hcap o.2.2.1 hct;refine au ?_;refine bh 3 I (fun e4=>?_) (fun e4=>?_)
 ·refine au ?_;have hjl:j<eq c:=qo
  have hxj:xs[j]?=some c[j]:=by
   have:=congrArg (·[0]?) hI.todo;simpa[abb,hjl] using this
  refine au ?_;refine dR 2 j I I I ox.isS (u:=.int .i64 c[j]) (by simp[iv,hxj]) fun a24 hc24=>?_;refine ld 0 I (.inr ⟨0,I⟩) hc24 ?_;refine au ?_;refine cl 2 I (Cd b1 rb ty1 ty2 A nd (In.cons h1) (In.cons h2) hA c[j]) ?_;rintro v28 K28 hs28 ⟨rfl,rfl,rfl⟩;refine au ?_;refine fe I (fun e5=>?_) (fun e5=>?_)
  ·have e5':decide (c[j]≠nd)=true:=by simpa using e5
   refine au ?_;refine fj 3 i I I ox.isS qo Nn fun a33 h33=>?_;cases h33;rw[bf,aaf];obtain ⟨w,hw⟩:∃ w,cu[off+i]?=some w:=⟨_,Array.getElem?_eq_getElem qo⟩;refine stp 0 0 I I hw I ?_;refine WL.h 0 (pt g (cu.setIfInBounds (off+i) (.int .i64 c[j])) 3) ?_;refine au ?_;refine ar 1 I (aC (x:=((i+1:Nat):Int)) qo) ?_;refine au ?_;refine ar 1 I (aC (x:=((j+1:Nat):Int)) qo) ?_;refine fin 1 I ?_;refine bw (x:=(i,j,cu,xs)) (i+1,j+1,cu.setIfInBounds (off+i) (.int .i64 c[j]),xs.set i c[j]) sb I I ⟨hI.keep hjl e5',by simpa using hcs,?_⟩ aH;dsimp only;rw[<-KS,<-hct];simp[List.drop_set,List.take_set,show ¬off+i<off by omega]
  have e5':decide (c[j]≠nd)=false:=by simpa using e5
  refine au ?_;refine ar 1 I (aC (x:=((j+1:Nat):Int)) qo) ?_;refine fin 1 I ?_;exact bw (x:=(i,j,cu,xs)) (i,j+1,cu,xs) sb I I ⟨hI.skip hjl e5',hcs,hct⟩ aH
 refine au ?_;obtain rfl:j=eq c:=qo
 have hd:=hI.done;rw[aaE] at hd
 have hle:eq (c.filter fun v=>decide (v≠nd))=i:=by
  have:=congrArg List.length hd;rw[aam,hI.len] at this;omega
 refine au ?_;refine mV 2 i (eq c-i) I I (by dsimp only[Option.getD];omega) qo ?_;rw[BG qo,aaf];refine clr 0 0 I I (z:=.int .i64 0) I I qo qo ?_;refine au ?_;refine mV 2 0 i I I (by dsimp only[Option.getD];omega) qo ?_;rw[pT];refine au ?_;refine ah I I ⟨I,_,I,by rw[hle];rfl,?_⟩
 have o1:=aZ.mkp (g:=g) (e:=3) hcs (show i<=cap by omega) o.2.2.1 (xs:=iv (c.filter fun v=>decide (v≠nd))) (by
  rw[show i=min i (eq c) by omega,<-abF,hct,Bv,hd])
 rw[hle]
 have o2:=o1.behind qo (by
  rw[aaf,show i=min i (eq c) by omega,<-abF,hct,Bv,hd]) (off+i) (List.replicate (eq c-i) (.int .i64 0)) qo (by rw[ack];omega)
 rw[ack] at o2;exact o2
end
end
section
section
variable {w0:World} {K lh g:PH} {hs:List PH} {rb lb db c q z k:Nat} {R:Nd} {L:Lg} {D:Dk} {s:NS}
def l9(o:NI c q z k R L D)(hc:c<=900000000)(hL:dG K lb db L D lh):
  aj w0 67 [Nr rb] K (pt rb (aW lb R s) RT::lh::hs)
   (fun v K' hs'=>∃ a b,hs'=a::b::hs/\a=pt rb (aW lb R s) RT/\b=lh/\Le K K'/\∃ ao cap,v=.tuple #[.agg #[.slice ao (eq L.cfg.1) cap],.int .u64 L.cfg.2]/\aw K' ao (eq L.cfg.1) cap 1 (iv L.cfg.1)):=by
 have hl:=o.last qo;refine ent Tryz.func67 ?_;refine acI ?_;refine al 0 (.agg #[.slice none 0 0]) I qk fun b2=>?_;refine au ?_;refine bQ [1] 12 [0,2,4,6,8,10,12,14,17,19,20,22,25,26] ?_;refine au ?_;refine cl 0 I (Ct.keep 2 I (j8 lb db L D c o.rn.lb qo hL)) ?_;rintro v12 K12 hs12 ⟨rfl,rfl,rfl⟩;refine ba Nm I ?_;refine aJ qk 0 I ?_;refine cl 0 I (Ct.at 2 I (BI lb db L D c o.rn.lb qo hL (L.sn.idx+eq L.l) (by unfold Lg.last cM at hl;unfold ac;omega))) ?_;rintro v13 K13 hs13 ⟨h',rfl,hh,le,ao,cap,rfl,x⟩;subst hh;refine WL.hs (pt b2 #[.slice none 0 0] 46::pt rb (aW lb R s) RT::h'::hs) I ?_;refine eK Nm le ?_;refine aJ qk 2 I ?_;refine bJ 0 0 I I qk I I ?_;refine WL.hs (pt b2 #[.slice ao (eq L.cfg.1) cap] 46::pt rb (aW lb R s) RT::h'::hs) I ?_;refine au ?_;exact fU 0 1 I I I I qk ⟨_,_,I,I,I,le,ao,cap,I,x⟩
def lF(hL:dG K lb db L D lh):
  aj w0 14 [Nr rb] K (pt rb (aW lb R s) RT::lh::hs)
   (fun v K' hs'=>∃ a b,hs'=a::b::hs/\K'=K/\a=pt rb (aW lb R s) RT/\b=lh/\v=.int .u64 L.kt):=by
 refine ent Tryz.func14 ?_;refine au ?_;refine cl 0 I (Ct.keep 1 I (rX lb db L D hL)) ?_;rintro v7 K7 hs7 ⟨rfl,rfl,rfl⟩;refine iT 0 (v:=.int .u64 L.kt) I (fun A w ha _=>nJ (t:=112) (x:=.tmp 7) (i:=0) (v:=.agg #[.int .u64 L.kt,.int .i64 L.kv]) I I (fun w=>by kernel_rfl) A w ha) ?_;refine au ?_;exact ah I I ⟨_,_,I,I,I,I,I⟩
def zR(o:NI c q z k R L D)(hc:c<=900000000)(hL:dG K lb db L D lh):
  aj w0 68 [Nr rb] K (pt rb (aW lb R s) RT::lh::hs)
   (fun v K' hs'=>∃ a b,hs'=a::b::hs/\a=pt rb (aW lb R s) RT/\b=lh/\Le K K'/\∃ ao cap,v=.slice ao (eq (R.oth L)) cap/\aw K' ao (eq (R.oth L)) cap 1 (iv (R.oth L))):=by
 have hcf:fS L.cfg.1:=iV o.rn.lb o.cf L.last;have hlen:=hcf.len;have hl0:0<eq L.cfg.1:=ace.2 hcf.1;refine ent Tryz.func68 ?_;refine au ?_;refine bx 0 I fun b1=>?_;refine au ?_;refine cl 0 I (Ct.at2p [_] (l9 o hc hL)) ?_;rintro v7 K7 hs7 ⟨_,_,rfl,rfl,rfl,le,ao,cap,rfl,x⟩;refine al 3 (.agg #[.slice none 0 0]) I qk fun b3=>?_;refine bJ 0 0 I I qk I I ?_;refine WL.hs (pt b3 #[.slice ao (eq L.cfg.1) cap] 46::pt b1 #[Nr rb] 25::pt rb (aW lb R s) RT::_::hs) I ?_;refine au ?_;obtain ⟨a,rfl⟩:=x.addr (j:=0) hl0 qo;refine cl 0 I (BK a cap L.cfg.1 (.inl I) x hl0 qo) ?_;rintro v12 K12 hs12 ⟨rfl,g,ao',c',rfl,rfl,ow⟩;have hc1:1<=c':=by have:=ow.2.1;omega
 obtain ⟨gb,off,cur,rfl,rfl,hsz,htk⟩:=ow.pts qo;refine cl 1 I (Lb gb off c' cur L.cfg.1 ow hsz htk qo b1 rb _ _ _ R.nd (.inr ⟨1,I⟩) (.inr ⟨2,I⟩) I) ?_;rintro v14 K14 hs14 ⟨rfl,cur',rfl,rfl,ow'⟩;refine au (WQ.frz fun K2 l1 l2=>WQ.drop (WQ.drop ?_));exact ah I I ⟨_,_,I,I,I,le.trans l1,_,c',I,ow'.isS.le l2⟩
def uV:aj w0 66 [Nr rb] K (pt rb (aW lb R s) RT::hs) (fun v K' hs'=>K'=K/\hs'=pt rb (aW lb R s) RT::hs/\v=.int .i64 R.leads):=by
 unfold Nd.leads;refine ent Tryz.func66 ?_;refine au ?_;refine fe I (fun e1=>?_) (fun e1=>?_)
 ·refine au ?_;exact ah I I ⟨I,I,by rw[aab e1]⟩
 refine au ?_;refine bh 0 I (fun e3=>?_) (fun e3=>?_)
 ·refine au ?_;exact ah I I ⟨I,I,by rw[aaa (by simp[e1]),aab e3]⟩
 refine au ?_;exact ah I I ⟨I,I,by rw[aaa (by simp[e1]),aaa e3]⟩
def yP(o:NI c q z k R L D)(hc:c<=900000000)(hL:dG K lb db L D lh):
  aj w0 84 [Nr rb] K (pt rb (aW lb R s) RT::lh::hs) (fun v K' hs'=>∃ a b,hs'=a::b::hs/\K'=K/\a=pt rb (aW lb R s) RT/\b=lh/\v=.bool (R.settled L)):=by
 have hco:=o.rb.com;refine ent Tryz.func84 ?_;refine au ?_;refine bQ [0] 14 [0,2,4,6,8,10,12,14,17,18,20,22,24,26] ?_;refine au ?_;refine cl 0 I (Ct.keep 1 I (lO lb db L D c o.rn.lb qo hL R.com (by unfold ac at hco;omega))) ?_;rintro v14 K14 hs14 ⟨rfl,rfl,rfl⟩;refine ba Nm I ?_;refine aM qk 5 I (acF ?_);refine cl 2 I (lF hL) ?_;rintro v19 K19 hs19 ⟨_,_,rfl,rfl,rfl,rfl,rfl⟩;refine ai 0 I fun b20 h20=>?_;refine au ?_;refine ah I I ⟨_,_,I,I,I,I,?_⟩
 rw[show b20=R.settled L from by
  unfold Nd.settled;rw[aaS,h20,decide_eq_true_iff];unfold Lg.trm;omega]
def z8(x:Int):aj w0 142 [Nr rb,.int .i64 x] K (pt rb (aW lb R s) RT::hs) (fun v K' hs'=>K'=K/\hs'=pt rb (aW lb (R.foll x) s) RT::hs/\v=.tuple #[]):=by
 refine ent Tryz.func142 ?_;refine au ?_;exact dA I ⟨I,I,I⟩
def kL(G:gt K rb R s g)(e:Int):
  aj w0 92 [Nr rb,.int .i64 e] K (pt rb (aW lb R s) RT::lh::g::hs) (fun v K' hs'=>∃ a b c,hs'=a::b::c::hs/\K'=K/\(∃ s',a=pt rb (aW lb (R.did e) s') RT/\gt K rb (R.did e) s' c)/\b=lh/\v=.int .i64 e):=by
 unfold Nd.did;refine ent Tryz.func92 ?_;refine au ?_;refine bh 1 I (fun e2=>?_) (fun e2=>?_)
 ·refine au ?_;rw[aaa e2];refine au ?_;obtain ⟨hy,hd,ho,rfl,dj,⟨y,v,d,o,f⟩⟩:=G;refine WQ.perm (hs':=cZ [hy,hd,ho]::pt rb (aW lb { R with hl:=true,out:=[],role:=0,lead:=-1 } { s with o:=.slice none 0 0 }) RT::lh::hs) ?_ ?_
  ·exact (aal [_,_] [_] hs)
  refine WQ.split dj (WQ.loss 2 En.em I (.inr I) (WQ.join [hy,hd,En.em] fun dj'=>?_));refine WQ.perm (hs':=pt rb (aW lb { R with hl:=true,out:=[],role:=0,lead:=-1 } { s with o:=.slice none 0 0 }) RT::lh::cZ [hy,hd,En.em]::hs) (aal [_] [_,_] hs) ?_;exact ah I I ⟨_,_,_,I,I,⟨_,I,hy,hd,En.em,I,dj',⟨y,v,d,⟨none,0,I,jd.nil _ _⟩,f⟩⟩,I,I⟩
 refine au ?_;rw[aab (Decidable.not_not.1 e2)];refine au ?_;exact ah I I ⟨_,_,_,I,I,⟨s,I,G⟩,I,I⟩
end
end
section
def KO(m:aB)(p:MA):∀ u∈(mv m p).toList,u.oneCell'=true:=by
 simp only[mv,List.forall_mem_cons]
 repeat' constructor
 simp
section
variable {w0:World} {K lh g:PH} {hs:List PH} {rb lb db c q z k:Nat} {R:Nd} {L:Lg} {D:Dk} {s:NS}
def iZ(iN:di K rb lb db R L D s lh g)(ho:eq R.out<=1000000)(m:aB)(p:MA)(hS:dr K m p):
  fF w0 K hs rb lb db R s lh g 137 [Nr rb,.agg (mv m p)] (R.say L m) L D (.tuple #[]):=by
 obtain ⟨hL,hy,hd,hq,rfl,dj,⟨y,v,d,⟨aO,cO,eo,so⟩,f⟩⟩:=iN;obtain ⟨sy,sv,sd,sq,f0,f1,f2⟩:=s;dsimp only at eo y v d f;subst eo;refine ent Tryz.func137 ?_;refine acI ?_;refine bx 0 I fun b3=>?_;refine WL.perm (hs':=cZ [hy,hd,hq]::pt b3 (mv m p) 34::_::lh::hs) (aal [_,_,_] [_] hs) (WL.split dj ?_);refine au ?_;refine bQ [4] 7 [0,2,4,6,8,12,11,15,16,19] ?_;refine au ?_;refine cl 0 I (Ct.at2p [hy,hd,hq,_] (lF hL)) ?_;rintro v9 K9 hs9 ⟨_,_,rfl,rfl,rfl,rfl,rfl⟩;refine ba Nm I ?_;refine aJ qk 0 I ?_;refine stp 0 3 I I I I ?_;refine ba Nm I ?_;refine aJ qk 1 I ?_;refine stp 0 3 I I I I ?_;refine WL.h 3 (pt b3 (mv { m with frm:=R.nd,term:=L.kt } p) 34) ?_;refine au ?_;refine bQ [4,3] 10 [0,2,4,6,8,10,13,15,16,18,21] ?_;refine au ?_;refine lit 0 (mv { m with frm:=R.nd,term:=L.kt } p) I Nn qk fun b18=>?_
 refine ba Nm I ?_;refine aJ qk 0 I ?_;refine MB 0 3 _ { m with frm:=R.nd,term:=L.kt } I I I so ⟨p,I,hS⟩ I (KO _ _) I Nn (by show (eq R.out+1)*160<=_;omega) (by simp[maxLen];omega) fun ao19 c19 g19 o19=>?_;refine ba Nm I ?_;refine aJ qk 2 I ?_;refine stp 0 5 I I I I ?_;refine ci (.inl qk) ?_;have e:eq (R.say L m).out=eq R.out+1:=by simp[Nd.say]
 refine aM qk 0 I (WQ.drop (WQ.join [hy,hd,g19] fun dj'=>WQ.drop1 (WQ.perm (aal [_] [_,_] hs) ?_)));exact dA I ⟨_,_,_,I,⟨⟨sy,sv,sd,.slice ao19 (eq R.out+1) c19,f0,f1,f2⟩,I,Le.refl _,hL,hy,hd,g19,I,dj',y,v,d,⟨ao19,c19,by rw[e],by rw[e];exact o19⟩,f⟩,I⟩
def rI(iN:di K rb lb db R L D s lh g)(o:NI c q z k R L D)(hc:c<=900000000)(hk:k<=900000)(j:Nat)(hj:j<7):
  fF w0 K hs rb lb db R s lh g 148 [Nr rb,.int .i64 (j:Nat)] (R.send L (j:Int)) L D (.tuple #[]):=by
 have hp:=o.rb.pr j;have hout:=o.rb.out;unfold Pr.ok at hp;unfold Nd.send;rw[show R.p (j:Int)=R.pr j from rfl];refine ent Tryz.func148 ?_;refine acI ?_;refine sW (sz:=5) (a:=⟨rb,10,none⟩) 4 j I Tryz.underlying101 qk I hj ?_;rw[bf];refine au ?_;refine a9 3 0 I I (iI lb R s hj (k:=3) I) ?_;refine fin 0 I (th (fe I (fun e1=>?_) (fun e1=>?_)))
 ·rw[aab e1];refine rt (rT ?_);exact kQ I ⟨_,_,_,I,⟨s,I,Le.refl _,iN⟩,I⟩
 rw[aaa (by simp[e1])];refine sk (acF ?_);refine stp 3 0 I I (iI lb R s hj (k:=3) I) I ?_;obtain ⟨R1,hR1⟩:=be (R.setP (j:Int) { R.pr j with ws:=true });have hpj:R1.pr j={ R.pr j with ws:=true }:=by rw[hR1,A2,aab rfl]
 refine WL.h 0 (pt rb (aW lb R1 s) RT) ?_ (.here (by rw[hR1,<-(pQ lb R s hj { R.pr j with ws:=true }).2.2.2.1 ⟨rfl,rfl,rfl,rfl⟩]));rw[<-hR1];have I1:di K rb lb db R1 L D s lh g:=⟨iN.l,by rw[hR1];exact iN.g.r⟩;have ho1:eq R1.out<=1000000:=by rw[hR1];show eq R.out<=_;omega
 have hcr:R1.com=R.com/\R1.rnd=R.rnd:=by rw[hR1];exact ⟨I,I⟩
 refine au ?_;refine cl 0 I (Ct.at 1 I (pX lb db L D c o.rn.lb iN.l)) ?_;rintro v26 K26 hs26 ⟨h',rfl,hh,le,aV,cV,aD,cD,rfl,xV,xD⟩;subst hh;refine al 0 (.agg #[.int .u64 0,.int .u64 0,.slice none 0 0,.slice none 0 0]) I qk fun b5=>?_;refine bJ 0 0 I I qk I I ?_;refine WL.hs (pt b5 (cP L.sn aV cV aD cD) 48::pt rb (aW lb R1 s) RT::h'::g::hs) I ?_;refine au ?_;refine bQ [1,0] 7 [0,2,4,6,8,10,12] ?_;refine bS qk 3 0 I I (iI lb R1 s hj (k:=1) I) ?_;refine au ?_;rw[hpj];refine dC qk 0 ((R.pr j).nx<=L.sn.idx) I Nm fun b33 h33=>?_;refine au ?_;refine ax h33 I (fun e2=>?_) (fun e2=>?_)
 ·rw[aab e2];refine sq (bQ [1,0] 9 [0,2,4,6,8,10,12,14,16] ?_);refine bS qk 3 0 I I (iI lb R1 s hj (k:=4) I) ?_;refine au ?_;rw[hpj];refine au ?_;have hdl:=o.rn.lb.data;obtain ⟨f,hf⟩:=be (min (R.pr j).of.toNat (eq L.sn.data));rw[show (if (eq L.sn.data:Int)<(R.pr j).of then (eq L.sn.data:Int) else (R.pr j).of)=(f:Int) from by split <;> omega];refine ar 1 I (aC (x:=((f+256:Nat):Int)) qo) ?_;refine au ?_;obtain ⟨u,hu⟩:=be (min 256 (eq L.sn.data-f));rw[show (if (eq L.sn.data:Int)<((f+256:Nat):Int) then (eq L.sn.data:Int) else ((f+256:Nat):Int))=((f+u:Nat):Int) from by split <;> omega]
  have hcut:(L.sn.data.drop (R.pr j).of.toNat).take 256=(L.sn.data.drop f).take u:=by
   rcases aaL (R.pr j).of.toNat (eq L.sn.data) with h|h
   ·rw[show f=(R.pr j).of.toNat by omega,hu,<-abF,show f=(R.pr j).of.toNat by omega];rw[aav (l:=L.sn.data.drop (R.pr j).of.toNat) (i:=eq L.sn.data-(R.pr j).of.toNat) Nm]
   rw[aa6 h,show f=eq L.sn.data by omega,aaY]
   simp
  refine bQ [0] 20 [0,2,4,6,8,10,12,14,16,18,20,22,24,26,28,30,32,34,36,39] ?_;refine au ?_;refine D6 qk 2 f u I I xD I I qo (ys:=bv ((L.sn.data.drop f).take u)) (by simp[bv]) fun ao65 c65 x65=>?_;obtain ⟨M,hM⟩:∃ M:aB,M={ aB.zero with kind:=5,to:=(j:Int),idx:=L.sn.idx,lt:=L.sn.term,off:=(f:Int),whole:=eq L.sn.data,vot:=L.sn.vot,data:=(L.sn.data.drop f).take u }:=⟨_,rfl⟩;have hul:eq ((L.sn.data.drop f).take u)=u:=by simp;omega
  have hmv:mv M ⟨none,0,aV,cV,ao65,c65⟩=#[.int .i64 5,.int .i64 0,.int .i64 (j:Nat),.int .u64 0,.int .u64 L.sn.idx,.int .u64 L.sn.term,.int .u64 0,.int .u64 0,.bool false,.slice none 0 0,.int .i64 (f:Nat),.int .i64 (eq L.sn.data),.slice aV (eq L.sn.vot) cV,.slice ao65 u c65]:=by
   rw[hM];unfold mv;rw[hul]
   rfl
  refine jw qk 0 (.agg (mv M ⟨none,0,aV,cV,ao65,c65⟩)) I (fun w=>by rw[hmv];kernel_rfl) ?_;refine au ?_;refine cl 0 I (Ct.at3 [_] (iZ (I1.le le) ho1 M ⟨none,0,aV,cV,ao65,c65⟩ (by rw[hM];exact ⟨eO.nil _ _ _,xV,by rw[hul];exact x65⟩))) ?_;rintro v67 K67 hs67 ⟨_,_,_,rfl,⟨s2,rfl,le2,I2⟩,rfl⟩;refine eK Nm le2 ?_;refine aM qk 0 I (acK (rT (WQ.drop ?_)));have hfM:(min (R.pr j).of (eq L.sn.data:Int))=(f:Int):=qo
  exact kQ I ⟨_,_,_,I,⟨s2,by rw[hcut,hfM,<-hM],le.trans le2,by rw[hcut,hfM,<-hM];exact I2⟩,I⟩
 rw[aaa e2];have hnx:0<(R.pr j).nx:=qo
 have hnm:(R.pr j).nx<18446744073709551616:=by unfold cM at hp;omega
 refine sk (th (sq (bQ [1] 15 [0,2,4,6,8,10,12,14,16,19,20,22,24,26,28] ?_)));refine au ?_;refine bS qk 3 0 I I (iI lb R1 s hj (k:=1) I) ?_;rw[hpj];refine bA qk 0 I (bL (x:=(((R.pr j).nx:Nat):Int)-1) qo) ?_;refine au ?_;rw[show (((R.pr j).nx:Nat):Int)-1=(((R.pr j).nx-1:Nat):Int) from qo];refine cl 0 I (Ct.keep 2 I (lO lb db L D c o.rn.lb qo (iN.l.le le) ((R.pr j).nx-1) qo)) ?_;rintro v78 K78 hs78 ⟨rfl,rfl,rfl⟩;refine ba Nm I ?_;refine aM qk 5 I (th ?_);refine bQ [1] 26 [0,2,4,6,8,10,12,14,16,18,20,22,24,26,28,30,32,34,36,38,40,42,44,46,49,50,53] ?_;refine dk [25,6] qk 5 0 I qk I (iI lb R1 s hj (k:=1) I) ?_;rw[hpj];refine bA qk 0 I (bL (x:=(((R.pr j).nx:Nat):Int)-1) qo) ?_;rw[show (((R.pr j).nx:Nat):Int)-1=(((R.pr j).nx-1:Nat):Int) from qo]
 refine dk [25] qk 4 0 I qk I I ?_;refine dk [25] qk 3 0 I qk I I ?_;refine dk [24] qk 3 0 I qk I I ?_;refine dk [24] qk 3 0 I qk I (iI lb R1 s hj (k:=1) I) ?_;rw[hpj];refine au ?_;refine cl 0 I (Ct.at 2 I (HL lb db L D c o.rn.lb qo (iN.l.le le) (R.pr j).nx hnm 8 qo)) ?_;rintro v105 K105 hs105 ⟨h2,rfl,hh2,le2,aE,cE,rfl,xE⟩;subst hh2;refine WL.hs (pt b5 (cP L.sn aV cV aD cD) 48::pt rb (aW lb R1 s) RT::h2::g::hs) I ?_;refine eK Nm le2 ?_;obtain ⟨M,hM⟩:∃ M:aB,M={ aB.zero with kind:=3,to:=(j:Int),idx:=(R.pr j).nx-1,lt:=(L.trm ((R.pr j).nx-1)).1,com:=R1.com,rnd:=R1.rnd,ents:=gW L.sn L.l (R.pr j).nx 8 }:=⟨_,rfl⟩;refine jw qk 0 (.agg (mv M ⟨aE,cE,none,0,none,0⟩)) I (fun w=>by rw[hM];kernel_rfl) ?_;refine au ?_;refine cl 0 I (Ct.at3 [_] (iZ ((I1.le le).le le2) ho1 M ⟨aE,cE,none,0,none,0⟩ (by rw[hM];exact ⟨eO.of xE,aw.nil _ _ _ _,aw.nil _ _ _ _⟩))) ?_
 rintro v107 K107 hs107 ⟨_,_,_,rfl,⟨s2,rfl,le3,I2⟩,rfl⟩;refine ci (.inl qk) ?_;refine aM qk 0 I (WQ.drop ?_);rw[hcr.1,hcr.2] at hM;exact dA I ⟨_,_,_,I,⟨s2,by rw[<-hM],(le.trans le2).trans le3,by rw[<-hM];exact I2⟩,I⟩
def IU{v:Int}(b:bp c L)(f:L.cf)(hv:v∈R.oth L):0<=v/\v<7:=(iV b f L.last).mem (abL.1 hv).1
def rE(iN:di K rb lb db R L D s lh g)(o:NI c q z k R L D)(hc:c<=900000000)(hk:k<=800000)(a:Bool):
  fF w0 K hs rb lb db R s lh g 88 [Nr rb,.bool a] (R.tell L a) L D (.tuple #[]):=by
 have hrn:=o.rb.rnd;have hol:=mj R o.rn.lb o.cf;obtain ⟨R0,hR0⟩:=be (if a=true then { R with rnd:=R.rnd+1 } else R)
 have o0:NI c q z (k+1) R0 L D:=by
  refine o.r (R':=R0) ?_;rw[hR0]
  split
  ·exact { o.rb.up (aau k) with rnd:=by show R.rnd+1<=_;omega }
  exact o.rb.up<|aau k
 have I0:di K rb lb db R0 L D s lh g:=⟨iN.l,by rw[hR0];split;exact iN.g.r;exact iN.g⟩;have hoth:R0.oth L=R.oth L:=by rw[hR0];split <;> rfl
 unfold Nd.tell;rw[<-hR0];generalize hRt:Nd.tellL a L (R.oth L) R0=Rt;refine ent Tryz.func88 ?_;refine jn (σ:=Unit) (fun _=>[(0,Nr rb),(1,.bool a)]) (fun _=>pt rb (aW lb R0 s) RT::lh::g::hs) (fun _=>True) ?_ ?_
 ·refine au ?_;refine fe I (fun e1=>?_) (fun e1=>?_)
  ·refine au ?_;refine ar 0 I (bL (x:=((R.rnd+1:Nat):Int)) qo) ?_;refine stp 2 0 I I I I ?_;refine WL.h 0 (pt rb (aW lb { R with rnd:=R.rnd+1 } s) RT) ?_;refine fin 0 I ?_;exact jx () trivial sb I (by rw[hR0,aab e1])
  refine sk ?_;exact jx () trivial sb I (by rw[hR0,aaa (by simp[e1])])
 rintro _ _;refine acI ?_;refine cl 1 I (Ct.at2p [] (zR o0 hc I0.l)) ?_;rintro v15 K15 hs15 ⟨_,_,rfl,rfl,rfl,le,ao,cap,rfl,x⟩;rw[hoth] at x ⊢;refine au ?_
 refine loop (σ:=Nat×Nd×PH×NS×PH×PH) (fun u=>[(0,Nr rb),(1,.bool a),(15,.slice ao (eq (R.oth L)) cap),(16,.int .i64 ((eq (R.oth L):Nat):Int)),(17,.int .i64 u.1)]) (fun u=>u.2.2.1)
  (fun u=>pt rb (aW lb u.2.1 u.2.2.2.1) RT::u.2.2.2.2.1::u.2.2.2.2.2::hs)
  (fun u=>u.1<=eq (R.oth L)/\Nd.tellL a L ((R.oth L).drop u.1) u.2.1=Rt/\NI c q z (k+1+u.1) u.2.1 L D/\di u.2.2.1 rb lb db u.2.1 L D u.2.2.2.1 u.2.2.2.2.1 u.2.2.2.2.2/\Le K15 u.2.2.1)
  (fun u=>eq (R.oth L)-u.1) (0,R0,K15,s,_,g) ⟨aad _,hRt,o0,I0.le le,Le.refl _⟩ ⟨rfl,rfl,rfl,rfl,rfl,trivial⟩ rfl rfl ?_
 rintro ⟨i,Ri,Ki,si,li,gi⟩ ⟨hi,hT,oi,Ii,lei⟩;dsimp only at hi hT oi Ii lei ⊢;refine acI ?_;refine ai 0 I fun b18 h18=>?_;refine au ?_;refine ax h18 I (fun e3=>?_) (fun e3=>?_)
 ·have hil:i<eq (R.oth L):=qo
  have hv:=IU o.rn.lb o.cf (abp hil);have fD:(R.oth L).drop i=(R.oth L)[i]::(R.oth L).drop (i+1):=aaF hil;obtain ⟨j,hj⟩:∃ j:Nat,(R.oth L)[i]=(j:Int):=⟨(R.oth L)[i].toNat,qo⟩;have hgx:=lH hil;rw[hj] at hv fD hgx;refine au ?_;refine dR 0 i I I I x hgx fun a19 hc19=>?_;obtain ⟨y,hy,ley⟩:=In.le (K:=K15) (hs:=[]) (.inl rfl) lei;refine ld 0 I (.inl I) (hc19.le lei) ?_;refine fin 1 I (acE ?_);rw[fD] at hT;unfold Nd.tellL at hT;refine fin 1 I (th (fe I (fun e4=>?_) (fun e4=>?_)))
  ·rw[aab e4] at hT;have o1:NI c q z (k+1+i) (Ri.setP (j:Int) { Ri.p (j:Int) with ws:=false }) L D:=oi.r (oi.rb.setP _ (p:={ Ri.p (j:Int) with ws:=false }) (oi.rb.pr j));refine rg ?_;refine sW (sz:=5) (a:=⟨rb,10,none⟩) 4 j I Tryz.underlying101 qk I qo ?_;rw[bf];refine stp 1 0 I I (iI lb Ri si qo (k:=3) I) I ?_;refine WL.h 0 (pt rb (aW lb (Ri.setP (j:Int) { Ri.p (j:Int) with ws:=false }) si) RT) ?_ (.here (by rw[<-(pQ lb Ri si (show j<7 by omega) { Ri.p (j:Int) with ws:=false }).2.2.2.1 ⟨rfl,rfl,rfl,rfl⟩]));refine au ?_;refine cl 2 I (rI ⟨Ii.l,Ii.g.r⟩ o1 hc qo j qo) ?_;rintro v30 K30 hs30 ⟨_,_,_,rfl,⟨s2,rfl,le2,I2⟩,rfl⟩;refine au ?_;refine ar 0 I (aC (x:=((i+1:Nat):Int)) qo) ?_;refine fin 1 I ?_;exact bw (x:=(i,Ri,Ki,si,li,gi)) (i+1,_,K30,s2,_,_) ⟨I,I,I,I,I,trivial⟩ I I ⟨qo,hT,o1.r (o1.rb.send L _),I2,lei.trans le2⟩ aH
  rw[aaa (by simp[e4])] at hT;refine sk (acH ?_);refine cl 2 I (rI Ii oi hc qo j qo) ?_;rintro v30 K30 hs30 ⟨_,_,_,rfl,⟨s2,rfl,le2,I2⟩,rfl⟩;refine au ?_;refine ar 0 I (aC (x:=((i+1:Nat):Int)) qo) ?_;refine fin 1 I ?_;exact bw (x:=(i,Ri,Ki,si,li,gi)) (i+1,_,K30,s2,_,_) ⟨I,I,I,I,I,trivial⟩ I I ⟨qo,hT,oi.r (oi.rb.send L _),I2,lei.trans le2⟩ aH
 obtain rfl:i=eq (R.oth L):=qo
 rw[aaY] at hT;unfold Nd.tellL at hT;refine ex (xt (xt (xb ?_)));exact dA I ⟨_,_,_,I,⟨si,by rw[<-hT],le.trans lei,by rw[<-hT];exact Ii⟩,I⟩
end
end
section
def gP(R:Nd)(j:Nat):List Nat:=(List.range 7).map fun i=>if i<j then (R.pr i).mt else 0
def IY(R:Nd){j:Nat}(hj:j<7):(gP R j).set j (R.pr j).mt=gP R (j+1):=by
 obtain rfl|rfl|rfl|rfl|rfl|rfl|rfl:=sx hj
 all_goals rfl
def uQ(R:Nd)(j:Nat):eq (gP R j)=7:=by simp[gP]
def EE{c:List Int}{f g:Int->Nat}(h:∀ v∈c,f v=g v):jF c f=jF c g:=by
 unfold jF;rw[abf (g:=fun v=>((g v:Nat):Int)) fun v hv=>by rw[h v hv]]
def KP(R:Nd)(n:Nat){nd:Int}(hnd:nd=R.nd)(h:0<=nd/\nd<7){v:Int}(hv:0<=v/\v<7):((gP R 7).set nd.toNat n).getD v.toNat 0=if v=R.nd then n else (R.p v).mt:=by
 subst hnd;have hl:=uQ R 7;rw[aaG,acr]
 by_cases e:v=R.nd
 ·rw[e,aab rfl,aab qo,aab rfl]
  rfl
 rw[aaa qo,aaa e];unfold gP Nd.p;rw[aby,List.getElem?_range qo]
 simp
 omega
section
variable {w0:World} {K lh g:PH} {hs:List PH} {rb lb db c q z k:Nat} {R:Nd} {L:Lg} {D:Dk} {s:NS}
def BU(iN:di K rb lb db R L D s lh g)(o:NI c q z k R L D)(hc:c<=900000000)(hk:k<=700000):
  fF w0 K hs rb lb db R s lh g 145 [Nr rb] (R.agree L) L D (.tuple #[]):=by
 have hcf:fS L.cfg.1:=iV o.rn.lb o.cf L.last;have hlen:=hcf.len;have hlast:=o.last qo;have hndr:=o.rb.nd;unfold Nd.agree;refine ent Tryz.func145 ?_;refine acI ?_;refine cl 1 I (Ct.at2p [] (l9 o hc iN.l)) ?_;rintro v12 K12 hs12 ⟨_,lh,rfl,rfl,rfl,le1,ao,cap,rfl,x⟩;have I1:=iN.le le1;refine al 3 (.agg #[.slice none 0 0]) I qk fun b2=>?_;refine bJ 0 0 I I qk I I ?_;refine WL.hs (pt b2 #[.slice ao (eq L.cfg.1) cap] 46::pt rb (aW lb R s) RT::lh::g::hs) I ?_;refine au ?_;refine DY 0 7 (.int .u64 0) I I I I Nn Nn Nn Nn fun bm om=>?_;refine au ?_
 refine loop (σ:=Nat) (fun i=>[(0,Nr rb),(2,Nr b2),(4,.slice (some ⟨bm,0,none⟩) 7 7),(17,.int .i64 7),(18,.int .i64 (i:Nat))]) (fun _=>K12)
  (fun i=>pt bm (kA true [] (gP R i) []) 29::pt b2 #[.slice ao (eq L.cfg.1) cap] 46::pt rb (aW lb R s) RT::lh::g::hs) (fun i=>i<=7) (fun i=>7-i) 0 qo sb rfl rfl ?_
 intro j hj;refine acI ?_;refine bh 0 I (fun e2=>?_) (fun e2=>?_)
 ·refine au ?_;have hj7:j<7:=qo
  have hml:=uQ R j;refine au ?_;refine sW (sz:=5) (a:=⟨rb,10,none⟩) 6 j I Tryz.underlying101 qk I hj7 ?_;rw[bf];refine a9 1 2 I I (iI lb R s hj7 (k:=0) I) ?_;have xl:=nR (kd:=true) (g:=bm) (e:=29) (pre:=[]) (xs:=gP R j) (post:=[]) (cap:=7) qo;rw[hml] at xl;refine fj 0 j I I xl hj7 Nn fun a30 h30=>?_;cases h30;rw[bf,aaI,aaf];have hg:=bI (kd:=true) (pre:=[]) (xs:=gP R j) (post:=[]) (i:=j) qo;rw[aaT,aaI] at hg;refine stp 0 0 I I hg I ?_
  refine WL.h 0 (pt bm (kA true [] (gP R (j+1)) []) 29) ?_ (.here (by
   rw[<-IY R hj7,<-dZ qo];simp[kI]))
  refine au ?_;refine ar 0 I (aC (x:=((j+1:Nat):Int)) qo) ?_;refine fin 1 I ?_;exact bw (x:=j) (j+1) sb I I qo qo
 refine au ?_;obtain rfl:j=7:=qo
 have hml:=uQ R 7;obtain ⟨nd,hnd⟩:∃ nd:Nat,R.nd=(nd:Int):=⟨R.nd.toNat,qo⟩;refine au ?_;refine bQ [2] 11 [0,2,4,6,8,10,12,14,16,19,20,23] ?_;refine au ?_;refine cl 0 I (Ct.keep 3 I (j8 lb db L D c o.rn.lb qo I1.l)) ?_;rintro v41 K41 hs41 ⟨rfl,rfl,rfl⟩;refine ba Nm I ?_;refine bt qk 0 nd I hnd qo ?_;rw[bf,aaI,aaf];refine au ?_;have hg:=bI (kd:=true) (pre:=[]) (xs:=gP R 7) (post:=[]) (i:=nd) qo;rw[aaT,aaI] at hg;refine stp 0 0 I I hg I ?_
 refine WL.h 0 (pt bm (kA true [] ((gP R 7).set nd L.last) []) 29) ?_ (.here (by
  rw[<-dZ qo];simp[kI,Lg.last]))
 refine au ?_;have hml2:eq ((gP R 7).set nd L.last)=7:=by simp[hml]
 have xl:=nR (kd:=true) (g:=bm) (e:=29) (pre:=[]) (xs:=(gP R 7).set nd L.last) (post:=[]) (cap:=7) qo;rw[hml2] at xl;refine cl 1 I (H5 (.inl I) ao cap L.cfg.1 x hcf (.inr ⟨0,I⟩) (some ⟨bm,0,none⟩) ((gP R 7).set nd L.last) hml2 xl) ?_;rintro v45 K45 hs45 ⟨rfl,rfl,rfl⟩;obtain ⟨n,hn⟩:=be (jF L.cfg.1 fun v=>if v=R.nd then L.last else (R.p v).mt)
 rw[EE (g:=fun v=>if v=R.nd then L.last else (R.p v).mt) (fun v hv=>by
  have:=KP R L.last (nd:=R.nd) rfl hndr (hcf.mem hv)
  rwa [hnd] at this ⊢),<-hn]
 have hnb:n<=cM:=by
  rw[hn];refine yy fun v hv=>?_;have:=(o.rb.pr v.toNat).1;unfold Nd.p
  split <;> omega
 refine au ?_;refine cl 1 I (Ct.keep 3 I (lO lb db L D c o.rn.lb qo I1.l n (by unfold cM at hnb;omega))) ?_;rintro v52 K52 hs52 ⟨rfl,rfl,rfl⟩;refine fin 5 I (th ?_);refine jn (σ:=Unit) (fun _=>[(0,Nr rb),(2,Nr b2)]) (fun _=>pt bm (kA true [] ((gP R 7).set nd L.last) []) 29::pt b2 #[.slice ao (eq L.cfg.1) cap] 46::pt rb (aW lb (R.agr1 L) s) RT::lh::g::hs) (fun _=>True) ?_ ?_
 ·refine au ?_;refine ai 0 I fun b60 h60=>?_
  refine' dU (q:=(L.trm n).1=L.kt) 1 5 66 [60,61] h60 I I I I I I I (fun _=>?x4) (fun b66 h66=>?_)
  case x4=>
   refine cl 2 I (Ct.at2p [_,_] (lF I1.l)) ?_;rintro v64 K64 hs64 ⟨_,_,rfl,rfl,rfl,rfl,rfl⟩;refine ai 0 I fun b65 h65=>?_;exact fin 1 I (bK (h65.trans (by unfold Lg.trm;omega)) rfl rfl rfl)
  refine fin 0 I<|th (ax h66 I (fun e6=>?_) (fun e6=>?_))
  ·refine rg ?_;refine stp 4 2 I I I I ?_;refine WL.h 2 (pt rb (aW lb { R with com:=n } s) RT) ?_;refine fin 0 I ?_;exact jx () trivial sb I (by unfold Nd.agr1;dsimp only;rw[<-hn,aab qo])
  refine sk ?_;exact jx () trivial sb I (by unfold Nd.agr1;dsimp only;rw[<-hn,aaa qo])
 rintro _ _;obtain ⟨R1,hR1⟩:=be (R.agr1 L);rw[<-hR1];have o1:NI c q z k R1 L D:=by rw[hR1];exact o.r (o.rb.agr1 o.rn.lb qo)
 have I2:di _ rb lb db R1 L D s _ g:=⟨I1.l,by
  rw[hR1];unfold Nd.agr1;dsimp only
  split
  ·exact I1.g.r
  exact I1.g⟩
 have hoR:R1.oth L=R1.oth L:=rfl;unfold Nd.agr2;refine acI ?_;refine cl 1 I (Ct.at2p [_,_] (l9 o1 hc I2.l)) ?_;rintro v73 K73 hs73 ⟨_,_,rfl,rfl,rfl,le2,ao2,cap2,rfl,x2⟩;refine bJ 3 1 I I qk I I ?_;refine WL.h 1 (pt b2 #[.slice ao2 (eq L.cfg.1) cap2] 46) ?_;refine au ?_;refine bQ [2,1] 15 [0,2,4,6,8,10,12,14,16,18,20,22,25,26,28] ?_;refine au ?_;refine dN qk 0 (L.cfg.2<=R1.com) I Nm (fun h7=>?_) (fun h7=>?_)
 ·refine au ?_;refine cl 0 I (rf (.inl I) ao2 cap2 L.cfg.1 x2 qo R1.nd) ?_;rintro v88 K88 hs88 ⟨rfl,rfl,rfl⟩;refine ba Nm I ?_;refine aM qk 2 I (th (fe I (fun h8=>?_) (fun h8=>?_)))
  ·have h8':R1.nd∉L.cfg.1:=by simpa using h8
   rw[aab ⟨h7,h8'⟩];refine acI ?_;refine cl 1 I (Ct.at3 [_,_] (rE (I2.le le2) o1 hc qo true)) ?_;rintro v92 K92 hs92 ⟨_,_,_,rfl,⟨s2,rfl,le3,I3⟩,rfl⟩;refine fin 0 I (acH ?_);refine WL.perm (hs':=pt rb (aW lb (R1.tell L true) s2) RT::_::_::pt bm (kA true [] ((gP R 7).set nd L.last) []) 29::pt b2 #[.slice ao2 (eq L.cfg.1) cap2] 46::hs) (aal [_,_] [_,_,_] hs) ?_;refine cl 1 I (z8 (-1)) ?_;rintro v94 K94 hs94 ⟨rfl,rfl,rfl⟩;refine fin 0 I (WQ.perm (aal [_,_,_] [_,_] hs) (WQ.drop (WQ.drop ?_)));exact dA I ⟨_,_,_,I,⟨s2,I,(le1.trans le2).trans le3,I3.l,I3.g.r⟩,I⟩
  have h8':R1.nd∈L.cfg.1:=by simpa using h8
  rw[aaa (fun h=>h.2 h8')];refine sk (WQ.drop (WQ.drop ?_));exact dA I ⟨_,_,_,I,⟨s,I,le1.trans le2,I2.le le2⟩,I⟩
 rw[aaa (fun h=>h7 h.1)];refine aJ qk 6 I ?_;refine WL.pures 1 I ?_;refine ba Nm I ?_;refine aM qk 2 I (th (bY I (sk (WQ.drop (WQ.drop ?_)))));exact dA I ⟨_,_,_,I,⟨s,I,le1.trans le2,I2.le le2⟩,I⟩
end
end
section
def Bj(lb:Nat)(R:Nd)(s:NS){j:Nat}(hj:j<7)(p:Pr):((aW lb R s).toList.take (10+j*5)++(#[.int .u64 p.mt,.int .u64 p.nx,.int .u64 p.rd,.bool p.ws,.int .i64 p.of]:Array Value).toList ++
  (aW lb R s).toList.drop (10+j*5+eq (#[.int .u64 p.mt,.int .u64 p.nx,.int .u64 p.rd,.bool p.ws,.int .i64 p.of]:Array Value).toList)).toArray=aW lb (R.setP (j:Int) p) s:=by
 obtain rfl|rfl|rfl|rfl|rfl|rfl|rfl:=sx hj
 all_goals rfl
def Nd.upj(R:Nd)(L:Lg)(j:Nat):Nd:={ R with role:=2,lead:=R.nd,el:=0,pr:=fun i=>if i<j then Pr.new (L.last+1) else R.pr i }
def H9(R:Nd)(L:Lg)(j:Nat):(R.upj L j).setP (j:Int) (Pr.new (L.last+1))=R.upj L (j+1):=by
 unfold Nd.setP Nd.upj;simp only[Nd.mk.injEq,true_and,and_true]
 funext i
 simp only[aco]
 split
 ·rw[aab qo]
 split
 ·rw[aab qo]
 rw[aaa qo]
section
variable {w0:World} {K lh g:PH} {hs:List PH} {rb lb db c q z k:Nat} {R:Nd} {L:Lg} {D:Dk} {s:NS}
def vR(iN:di K rb lb db R L D s lh g)(o:NI c q z k R L D)(hc:c<=800000000)(hk:k<=600000)(kind:Int)(data:List UInt8)(hdl:eq data<1099511627776)(aD:Option Addr)(cD:Nat)(x:aw K aD (eq data) cD 1 (bv data)):
  fF w0 K hs rb lb db R s lh g 83 [Nr rb,.int .i64 kind,.slice aD (eq data) cD] (R.lay L D kind data).1 (R.lay L D kind data).2.1 (R.lay L D kind data).2.2.1
   (.tuple #[.int .u64 (((R.lay L D kind data).2.2.2.1:Nat):Int),.int .u64 (((R.lay L D kind data).2.2.2.2.1:Nat):Int),.int .i64 (R.lay L D kind data).2.2.2.2.2]):=by
 have hlast:=o.last qo;have hkt:=o.rn.lb.kt;obtain ⟨e,he⟩:∃ e:af,e=⟨L.last+1,L.kt,kind,data⟩:=⟨_,rfl⟩;have hbe:e.idx<=ac/\e.term<=ac:=by rw[he];exact ⟨by show L.last+1<=ac;unfold cM at hlast;unfold ac;omega,hkt⟩
 have hbE:∀ y∈[e],ke y:=fun y hy=>by rw[aaz.1 hy];exact ⟨hbe.1,hbe.2,by rw[he];exact hdl⟩
 have a:=o.append e hbe qo;unfold Nd.lay;rw[<-he];have hap:=fun (K2:PH) (hL:dG K2 lb db L D lh) (ao:Option Addr) (cap:Nat) (xs:dn 4 (dB K2) K2 ao [e].length cap [e]) (hs':List PH)=>JV (w0:=w0) (hs:=hs') lb db L D c o.rn.lb o.rn.ok hL ao cap [e] xs hbE (by simp only[abv];omega);generalize L.append [e] D=A at a hap ⊢;obtain ⟨L1,D1,c1⟩:=A;dsimp only at a hap ⊢;refine ent Tryz.func83 ?_;refine au ?_;refine cl 0 I (Ct.keep 1 I (j8 lb db L D c o.rn.lb qo iN.l)) ?_;rintro v14 K14 hs14 ⟨rfl,rfl,rfl⟩;refine ar 0 I (bL (x:=((L.last+1:Nat):Int)) (by unfold cM at hlast;omega)) ?_;refine cl 1 I (Ct.at2p [] (lF iN.l)) ?_;rintro v17 K17 hs17 ⟨_,lh,rfl,rfl,rfl,rfl,rfl⟩;refine bd 2 (.agg #[.int .u64 (L.last+1:Nat),.int .u64 L.kt,.int .i64 kind,.slice aD (eq data) cD]) I (fun w=>by kernel_rfl) ?_;refine al 0 (.agg #[.int .u64 0,.int .u64 0,.int .i64 0,.slice none 0 0]) I qk fun b9=>?_
 refine bJ 0 0 I I qk I I ?_;refine WL.hs (pt b9 (e.v aD cD) 51::pt rb (aW lb R s) RT::lh::g::hs) (by rw[he];rfl) ?_;refine au ?_;refine bQ [0,1] 8 [0,2,4,6,8,10,13,15,17,18] ?_;refine dk [7] qk 4 1 I qk I I ?_;refine C1 [7,6] qk 0 0 I qk I qk ?_;refine au ?_;refine lit 0 (e.v aD cD) I Nn qk fun b27=>?_;refine WL.frz fun K2 l1 l2=>?_
 have xs:dn 4 (dB K2) K2 (some ⟨b27,0,none⟩) [e].length 1 [e]:=⟨[(e.v aD cD).toList],rfl,by
  have:=(aZ.ofPt (b:=b27) (c:=e.v aD cD) (e:=51) (n:=1) (size:=4) rfl Nn).isS.le l2;simpa using this,⟨⟨aD,cD,rfl,by rw[he];exact x.le l1⟩,trivial⟩,by simp[af.v]⟩
 refine eK Nm l1 ?_;refine au ?_;refine cl 0 I (Ct.at 2 I (hap _ (iN.l.le l1) _ _ xs _)) ?_;rintro v28 K28 hs28 ⟨h2,rfl,le2,hL2,rfl⟩;refine WL.hs (pt b9 (e.v aD cD) 51::pt rb (aW lb R s) RT::h2::g::hs) I ?_;refine eK Nm le2 ?_;refine au ?_;refine cl 0 I (Ct.at3 [_] (kL (lh:=h2) ((iN.g.le l1).le le2) c1)) ?_;rintro v29 K29 hs29 ⟨_,lh,_,rfl,rfl,⟨s1,rfl,G1⟩,rfl,rfl⟩;refine au ?_;refine bh 1 I (fun e2=>?_) (fun e2=>?_)
 ·refine au ?_;subst e2;rw[aaa Nm];dsimp only;have b:=a.sync;have hsy:=fun (K2:PH) (h:PH) (hL:dG K2 lb db L1 D1 h) (hs':List PH)=>B4 (w0:=w0) (hs:=hs') lb db L1 D1 (c+12) a.rn.lb qo a.rn.ok hL;generalize L1.sync D1=B at b hsy ⊢;obtain ⟨L2,D2,c2⟩:=B;dsimp only at b hsy ⊢;refine au ?_;refine cl 0 I (Ct.at 2 I (hsy _ _ hL2 _)) ?_;rintro v37 K37 hs37 ⟨h3,rfl,le3,hL3,rfl⟩;refine WL.hs (pt b9 (e.v aD cD) 51::pt rb (aW lb R s1) RT::h3::_::hs) I ?_;refine cl 0 I (Ct.at3 [_] (kL (lh:=h3) (G1.le le3) c2)) ?_;rintro v38 K38 hs38 ⟨_,lh,_,rfl,rfl,⟨s2,rfl,G2⟩,rfl,rfl⟩;refine au ?_;refine ai 1 I fun b40 h40=>?_;refine fin 0 I (th (ax h40 I (fun e4=>?_) (fun e4=>?_)))
  ·rw[aab e4];refine acI ?_;refine fin 4 I (acK (rT (WQ.drop ?_)));exact eJ I I I I ⟨_,_,_,I,⟨s2,I,(l1.trans le2).trans le3,hL3,G2⟩,I⟩
  obtain rfl:c2=0:=Decidable.not_not.1 e4;rw[show (R.did 0).did 0=R from rfl] at G2 ⊢;rw[aaa Nm];dsimp only;unfold Nd.lay2;have o2:NI (c+13) (q+1) z k R L2 D2:=b;refine sk (acF ?_);refine cl 1 I (Ct.at3 [_] (BU ⟨hL3,G2⟩ o2 qo qo)) ?_;rintro v43 K43 hs43 ⟨_,_,_,rfl,⟨s3,rfl,dg,I4⟩,rfl⟩;have o3:=o2.r (o2.rb.agree o2.rn.lb o2.cf qo);refine fin 0 I (th ?_)
  refine jR (σ:=PH×NS×PH×PH) (fun _=>[(9,Nr b9)]) (fun u=>u.1) (fun u=>pt b9 (e.v aD cD) 51::pt rb (aW lb (if (R.agree L2).role=2 then (R.agree L2).tell L2 false else R.agree L2) u.2.1) RT::u.2.2.1::u.2.2.2::hs)
   (fun u=>Le K43 u.1/\di u.1 rb lb db (if (R.agree L2).role=2 then (R.agree L2).tell L2 false else R.agree L2) L2 D2 u.2.1 u.2.2.1 u.2.2.2) ?_ ?_
  ·refine au ?_;refine ai 0 I fun b48 h48=>?_;refine fin 0 I (th (ax h48 I (fun e6=>?_) (fun e6=>?_)))
   ·rw[aab e6];refine rg ?_;refine cl 1 I (Ct.at3 [_] (rE I4 o3 qo qo false)) ?_;rintro v50 K50 hs50 ⟨_,_,_,rfl,⟨s4,rfl,le5,I5⟩,rfl⟩;refine fin 0 I ?_;exact fb (K50,s4,_,_) ⟨le5,I5⟩ ⟨I,trivial⟩ I I
   rw[aaa e6];refine sk ?_;exact fb (K43,s3,_,_) ⟨Le.refl _,I4⟩ ⟨I,trivial⟩ I I
  rintro ⟨K5,s5,l5,g5⟩ ⟨le5,I5⟩;dsimp only at le5 I5 ⊢;refine sq (bQ [0] 7 [0,2,4,6,8,10,12] ?_);refine bS qk 1 0 (v:=.int .u64 (L.last+1:Nat)) I I (by rw[he];rfl) ?_;refine bS qk 1 0 (v:=.int .u64 L.kt) I I (by rw[he];rfl) ?_;refine aM qk 3 I (acK (WQ.drop ?_));exact eJ I I I I ⟨_,_,_,I,⟨s5,I,(((l1.trans le2).trans le3).trans dg).trans le5,I5⟩,I⟩
 refine au ?_;rw[aab e2];refine au ?_;refine ai 1 I fun b40 h40=>?_;refine fin 0 I (th (ax h40 I (fun e8=>?_) (fun e8=>absurd e2 e8)));refine acI ?_;refine fin 4 I (acK (rT (WQ.drop ?_)));exact eJ I I I I ⟨_,_,_,I,⟨s1,I,l1.trans le2,hL2,G1⟩,I⟩
def BF(iN:di K rb lb db R L D s lh g)(o:NI c q z k R L D)(hc:c<=800000000)(hk:k<=600000)(vs:List Int)(hvs:eq vs<=7)(ao:Option Addr)(cap:Nat)(x:aw K ao (eq vs) cap 1 (iv vs)):
  fF w0 K hs rb lb db R s lh g 140 [Nr rb,.agg #[.slice ao (eq vs) cap]] (R.elect L D vs).1 (R.elect L D vs).2.1 (R.elect L D vs).2.2.1 (.int .i64 (R.elect L D vs).2.2.2):=by
 obtain ⟨hL,hy,hd,hq,rfl,dj,⟨⟨aY,cY,eY,oY⟩,v,d,ou,f⟩⟩:=iN;obtain ⟨sy,sv,sd,so,f0,f1,f2⟩:=s;dsimp only at eY v d ou f;subst eY;have hyl:=o.rb.yes;have hlast:=o.last qo;unfold Nd.elect;refine ent Tryz.func140 ?_;refine acI ?_;refine bx 0 I fun b3=>?_;refine WL.perm (hs':=cZ [hy,hd,hq]::pt b3 #[.slice ao (eq vs) cap] 46::pt rb (aW lb R ⟨.slice aY (eq R.yes) cY,sv,sd,so,f0,f1,f2⟩) RT::lh::hs) (aal [_,_,_] [_] hs) (WL.split dj ?_);refine au ?_;refine bQ [4,3] 7 [0,2,4,6,8,11,12] ?_;refine au ?_;refine cl 0 I (Kx (.inl I) ao cap vs x qo (.inr ⟨0,I⟩) aY cY R.yes oY.isS qo) ?_;rintro v14 K14 hs14 ⟨rfl,rfl,rfl⟩;refine ba Nm I ?_;refine aM qk 1 I (th (fe I (fun h1=>?_) (fun h1=>?_)))
 ·have h1':n7 vs R.yes=false:=by simpa using h1
  rw[aab h1'];refine acI ?_;refine fin 1 I (acK (rT (WQ.join [hy,hd,hq] fun dj'=>WQ.drop1 (WQ.perm (aal [_] [_,_] hs) ?_))));exact ah I I ⟨_,_,_,I,⟨⟨_,sv,sd,so,f0,f1,f2⟩,I,Le.refl _,hL,hy,hd,hq,I,dj',⟨aY,cY,I,oY⟩,v,d,ou,f⟩,I⟩
 have h1':n7 vs R.yes=true:=by simpa using h1
 rw[aaa (by simp[h1'])];refine sk (th (WC.join [hy,hd,hq] fun dj'=>WC.perm (aal [_] [_,_,_] hs) ?_));have G:gt K14 rb R ⟨.slice aY (eq R.yes) cY,sv,sd,so,f0,f1,f2⟩ (cZ [hy,hd,hq]):=⟨hy,hd,hq,rfl,dj',⟨aY,cY,rfl,oY⟩,v,d,ou,f⟩;generalize (⟨.slice aY (eq R.yes) cY,sv,sd,so,f0,f1,f2⟩:NS)=s at G ⊢;generalize cZ [hy,hd,hq]=g at G ⊢;refine acI ?_;refine a9 6 1 I I I ?_;refine stp 2 1 I I I I ?_;refine stp 2 1 I I I I ?_;refine stp 2 1 I I I I ?_;refine WL.h 1 (pt rb (aW lb (R.upj L 0) s) RT) ?_;refine au ?_
 refine loop (σ:=Nat) (fun j=>[(0,Nr rb),(29,.int .i64 (j:Nat))]) (fun _=>K14)
  (fun j=>pt b3 #[.slice ao (eq vs) cap] 46::pt rb (aW lb (R.upj L j) s) RT::lh::g::hs) (fun j=>j<=7) (fun j=>7-j) 0 qo sb rfl rfl ?_
 intro j hj;refine acI ?_;refine ai 0 I fun b30 h30=>?_;refine au ?_;refine ax h30 I (fun e3=>?_) (fun e3=>?_)
 ·have hj7:j<7:=qo
  refine au ?_;refine bQ [1] 12 [0,2,4,6,8,10,18,20,13,14,16,22,25] ?_;refine au ?_;refine cl 0 I (Ct.keep 2 I (j8 lb db L D c o.rn.lb qo hL)) ?_;rintro v38 K38 hs38 ⟨rfl,rfl,rfl⟩;refine ba Nm I ?_;refine bA qk 0 I (bL (x:=((L.last+1:Nat):Int)) (by unfold cM at hlast;omega)) ?_;refine jw qk 0 (.agg #[.int .u64 0,.int .u64 (L.last+1:Nat),.int .u64 0,.bool false,.int .i64 0]) I (fun w=>by kernel_rfl) ?_;refine od (sz:=5) (a:=⟨rb,10,none⟩) qk 0 j I Tryz.underlying101 qk I hj7 ?_;rw[bf];refine au ?_;refine kq 0 1 (off:=10+j*5) (cs:=#[.int .u64 0,.int .u64 (L.last+1:Nat),.int .u64 0,.bool false,.int .i64 0]) I I qk (by show 10+j*5+5<=54;omega) (fun v hv=>by simp at hv;rcases hv with rfl|rfl|rfl|rfl|rfl <;> rfl) ?_;refine WL.h 1 (pt rb (aW lb (R.upj L (j+1)) s) RT) ?_ (.there (.here (by rw[<-H9,<-Bj lb _ s hj7 (Pr.new (L.last+1))];rfl)))
  refine au ?_;refine ar 0 I (aC (x:=((j+1:Nat):Int)) qo) ?_;refine fin 1 I ?_;exact bw (x:=j) (j+1) sb I I qo qo
 obtain rfl:j=7:=qo
 refine ex (xt (xt (xb (acF ?_))));refine WL.h 1 (pt rb (aW lb (R.up L) s) RT) ?_;refine cl 1 I (Ct.at3 [_] (vR (R:=R.up L) ⟨hL,G.r⟩ (o.upR qo) hc hk 0 [] Nm none 0 (aw.nil _ _ _ _))) ?_;rintro v47 K47 hs47 ⟨_,_,_,rfl,⟨s2,rfl,le,I2⟩,rfl⟩;refine fin 7 I (acF ?_);refine fin 2 I (acK (WQ.drop ?_));exact ah I I ⟨_,_,_,I,⟨s2,I,le,I2⟩,I⟩
end
end
section
section
variable {w0:World} {K lh g:PH} {hs:List PH} {rb lb db c q z k:Nat} {R:Nd} {L:Lg} {D:Dk} {s:NS}
def IF(iN:di K rb lb db R L D s lh g)(o:NI c q z k R L D)(hc:c<=700000000)(hk:k<=500000)(hkt:L.kt<cM)(vs:List Int)(hvs:eq vs<=7)(ao:Option Addr)(cap:Nat)(x:aw K ao (eq vs) cap 1 (iv vs)):
  fF w0 K hs rb lb db R s lh g 177 [Nr rb,.agg #[.slice ao (eq vs) cap]] (R.stand L D vs).1 (R.stand L D vs).2.1 (R.stand L D vs).2.2.1 (.int .i64 (R.stand L D vs).2.2.2):=by
 have hnd:=o.rb.nd;unfold cM at hkt;have a:=o.setHard (L.kt+1) R.nd (by unfold ac;omega);unfold Nd.stand;have hsh:=fun (hs':List PH)=>ux (w0:=w0) (hs:=hs') lb db L D c o.rn.lb qo o.rn.ok iN.l (L.kt+1) R.nd (by unfold ac;omega) qo;generalize L.setHard D (L.kt+1) R.nd=A at a hsh ⊢;obtain ⟨L1,D1,c1⟩:=A;dsimp only at a hsh ⊢;have hlast:=a.last qo;refine ent Tryz.func177 ?_;refine acI ?_;refine bx 0 I fun b3=>?_;refine au ?_;refine bQ [1] 14 [0,2,4,6,8,10,16,18,20,22,13,14,24,27,29,30] ?_;refine dk [13] qk 4 0 I qk I I ?_;refine dk [13,12] qk 4 0 I qk I I ?_;refine aJ qk 0 I ?_;refine cl 0 I (Ct.at2p [_] (lF iN.l)) ?_;rintro v17 K17 hs17 ⟨_,lh,rfl,rfl,rfl,rfl,rfl⟩;refine ba Nm I ?_;refine bA qk 0 I (bL (x:=((L.kt+1:Nat):Int)) qo) ?_;refine jw qk 0 (.agg #[.int .u64 (L.kt+1:Nat),.int .i64 R.nd]) I (fun w=>by kernel_rfl) ?_
 refine au ?_;refine cl 0 I (Ct.at 2 I (hsh _)) ?_;rintro v24 K24 hs24 ⟨h2,rfl,le1,hL2,rfl⟩;refine WL.hs (pt b3 #[.slice ao (eq vs) cap] 46::pt rb (aW lb R s) RT::h2::g::hs) I ?_;refine eK Nm le1 ?_;refine au ?_;refine cl 0 I (Ct.at3 [_] (kL (lh:=h2) (iN.g.le le1) c1)) ?_;rintro v25 K25 hs25 ⟨_,lh,g1,rfl,rfl,⟨s1,rfl,G1⟩,rfl,rfl⟩;refine au ?_;refine ai 1 I fun b27 h27=>?_;refine fin 0 I (th (ax h27 I (fun e2=>?_) (fun e2=>?_)))
 ·rw[aab e2];refine acI ?_;refine fin 2 I (acK (rT (WQ.drop ?_)));exact ah I I ⟨_,_,_,I,⟨s1,I,le1,hL2,G1⟩,I⟩
 obtain rfl:c1=0:=Decidable.not_not.1 e2;rw[aaa Nm];rw[show R.did 0=R from rfl] at G1 ⊢;obtain ⟨hy,hd,hq,rfl,dj,⟨y,v,d,ou,f⟩⟩:=G1;obtain ⟨sy,sv,sd,so,f0,f1,f2⟩:=s1;dsimp only at y v d ou f;refine sk (acF ?_);refine WL.perm (hs':=cZ [hy,hd,hq]::pt b3 #[.slice ao (eq vs) cap] 46::pt rb (aW lb R ⟨sy,sv,sd,so,f0,f1,f2⟩) RT::lh::hs) (aal [_,_,_] [_] hs) (WL.split dj ?_);refine au ?_;refine lit 0 #[.int .i64 R.nd] I Nn qk fun b36=>?_;have oy:aZ (pt b36 #[.int .i64 R.nd] 3) (some ⟨b36,0,none⟩) (eq R.cand.yes) 1 3 1 (iv R.cand.yes):=aZ.ofPt (b:=b36) (c:=#[.int .i64 R.nd]) (e:=3) (n:=1) (size:=1) rfl Nn;refine stp 2 5 I I I I ?_;refine stp 2 5 I I I I ?_;refine stp 2 5 I I I I ?_;refine WL.h 5 (pt rb (aW lb { R with role:=1,lead:=-1,yes:=[R.nd] } ⟨.slice (some ⟨b36,0,none⟩) 1 1,sv,sd,so,f0,f1,f2⟩) RT) ?_;refine WL.perm (aat _ _ _) (WL.drop (WL.join [pt b36 #[.int .i64 R.nd] 3,hd,hq] fun dj'=>WL.perm (aal [_] [_,_,_] hs) ?_))
 have G2:gt K25 rb R.cand ⟨.slice (some ⟨b36,0,none⟩) 1 1,sv,sd,so,f0,f1,f2⟩ (cZ [pt b36 #[.int .i64 R.nd] 3,hd,hq]):=⟨_,hd,hq,rfl,dj',⟨_,_,rfl,oy⟩,v,d,ou,f⟩;generalize (⟨.slice (some ⟨b36,0,none⟩) 1 1,sv,sd,so,f0,f1,f2⟩:NS)=s2 at G2 ⊢;generalize cZ [pt b36 #[.int .i64 R.nd] 3,hd,hq]=g2 at G2 ⊢;refine fin 0 I (acF ?_);refine stp 4 1 I I I I ?_;refine stp 2 1 I I I I ?_;refine WL.h 1 (pt rb (aW lb R.cand s2) RT) ?_;have o2:NI (c+2) (q+1) z (k+1) R.cand L1 D1:=a.r a.rb.cand;refine au ?_;refine cl 0 I (Ct.keep 2 I (j8 lb db L1 D1 (c+2) a.rn.lb qo hL2)) ?_;rintro v53 K53 hs53 ⟨rfl,rfl,rfl⟩;refine au ?_;refine cl 1 I (Ct.keep 2 I (lO lb db L1 D1 (c+2) a.rn.lb qo hL2 (L1.sn.idx+eq L1.l) (by unfold Lg.last cM at hlast;omega))) ?_;rintro v60 K60 hs60 ⟨rfl,rfl,rfl⟩;refine au ?_;refine cl 1 I (Ct.at2p [_] (zR o2 qo hL2)) ?_;rintro v64 K64 hs64 ⟨_,lh,rfl,rfl,rfl,le3,aT,cT,rfl,xT⟩
 have hol:=mj R.cand a.rn.lb a.cf;generalize hRt:Nd.asks L1 (R.cand.oth L1) R.cand=Rt;generalize hLO:R.cand.oth L1=LO at xT hol hRt ⊢;refine au ?_
 refine loop (σ:=Nat×Nd×PH×NS×PH×PH) (fun u=>[(0,Nr rb),(3,Nr b3),(6,.int .u64 L1.last),(7,.int .u64 (((L1.trm L1.last).1:Nat):Int)),(64,.slice aT (eq LO) cT),(65,.int .i64 (eq LO)),(66,.int .i64 u.1)]) (fun u=>u.2.2.1)
  (fun u=>pt b3 #[.slice ao (eq vs) cap] 46::pt rb (aW lb u.2.1 u.2.2.2.1) RT::u.2.2.2.2.1::u.2.2.2.2.2::hs)
  (fun u=>u.1<=eq LO/\Nd.asks L1 (LO.drop u.1) u.2.1=Rt/\NI (c+2) (q+1) z (k+1+u.1) u.2.1 L1 D1/\di u.2.2.1 rb lb db u.2.1 L1 D1 u.2.2.2.1 u.2.2.2.2.1 u.2.2.2.2.2/\Le K64 u.2.2.1)
  (fun u=>eq LO-u.1) (0,R.cand,K64,s2,lh,g2) ⟨aad _,hRt,o2,⟨hL2.le le3,G2.le le3⟩,Le.refl _⟩ ⟨rfl,rfl,rfl,rfl,rfl,rfl,rfl,trivial⟩ rfl rfl ?_
 rintro ⟨i,Ri,Ki,si,li,gi⟩ ⟨hi,hT,oi,Ii,lei⟩;dsimp only at hi hT oi Ii lei ⊢;refine acI ?_;refine bh 0 I (fun e4=>?_) (fun e4=>?_)
 ·refine au ?_;have hil:i<eq LO:=qo
  have fD:LO.drop i=LO[i]::LO.drop (i+1):=aaF hil;have hgx:=lH hil;rw[fD] at hT;unfold Nd.asks at hT;refine au ?_;refine dR 0 i I I I xT hgx fun a68 hc68=>?_;refine ld 0 I (.inl I) (hc68.le lei) ?_;refine au ?_;obtain ⟨M,hM⟩:∃ M:aB,M={ aB.zero with kind:=1,to:=LO[i],idx:=L1.last,lt:=(L1.trm L1.last).1 }:=⟨_,rfl⟩;refine bd 4 (.agg (mv M ⟨none,0,none,0,none,0⟩)) I (fun w=>by rw[hM];kernel_rfl) ?_;rw[<-hM] at hT;have hout:=oi.rb.out;refine cl 0 I (Ct.at3 [_] (iZ Ii qo M ⟨none,0,none,0,none,0⟩ (by rw[hM];exact ⟨eO.nil _ _ _,aw.nil _ _ _ _,aw.nil _ _ _ _⟩))) ?_;rintro v75 K75 hs75 ⟨_,_,_,rfl,⟨s3,rfl,dg,I4⟩,rfl⟩;refine au ?_;refine ar 0 I (aC (x:=((i+1:Nat):Int)) qo) ?_;refine fin 1 I ?_;exact bw (x:=(i,Ri,Ki,si,li,gi)) (i+1,_,K75,s3,_,_) ⟨I,I,I,I,I,I,I,trivial⟩ I I ⟨qo,hT,oi.r (oi.rb.say L1 M),I4,lei.trans dg⟩ aH
 refine au ?_;obtain rfl:i=eq LO:=qo
 rw[aaY] at hT;unfold Nd.asks at hT;subst hT;refine au ?_;refine cl 0 I (Ct.at3 [_] (BF Ii oi qo qo vs hvs ao cap (((x.le le1).le le3).le lei))) ?_;rintro v79 K79 hs79 ⟨_,_,_,rfl,⟨s4,rfl,le5,I5⟩,rfl⟩;refine fin 1 I (acK (WQ.drop ?_));exact ah I I ⟨_,_,_,I,⟨s4,I,((le1.trans le3).trans lei).trans le5,I5⟩,I⟩
def KU(iN:di K rb lb db R L D s lh g)(o:NI c q z k R L D)(hc:c<=700000000)(hk:k<=400000)(d:Nat)(hd:d<18446744073709551616):
  fF w0 K hs rb lb db R s lh g 121 [Nr rb,.int .u64 (d:Nat)] (R.idle L D d).1 (R.idle L D d).2.1 (R.idle L D d).2.2.1 (.int .i64 (R.idle L D d).2.2.2):=by
 have hel:=o.rb.el;have hcf:fS L.cfg.1:=iV o.rn.lb o.cf L.last;have hlen:=hcf.len;unfold Nd.idle;have o1:NI c q z (k+1) (R.idle0 d) L D:=o.r (o.rb.idle0 d);refine ent Tryz.func121 ?_;refine acI ?_;refine fin 1 I (th ?_);refine jn (σ:=Unit) (fun _=>[(0,Nr rb)]) (fun _=>pt rb (aW lb { R with wt:=if R.wt=0 then ((10+d % 22:Nat):Int) else R.wt } s) RT::lh::g::hs) (fun _=>True) ?_ ?_
 ·refine au ?_;refine ai 0 I fun b11 h11=>?_;refine fin 0 I (th (ax h11 I (fun e2=>?_) (fun e2=>?_)))
  ·refine rg ?_;refine cl 2 I (yH d hd) ?_;rintro v14 K14 hs14 ⟨rfl,rfl,rfl⟩;refine stp 2 0 I I I I ?_;refine WL.h 0 (pt rb (aW lb { R with wt:=((10+d % 22:Nat):Int) } s) RT) ?_;refine fin 0 I ?_;exact jx () trivial sb I (by rw[aab e2])
  refine sk ?_;exact jx () trivial sb I (by rw[aaa e2])
 rintro _ _;refine au ?_;refine ar 0 I (aC (x:=R.el+1) qo) ?_;refine stp 2 0 I I I I ?_;refine WL.h 0 (pt rb (aW lb (R.idle0 d) s) RT) ?_;refine au ?_;refine cl 1 I (Ct.at2p [] (l9 o1 qo iN.l)) ?_;rintro v26 K26 hs26 ⟨_,lh,rfl,rfl,rfl,le1,ao,cap,rfl,x⟩;have I1:di K26 rb lb db (R.idle0 d) L D s lh g:=⟨iN.l.le le1,(iN.g.le le1).r⟩;have hnd:(R.idle0 d).nd=R.nd:=rfl;generalize R.idle0 d=R1 at o1 I1 hnd ⊢;rw[<-hnd];refine al 3 (.agg #[.slice none 0 0]) I qk fun b5=>?_;refine bJ 0 0 I I qk I I ?_;refine WL.hs (pt b5 #[.slice ao (eq L.cfg.1) cap] 46::pt rb (aW lb R1 s) RT::lh::g::hs) I ?_;refine au ?_;refine bQ [1,0] 23 [0,2,4,6,8,10,12,14,16,18,20,22,24,26,28,31,32,34,36,38,41,42,44] ?_;refine au ?_;refine dN qk 0 (R1.el<R1.wt) I Nm (fun h3=>?_) (fun h3=>?_)
 ·rw[aab (.inl h3)];refine aJ qk 6 I ?_;refine WL.pures 1 I ?_;refine ba Nm I ?_;refine aJ qk 4 I ?_;refine WL.pures 1 I ?_;refine ba Nm I ?_;refine aM qk 2 I (th (cU I (acI ?_)));refine fin 1 I (acK (rT (WQ.drop ?_)));exact ah I I ⟨_,_,_,I,⟨s,I,le1,I1⟩,I⟩
 refine au ?_;refine cl 0 I (rf (.inl I) ao cap L.cfg.1 x qo R1.nd) ?_;rintro v44 K44 hs44 ⟨rfl,rfl,rfl⟩;refine ba Nm I ?_
 by_cases hv:R1.nd∈L.cfg.1
 ·rw[decide_eq_true hv];refine au ?_;refine cl 0 I (Ct.at2p [_] (lF I1.l)) ?_;rintro v49 K49 hs49 ⟨_,lh,rfl,rfl,rfl,rfl,rfl⟩;refine ba Nm I ?_;refine dC qk 0 (cM<=L.kt) I (by unfold cM;simp;omega) fun b50 h50=>?_;refine au ?_;refine ax h50 I (fun h4=>?_) (fun h4=>?_)
  ·rw[aab (.inr (.inr h4))];refine acI ?_;refine fin 1 I (acK (rT (WQ.drop ?_)));exact ah I I ⟨_,_,_,I,⟨s,I,le1,I1⟩,I⟩
  rw[aaa (by simp[h3,hv,h4])];refine au ?_;refine cl 0 I (Ct.at3 [_] (IF I1 o1 hc qo qo L.cfg.1 hlen ao cap x)) ?_;rintro v54 K54 hs54 ⟨_,_,_,rfl,⟨s2,rfl,le2,I2⟩,rfl⟩;refine fin 1 I (acK (WQ.drop ?_));exact ah I I ⟨_,_,_,I,⟨s2,I,le1.trans le2,I2⟩,I⟩
 rw[decide_eq_false hv,aab (.inr (.inl hv))];refine aJ qk 4 I ?_;refine WL.pures 1 I ?_;refine ba Nm I ?_;refine aM qk 2 I (th (cU I (acI ?_)));refine fin 1 I (acK (rT (WQ.drop ?_)));exact ah I I ⟨_,_,_,I,⟨s,I,le1,I1⟩,I⟩
def Ll(iN:di K rb lb db R L D s lh g)(o:NI c q z k R L D)(hc:c<=900000000)(hk:k<=700000)(d:Nat):
  fF w0 K hs rb lb db R s lh g 122 [Nr rb,.int .u64 (d:Nat)] (R.beat L) L D (.int .i64 0):=by
 have hel:=o.rb.el;unfold Nd.beat;refine ent Tryz.func122 ?_;refine au ?_;refine ar 0 I (aC (x:=R.el+1) qo) ?_;refine stp 2 0 I I I I ?_;refine WL.h 0 (pt rb (aW lb { R with el:=R.el+1 } s) RT) ?_;refine au ?_;refine ai 0 I fun b16 h16=>?_;refine fin 0 I (th (ax h16 I (fun e2=>?_) (fun e2=>?_)))
 ·rw[aab e2];refine acI ?_;refine stp 3 0 I I I I ?_;refine WL.h 0 (pt rb (aW lb { R with el:=0 } s) RT) ?_;refine au ?_;refine cl 1 I (rE (R:={ R with el:=0 }) ⟨iN.l,iN.g.r⟩ (o.r o.rb.el0) hc qo true) ?_;rintro v21 K21 hs21 ⟨_,_,_,rfl,⟨s2,rfl,le1,I2⟩,rfl⟩;refine au ?_;exact ah I I ⟨_,_,_,I,⟨s2,I,le1,I2⟩,I⟩
 rw[aaa e2];refine au ?_;exact ah I I ⟨_,_,_,I,⟨s,I,Le.refl _,iN.l,iN.g.r⟩,I⟩
def B2(iN:di K rb lb db R L D s lh g)(o:NI c q z k R L D)(hc:c<=700000000)(hk:k<=400000)(d:Nat)(hd:d<18446744073709551616):
  fF w0 K hs rb lb db R s lh g 29 [Nr rb,.int .u64 (d:Nat)] (R.tick L D d).1 (R.tick L D d).2.1 (R.tick L D d).2.2.1 (.int .i64 (R.tick L D d).2.2.2):=by
 have hro:=o.rb.role;have hf:s.f0=gp rb/\s.f1=gp rb/\s.f2=ko rb:=by obtain ⟨_,_,_,_,_,G⟩:=iN.g;exact G.f
 unfold Nd.tick;refine ent Tryz.func29 ?_;refine au ?_;refine fe I (fun e1=>?_) (fun e1=>?_)
 ·rw[aab e1];refine au ?_;exact ah I I ⟨_,_,_,I,⟨s,I,Le.refl _,iN⟩,I⟩
 rw[aaa (by simp[e1])];refine sk (th (sq (bQ [0] 10 [0,2,4,6,8,10,12,14,16,18,21,22] ?_)));refine dk [8,7] qk 4 0 I qk I I ?_
 by_cases hr:R.role=2
 ·rw[aab hr];refine od (sz:=1) (a:=⟨rb,51,none⟩) qk 2 2 I Tryz.underlying104 qk hr qo ?_;refine bP qk 0 0 (v:=ko rb) I qk I (by rw[<-hf.2.2];rfl) ?_;refine au ?_;refine cl 0 I (Ll iN o qo qo d) ?_;rintro v19 K19 hs19 ⟨_,_,_,rfl,⟨s2,rfl,le1,I2⟩,rfl⟩;refine au ?_;exact ah I I ⟨_,_,_,I,⟨s2,I,le1,I2⟩,I⟩
 rw[aaa hr];obtain ⟨j,hj,hj2⟩:∃ j:Nat,R.role=(j:Int)/\j<2:=⟨R.role.toNat,qo,qo⟩;refine od (sz:=1) (a:=⟨rb,51,none⟩) qk 2 j I Tryz.underlying104 qk hj qo ?_;rw[bf,aaf]
 refine bP qk 0 0 (v:=gp rb) I qk I (by
  obtain rfl|rfl:j=0\/j=1:=qo
  ·rw[<-hf.1];rfl
  rw[<-hf.2.1];rfl) ?_
 refine au ?_;refine cl 0 I (KU iN o hc hk d hd) ?_;rintro v19 K19 hs19 ⟨_,_,_,rfl,⟨s2,rfl,le1,I2⟩,rfl⟩;refine au ?_;exact ah I I ⟨_,_,_,I,⟨s2,I,le1,I2⟩,I⟩
end
end
section
section
variable {w0:World} {K lh g:PH} {hs:List PH} {rb lb db c q z k:Nat} {R:Nd} {L:Lg} {D:Dk} {s:NS}
def IN(iN:di K rb lb db R L D s lh g)(o:NI c q z k R L D)(hc:c<=700000000)(t:Nat)(ht:t<=ac):
  fF w0 K hs rb lb db R s lh g 72 [Nr rb,.int .u64 (t:Nat)] (R.raise L D t).1 (R.raise L D t).2.1 (R.raise L D t).2.2.1 (.int .i64 (R.raise L D t).2.2.2):=by
 unfold Nd.raise;have hsh:=fun (hs':List PH)=>ux (w0:=w0) (hs:=hs') lb db L D c o.rn.lb qo o.rn.ok iN.l t (-1) ht qo;generalize L.setHard D t (-1)=A at hsh ⊢;obtain ⟨L1,D1,c1⟩:=A;dsimp only at hsh ⊢;refine ent Tryz.func72 ?_;refine au ?_;refine bd 1 (.agg #[.int .u64 (t:Nat),.int .i64 (-1)]) I (fun w=>by kernel_rfl) ?_;refine cl 0 I (Ct.at 1 I (hsh _)) ?_;rintro v13 K13 hs13 ⟨h2,rfl,le1,hL2,rfl⟩;refine WL.hs (pt rb (aW lb R s) RT::h2::g::hs) I ?_;refine cl 0 I (Ct.at3 [] (kL (lh:=h2) (iN.g.le le1) c1)) ?_;rintro v14 K14 hs14 ⟨_,lh,g1,rfl,rfl,⟨s1,rfl,G1⟩,rfl,rfl⟩;refine au ?_;refine ai 1 I fun b16 h16=>?_;refine fin 0 I (th (ax h16 I (fun e2=>?_) (fun e2=>?_)))
 ·subst e2;rw[aab rfl];rw[show R.did 0=R from rfl] at G1 ⊢;refine rg ?_;refine stp 4 0 I I I I ?_;refine stp 2 0 I I I I ?_;refine WL.hs (pt rb (aW lb { R with role:=0,lead:=-1 } s1) RT::lh::g1::hs) I ?_;refine au ?_;exact ah I I ⟨_,_,_,I,⟨s1,I,le1,hL2,G1.r⟩,I⟩
 rw[aaa e2];refine au ?_;exact ah I I ⟨_,_,_,I,⟨s1,I,le1,hL2,G1⟩,I⟩
def GL:aj w0 71 [Nr rb] K (pt rb (aW lb R s) RT::hs) (fun v K' hs'=>∃ a,hs'=a::hs/\K'=K/\a=pt rb (aW lb R s) RT/\v=.bool R.content):=by
 unfold Nd.content;refine ent Tryz.func71 ?_;refine au ?_;refine bQ [0] 21 [0,2,4,6,8,10,12,14,16,18,20,22,24,26,28,30,33,34,36,38,40] ?_;refine au ?_;refine dN qk 0 (R.role=2) I Nm (fun h1=>?_) (fun h1=>?_)
 ·refine aJ qk 11 I ?_;refine WL.pures 1 I ?_;refine ba Nm I ?_;refine aM qk 4 I (acK ?_);exact ah I I ⟨_,I,I,I,by rw[decide_eq_true (.inl h1)]⟩
 refine au ?_;refine dN qk 0 (0<=R.lead) I Nm (fun h2=>?_) (fun h2=>?_)
 ·refine au ?_;refine cl 0 I (yH 0 qo) ?_;rintro v19 K19 hs19 ⟨rfl,rfl,rfl⟩;refine ba Nm I ?_;refine dC qk 0 (R.el<10) I Nm fun b20 h20=>?_;refine au ?_;refine ah I I ⟨_,I,I,I,?_⟩
  rw[show b20=decide (R.role=2\/0<=R.lead/\R.el<10) from by
   rw[aaS,h20,decide_eq_true_iff];omega]
 refine aJ qk 5 I ?_;refine WL.pures 1 I ?_;refine ba Nm I ?_;refine aM qk 4 I (acK ?_);exact ah I I ⟨_,I,I,I,by rw[decide_eq_false qo]⟩
def IG(iN:di K rb lb db R L D s lh g)(ho:eq R.out<=900000)(m:aB)(p:MA):
  fF w0 K hs rb lb db R s lh g 73 [Nr rb,.agg (mv m p)] (R.stale L m) L D (.tuple #[]):=by
 unfold Nd.stale;refine ent Tryz.func73 ?_;refine acI ?_;refine bx 0 I fun b3=>?_;refine au ?_;refine ai 0 I fun b7 h7=>?_;refine fin 1 I (th (ax h7 I (fun e2=>?_) (fun e2=>?_)))
 ·rw[aab e2];refine au ?_;refine bd 0 (.agg (mv { aB.zero with kind:=2,to:=m.frm } ⟨none,0,none,0,none,0⟩)) I (fun w=>by kernel_rfl) ?_;refine cl 0 I (Ct.at3 [_] (iZ iN qo _ _ ⟨eO.nil _ _ _,aw.nil _ _ _ _,aw.nil _ _ _ _⟩)) ?_;rintro v12 K12 hs12 ⟨_,_,_,rfl,⟨s2,rfl,le1,I2⟩,rfl⟩;refine fin 0 I (bl (WQ.drop ?_));exact dA I ⟨_,_,_,I,⟨s2,I,le1,I2⟩,I⟩
 rw[aaa e2];have hsay:∀ (e:m.kind=3\/m.kind=5),True:=fun _=>trivial;refine sq (acI ?_);refine ai 0 I fun b14 h14=>?_;refine fin 1 I (th (ax h14 I (fun e4=>?_) (fun e4=>?_)))
 ·rw[aab (.inl e4)];refine sk (th (sI h14 e4 I (rg ?_)));refine au ?_;refine bd 0 (.agg (mv { aB.zero with kind:=4,to:=m.frm } ⟨none,0,none,0,none,0⟩)) I (fun w=>by kernel_rfl) ?_;refine cl 0 I (Ct.at3 [_] (iZ iN qo _ _ ⟨eO.nil _ _ _,aw.nil _ _ _ _,aw.nil _ _ _ _⟩)) ?_;rintro v20 K20 hs20 ⟨_,_,_,rfl,⟨s2,rfl,le1,I2⟩,rfl⟩;refine fin 0 I (bl (WQ.drop ?_));exact dA I ⟨_,_,_,I,⟨s2,I,le1,I2⟩,I⟩
 refine rg ?_;refine ai 0 I fun b15 h15=>?_;refine fin 1 I (th (ax h15 I (fun e6=>?_) (fun e6=>?_)))
 ·rw[aab (.inr e6)];refine au ?_;refine bd 0 (.agg (mv { aB.zero with kind:=4,to:=m.frm } ⟨none,0,none,0,none,0⟩)) I (fun w=>by kernel_rfl) ?_;refine cl 0 I (Ct.at3 [_] (iZ iN qo _ _ ⟨eO.nil _ _ _,aw.nil _ _ _ _,aw.nil _ _ _ _⟩)) ?_;rintro v20 K20 hs20 ⟨_,_,_,rfl,⟨s2,rfl,le1,I2⟩,rfl⟩;refine fin 0 I (bl (WQ.drop ?_));exact dA I ⟨_,_,_,I,⟨s2,I,le1,I2⟩,I⟩
 rw[aaa (by simp[e4,e6])];refine sk (bl (WQ.drop ?_));exact dA I ⟨_,_,_,I,⟨s,I,Le.refl _,iN⟩,I⟩
def rq(ht:Nat)(hv:Int)(t:Nat)(cd:Int)(nw:Bool):aj w0 138 [.agg #[.int .u64 (ht:Nat),.int .i64 hv],.int .u64 (t:Nat),.int .i64 cd,.bool nw] K hs
  (fun v K' hs'=>K'=K/\hs'=hs/\v=.tuple #[.agg #[.int .u64 (((gz ht hv t cd nw).1.1:Nat):Int),.int .i64 (gz ht hv t cd nw).1.2],.bool (gz ht hv t cd nw).2]):=by
 unfold gz;refine ent Tryz.func138 ?_;refine acI ?_;refine bx 0 I fun b4=>?_;refine al 0 (.agg #[.int .u64 0,.int .i64 0]) I qk fun b8=>?_;refine au ?_;refine ai 0 I fun b13 h13=>?_;refine fin 0 I (th (ax h13 I (fun e2=>?_) (fun e2=>?_)))
 ·rw[aab qo];refine au ?_;exact fU 0 2 I I I I qk ⟨I,I,I⟩
 rw[aaa qo];dsimp only;obtain ⟨⟨h1,h2⟩,hh⟩:∃ x,x=if ht<t then (t,(-1:Int)) else (ht,hv):=⟨_,rfl⟩;rw[<-hh];refine sk (th ?_);refine jn (σ:=Unit) (fun _=>[(2,.int .i64 cd),(3,.bool nw),(4,Nr b4),(8,Nr b8)]) (fun _=>pt b8 #[.int .u64 0,.int .i64 0] 112::pt b4 #[.int .u64 (h1:Nat),.int .i64 h2] 112::hs) (fun _=>True) ?_ ?_
 ·refine au ?_;refine ai 0 I fun b18 h18=>?_;refine fin 0 I (th (ax h18 I (fun e4=>?_) (fun e4=>?_)))
  ·rw[aab qo] at hh;cases hh;refine rg ?_;refine bd 1 (.agg #[.int .u64 (t:Nat),.int .i64 (-1)]) I (fun w=>by kernel_rfl) ?_;refine bJ 0 1 I I qk I I ?_;refine fin 0 I ?_;exact jx () trivial sb I I
  rw[aaa qo] at hh;cases hh;refine sk ?_;exact jx () trivial sb I I
 rintro _ _;cases nw with
 | false=>
  rw[aab (.inl rfl)];refine au ?_;exact fU 0 2 I I I I qk ⟨I,I,I⟩
 | true=>
  refine au ?_;refine ai 0 I fun b26 h26=>?_
  refine' dU (q:=h2≠cd) 1 5 32 [26,27] h26 I I I I I I I (fun _=>?x6) (fun b32 h32=>?_)
  case x6=>
   refine au ?_;refine ai 1 I fun b31 h31=>?_;exact fin 1 I (bK h31 I I I)
  refine fin 1 I<|th (ax h32 I (fun h8=>?_) (fun h8=>?_))
  ·rw[aab (.inr h8)];refine au ?_;exact fU 0 2 I I I I qk ⟨I,I,I⟩
  rw[aaa (by simp;simpa using h8)];refine au ?_;exact fU 0 2 I I I I qk ⟨I,I,I⟩
def JU(iN:di K rb lb db R L D s lh g)(o:NI c q z k R L D)(hc:c<=700000000)(hk:k<=500000)(m:aB)(hb:m.bd)(hf:0<=m.frm/\m.frm<7)(p:MA):
  fF w0 K hs rb lb db R s lh g 74 [Nr rb,.agg (mv m p)] (R.asked L D m).1 (R.asked L D m).2.1 (R.asked L D m).2.2.1 (.int .i64 (R.asked L D m).2.2.2):=by
 have hlast:=o.last qo;have hout:=o.rb.out;have hkt:=o.rn.lb.kt;have hkv:=o.rn.lb.kv;unfold Nd.asked;obtain ⟨gr,hgr⟩:=be (gz L.kt L.kv m.term m.frm (gX m.lt m.idx (L.trm L.last).1 L.last));rw[<-hgr];dsimp only;refine ent Tryz.func74 ?_;refine acI ?_;refine bx 0 I fun b3=>?_;refine au ?_;refine cl 0 I (Ct.keep 2 I (j8 lb db L D c o.rn.lb qo iN.l)) ?_;rintro v15 K15 hs15 ⟨rfl,rfl,rfl⟩;refine au ?_;refine cl 1 I (Ct.keep 2 I (lO lb db L D c o.rn.lb qo iN.l (L.sn.idx+eq L.l) (by unfold Lg.last cM at hlast;omega))) ?_;rintro v22 K22 hs22 ⟨rfl,rfl,rfl⟩;refine fin 5 I (th ?_);refine jn (σ:=Nat) (fun b8=>[(0,Nr rb),(3,Nr b3),(8,Nr b8),(9,.bool gr.2)]) (fun b8=>pt b8 #[.int .u64 gr.1.1,.int .i64 gr.1.2] 112::pt b3 (mv m p) 34::pt rb (aW lb R s) RT::lh::g::hs) (fun _=>True) ?_ ?_
 ·refine bQ [1,0] 21 [0,2,4,6,10,12,14,16,18,20,22,24,26,28,9,31,33,34,36,38,41,43,44] ?_;refine bP qk 3 0 I qk I I ?_;refine bP qk 1 1 I qk I I ?_;refine bP qk 1 1 I qk I I ?_;refine bP qk 1 1 I qk I I ?_;refine bP qk 1 1 I qk I I ?_;refine sa 20 qk 2 [9,31,33,34,36,38,43,44] I qk ?_ ?_
  ·refine cl 0 I (Ct.keep 2 I (rX lb db L D iN.l)) ?_;rintro v30 K30 hs30 ⟨rfl,rfl,rfl⟩;refine ba Nm I ?_;refine sa 20 qk 0 [31,33,34,36,38,43,44] I qk ?_ ?_
   ·refine cl 0 I (uO m.lt m.idx (L.trm L.last).1 L.last) ?_;rintro v41 K41 hs41 ⟨rfl,rfl,rfl⟩;refine ba Nm I ?_;refine sa 20 qk 0 [33,34,36,38,43,44] I qk ?_ ?_
    ·refine cl 0 I (rq L.kt L.kv m.term m.frm (gX m.lt m.idx (L.trm L.last).1 L.last)) ?_;rintro v42 K42 hs42 ⟨rfl,rfl,rfl⟩;rw[<-hgr];refine ba Nm I ?_;refine aJ qk 3 I ?_;refine al 0 (.agg #[.int .u64 0,.int .i64 0]) I qk fun b8=>?_;refine ba Nm I ?_;refine aJ qk 0 I ?_;refine bJ 0 0 I I qk I I ?_;refine ba Nm I ?_;refine aM qk 1 I ?_;exact jx b8 trivial sb I I
    refine al 0 (.agg #[.int .u64 0,.int .i64 0]) I qk fun b8=>?_;refine ba Nm I ?_;refine aJ qk 0 I ?_;refine cl 0 I (rq L.kt L.kv m.term m.frm (gX m.lt m.idx (L.trm L.last).1 L.last)) ?_;rintro v42 K42 hs42 ⟨rfl,rfl,rfl⟩;rw[<-hgr];refine ba Nm I ?_;refine aJ qk 3 I ?_;refine bJ 0 0 I I qk I I ?_;refine ba Nm I ?_;refine aM qk 1 I ?_;exact jx b8 trivial sb I I
   refine al 0 (.agg #[.int .u64 0,.int .i64 0]) I qk fun b8=>?_;refine ba Nm I ?_;refine aJ qk 0 I ?_;refine cl 0 I (uO m.lt m.idx (L.trm L.last).1 L.last) ?_;rintro v41 K41 hs41 ⟨rfl,rfl,rfl⟩;refine ba Nm I ?_;refine aJ qk 0 I ?_;refine cl 0 I (rq L.kt L.kv m.term m.frm (gX m.lt m.idx (L.trm L.last).1 L.last)) ?_;rintro v42 K42 hs42 ⟨rfl,rfl,rfl⟩;rw[<-hgr];refine ba Nm I ?_;refine aJ qk 3 I ?_;refine bJ 0 0 I I qk I I ?_;refine ba Nm I ?_;refine aM qk 1 I ?_;exact jx b8 trivial sb I I
  refine al 0 (.agg #[.int .u64 0,.int .i64 0]) I qk fun b8=>?_;refine ba Nm I ?_;refine aJ qk 0 I ?_;refine cl 0 I (Ct.keep 3 I (rX lb db L D iN.l)) ?_;rintro v30 K30 hs30 ⟨rfl,rfl,rfl⟩;refine ba Nm I ?_;refine aJ qk 0 I ?_;refine cl 0 I (uO m.lt m.idx (L.trm L.last).1 L.last) ?_;rintro v41 K41 hs41 ⟨rfl,rfl,rfl⟩;refine ba Nm I ?_;refine aJ qk 0 I ?_;refine cl 0 I (rq L.kt L.kv m.term m.frm (gX m.lt m.idx (L.trm L.last).1 L.last)) ?_;rintro v42 K42 hs42 ⟨rfl,rfl,rfl⟩;rw[<-hgr];refine ba Nm I ?_;refine aJ qk 3 I ?_;refine bJ 0 0 I I qk I I ?_;refine ba Nm I ?_;refine aM qk 1 I ?_;exact jx b8 trivial sb I I
 intro b8 _;have hg1:gr.1.1<=ac:=by rw[hgr];exact qZ hkt hb.term
 have hg2 : -1<=gr.1.2/\gr.1.2<7:=by
  rw[hgr];unfold gz
  grind
 refine au ?_;refine fe I (fun h1=>?_) (fun h1=>?_)
 ·rw[aab h1];have a:=o.setHard gr.1.1 gr.1.2 hg1;have hsh:=fun (hs':List PH)=>ux (w0:=w0) (hs:=hs') lb db L D c o.rn.lb qo o.rn.ok iN.l gr.1.1 gr.1.2 hg1 qo;generalize L.setHard D gr.1.1 gr.1.2=A at a hsh ⊢;obtain ⟨L1,D1,c1⟩:=A;dsimp only at a hsh ⊢;refine sq (bQ [2,0] 7 [0,2,4,6,8,10,13,15,16] ?_);refine dk [6] qk 4 0 I qk I I ?_;refine C1 [6] qk 0 1 I qk I qk ?_;refine au ?_;refine cl 0 I (Ct.at 3 I (hsh _)) ?_;rintro v52 K52 hs52 ⟨h2,rfl,le1,hL2,rfl⟩;refine WL.hs (pt b8 #[.int .u64 gr.1.1,.int .i64 gr.1.2] 112::pt b3 (mv m p) 34::pt rb (aW lb R s) RT::h2::g::hs) I ?_;refine eK Nm le1 ?_;refine au ?_;refine cl 0 I (Ct.at3 [_,_] (kL (lh:=h2) (iN.g.le le1) c1)) ?_;rintro v53 K53 hs53 ⟨_,lh,g1,rfl,rfl,⟨s1,rfl,G1⟩,rfl,rfl⟩;refine au ?_;refine ai 1 I fun b55 h55=>?_;refine fin 0 I (th (ax h55 I (fun e3=>?_) (fun e3=>?_)))
  ·rw[aab e3];refine acI ?_;refine fin 2 I (acK (rT (rT (WQ.drop (WQ.drop ?_)))));exact ah I I ⟨_,_,_,I,⟨s1,I,le1,hL2,G1⟩,I⟩
  obtain rfl:c1=0:=Decidable.not_not.1 e3;rw[aaa Nm];rw[show R.did 0=R from rfl] at G1 ⊢;refine sk (acH ?_);refine stp 4 2 I I I I ?_;refine stp 2 2 I I I I ?_;refine WL.h 2 (pt rb (aW lb { R with el:=0,wt:=0 } s1) RT) ?_;refine au ?_;refine bd 1 (.agg (mv { aB.zero with kind:=2,to:=m.frm,good:=gr.2 } ⟨none,0,none,0,none,0⟩)) I (fun w=>by kernel_rfl) ?_;rw[h1];refine cl 0 I (Ct.at3 [_,_] (iZ (R:={ R with el:=0,wt:=0 }) ⟨hL2,G1.r⟩ (by show eq R.out<=_;omega) _ _ ⟨eO.nil _ _ _,aw.nil _ _ _ _,aw.nil _ _ _ _⟩)) ?_;rintro v68 K68 hs68 ⟨_,_,_,rfl,⟨s2,rfl,le2,I2⟩,rfl⟩;refine fin 0 I (acF ?_);refine fin 1 I (acK (WQ.drop (WQ.drop ?_)));exact ah I I ⟨_,_,_,I,⟨s2,I,le1.trans le2,I2⟩,I⟩
 rw[aaa (by simp[h1])];refine au ?_;refine bd 1 (.agg (mv { aB.zero with kind:=2,to:=m.frm,good:=gr.2 } ⟨none,0,none,0,none,0⟩)) I (fun w=>by kernel_rfl) ?_;rw[h1];refine cl 0 I (Ct.at3 [_,_] (iZ iN qo _ _ ⟨eO.nil _ _ _,aw.nil _ _ _ _,aw.nil _ _ _ _⟩)) ?_;rintro v68 K68 hs68 ⟨_,_,_,rfl,⟨s2,rfl,le2,I2⟩,rfl⟩;refine fin 0 I (acF ?_);refine fin 1 I (acK (WQ.drop (WQ.drop ?_)));exact ah I I ⟨_,_,_,I,⟨s2,I,le2,I2⟩,I⟩
end
end
section
section
variable {w0:World} {K lh g:PH} {hs:List PH} {rb lb db c q z k:Nat} {R:Nd} {L:Lg} {D:Dk} {s:NS}
def H7(iN:di K rb lb db R L D s lh g)(o:NI c q z k R L D)(hc:c<=700000000)(hk:k<=500000)(m:aB)(p:MA):
  fF w0 K hs rb lb db R s lh g 75 [Nr rb,.agg (mv m p)] (R.voted L D m).1 (R.voted L D m).2.1 (R.voted L D m).2.2.1 (.int .i64 (R.voted L D m).2.2.2):=by
 have hcf:fS L.cfg.1:=iV o.rn.lb o.cf L.last;have hyl:=o.rb.yes;unfold Nd.voted;refine ent Tryz.func75 ?_;refine acI ?_;refine bx 0 I fun b3=>?_;refine au ?_;refine ai 0 I fun b11 h11=>?_
 refine' dx (q:=m.good=false) 1 4 16 [11,12] h11 I I I I I I I (fun _=>?x2) (fun b16 h16=>?_)
 case x2=>
  refine a9 1 0 I I I ?_;refine dE 0 (m.good=false) I (by cases m.good <;> simp) fun b15 h15=>?_;exact fin 1 I (bK h15 I I I)
 refine fin 0 I<|th (ax h16 I (fun e3=>?_) (fun e3=>?_))
 ·rw[aab e3];refine acI ?_;refine fin 1 I (acK (rT (WQ.drop ?_)));exact ah I I ⟨_,_,_,I,⟨s,I,Le.refl _,iN⟩,I⟩
 rw[aaa e3];refine sk (acF ?_);refine cl 1 I (Ct.at2p [_] (l9 o qo iN.l)) ?_;rintro v19 K19 hs19 ⟨_,lh,rfl,rfl,rfl,le1,ao,cap,rfl,x⟩;refine al 3 (.agg #[.slice none 0 0]) I qk fun b5=>?_;refine bJ 0 0 I I qk I I ?_;have I1:=iN.le le1;obtain ⟨hL,hy,hd,hq,rfl,dj,⟨⟨aY,cY,eY,oY⟩,v,d,ou,f⟩⟩:=I1;obtain ⟨sy,sv,sd,so,f0,f1,f2⟩:=s;dsimp only at eY v d ou f;subst eY;refine WL.hs (pt b5 #[.slice ao (eq L.cfg.1) cap] 46::pt b3 (mv m p) 34::pt rb (aW lb R ⟨.slice aY (eq R.yes) cY,sv,sd,so,f0,f1,f2⟩) RT::lh::cZ [hy,hd,hq]::hs) I ?_;refine WL.perm (aal [_,_,_,_] [_] hs) (WL.split dj ?_);refine au ?_;refine bQ [5,4] 11 [0,2,4,6,8,10,12,15,17,18,20,23] ?_;refine au ?_;refine lit 0 #[.int .i64 m.frm] I Nn qk fun b29=>?_;refine ba Nm I ?_;refine aJ qk 0 I ?_;have xm:aw (pt b29 #[.int .i64 m.frm] 3) (some ⟨b29,0,none⟩) 1 1 1 [.int .i64 m.frm]:=(aZ.ofPt (b:=b29) (c:=#[.int .i64 m.frm]) (e:=3) (n:=1) (size:=1) rfl Nn).isS
 refine app 0 1 I I oY (.inr ⟨0,I⟩) xm I Nn (by simp;rfl) (by show (eq R.yes+1)*8<=_;omega) (by simp[maxLen];omega) fun ao30 c30 g30 o30=>?_;refine ba Nm I ?_;refine aJ qk 2 I ?_;refine stp 0 6 I I I I ?_;obtain ⟨R1,hR1⟩:∃ R1:Nd,R1={ R with yes:=R.yes++[m.frm] }:=⟨_,rfl⟩;have hyl1:eq R1.yes=eq R.yes+1:=by rw[hR1];simp
 have o1:NI c q z (k+1) R1 L D:=by
  rw[hR1];exact o.r { o.rb.up (aau k) with yes:=by show eq (R.yes++[m.frm])<=_;simp;omega }
 rw[<-hR1];have e30:(eq R.yes+1)=eq R1.yes:=hyl1.symm
 have o30':aZ g30 ao30 (eq R1.yes) c30 3 1 (iv R1.yes):=by
  rw[hyl1,hR1];simpa[iv] using o30
 refine WL.h 6 (pt rb (aW lb R1 ⟨.slice ao30 (eq R1.yes) c30,sv,sd,so,f0,f1,f2⟩) RT) ?_ (.there (.there (.there (.there (.there (.there (.here (by rw[hyl1,hR1];rfl))))))));refine ci (.inl qk) ?_;refine aM qk 0 I (th (WC.drop (WC.join [g30,hd,hq] fun dj'=>WC.perm (aal [_] [_,_,_,_] hs) ?_)));have G1:gt K19 rb R1 ⟨.slice ao30 (eq R1.yes) c30,sv,sd,so,f0,f1,f2⟩ (cZ [g30,hd,hq]):=⟨g30,hd,hq,rfl,dj',⟨ao30,c30,rfl,o30'⟩,by rw[hR1];exact v,by rw[hR1];exact d,by rw[hR1];exact ou,f⟩;refine au ?_;refine cl 0 I (Ct.at3 [_,_] (BF ⟨hL,G1⟩ o1 qo qo L.cfg.1 hcf.len ao cap x)) ?_;rintro v35 K35 hs35 ⟨_,_,_,rfl,⟨s2,rfl,le2,I2⟩,rfl⟩;refine fin 1 I (acK (WQ.drop (WQ.drop ?_)));exact ah I I ⟨_,_,_,I,⟨s2,I,le1.trans le2,I2⟩,I⟩
def GP(o:NI c q z k R L D)(hc:c<=700000000)(hL:dG K lb db L D lh)(m:aB)(hb:m.bd)(p:MA)(hS:dr K m p):
  aj w0 141 [Nr rb,.agg (mv m p)] K (pt rb (aW lb R s) RT::lh::hs) (fun v K' hs'=>∃ a b,hs'=a::b::hs/\K'=K/\a=pt rb (aW lb R s) RT/\b=lh/\v=.bool (R.clashes L m)):=by
 have xs:=hS.1.slS;obtain ⟨ys,hys⟩:=xs.isS;have hel:=hb.entsL;refine ent Tryz.func141 ?_;refine acI ?_;refine bx 0 I fun b3=>?_;refine au ?_;refine bQ [1,0] 12 [0,2,4,6,8,10,13,14,16,18,20,22] ?_;refine au ?_;refine cl 0 I (Ct.keep 2 I (lO lb db L D c o.rn.lb qo hL m.idx (by have:=hb.idx;unfold ac at this;omega))) ?_;rintro v18 K18 hs18 ⟨rfl,rfl,rfl⟩;obtain ⟨⟨tt,tb⟩,ht⟩:∃ x,x=L.trm m.idx:=⟨_,rfl⟩;rw[show trm L.sn L.l m.idx=(tt,tb) from ht.symm];refine ba Nm I ?_;refine aM qk 5 I (th ?_);have hcl0:iK L R.com m.idx m.lt=(decide (m.idx<=R.com) && (tb && decide (tt≠m.lt))):=by unfold iK;rw[<-ht]
 refine jn (σ:=Unit) (fun _=>[(0,Nr rb),(3,Nr b3),(4,.bool false)]) (fun _=>pt b3 (mv m p) 34::pt rb (aW lb R s) RT::lh::hs) (fun _=>iK L R.com m.idx m.lt=false) ?_ ?_
 ·refine sq (bQ [1,0] 16 [0,2,4,6,8,10,12,14,16,18,20,22,24,26,28,30] ?_);refine au ?_;refine dN qk 0 (m.idx<=R.com) I Nm (fun h1=>?_) (fun h1=>?_)
  ·cases tb with
   | true=>
    refine au ?_;refine dC qk 0 (tt≠m.lt) I (by simp;omega) fun b35 h35=>?_;refine au ?_;refine ax h35 I (fun h2=>?_) (fun h2=>?_)
    ·refine acI ?_;refine fin 1 I (acK (rT (WQ.drop ?_)));exact ah I I ⟨_,_,I,I,I,I,by unfold Nd.clashes;rw[hcl0];simp[h1,h2]⟩
    refine sk ?_;exact jx () (by rw[hcl0];simp[h2]) sb rfl rfl
   | false=>
    refine aM qk 9 I (th (bY I (sk ?_)));exact jx () (by rw[hcl0];simp) sb rfl rfl
  refine aM qk 9 I (th (bY I (sk ?_)));exact jx () (by rw[hcl0];simp[h1]) sb rfl rfl
 rintro _ hc0;refine au ?_
 refine loop (σ:=Nat) (fun j=>[(0,Nr rb),(3,Nr b3),(4,.bool false),(38,.slice p.ae (eq m.ents) p.ce),(39,.int .i64 (eq m.ents)),(40,.int .i64 (j:Nat))]) (fun _=>K18) (fun _=>pt b3 (mv m p) 34::pt rb (aW lb R s) RT::lh::hs)
  (fun j=>j<=eq m.ents/\∀ e∈m.ents.take j,iK L R.com e.idx e.term=false) (fun j=>eq m.ents-j) 0 ⟨aad _,Nm⟩ ⟨rfl,rfl,rfl,rfl,rfl,rfl,trivial⟩ rfl rfl ?_
 rintro j ⟨hj,hno⟩;refine acI ?_;refine ai 0 I fun b41 h41=>?_;refine au ?_;refine ax h41 I (fun e4=>?_) (fun e4=>?_)
 ·have hjx:j<eq m.ents:=qo
  obtain ⟨e,he⟩:∃ e,m.ents[j]?=some e:=⟨_,aai hjx⟩;have hem:=aao he;obtain ⟨q1,q2,q3⟩:=hb.ents e hem
  have hnext:iK L R.com e.idx e.term=false->j+1<=eq m.ents/\∀ e∈m.ents.take (j+1),iK L R.com e.idx e.term=false:=fun h=>⟨qo,fun y hy=>by
   rw[aaK,he] at hy;rcases aaj.1 hy with hy|hy
   ·exact hno y hy
   simp at hy;rw[hy];exact h⟩
  obtain ⟨a,ha⟩:=xs.addr qo Nn;rw[ha] at xs hys;obtain ⟨cc,⟨ae,ce,rfl,xe⟩,_,hcell⟩:=xs.cells he;refine au ?_;refine fj 0 j (by rw[ha];rfl) rfl hys hjx Nn fun a42 h42=>?_;cases h42;refine fW 0 (e.v ae ce).toList I qk (.inl I) hcell ?_;refine al 0 (.agg #[.int .u64 0,.int .u64 0,.int .i64 0,.slice none 0 0]) I qk fun b8=>?_;refine bJ 0 0 I I qk I I ?_;refine WL.hs (pt b8 (e.v ae ce) 51::pt b3 (mv m p) 34::pt rb (aW lb R s) RT::lh::hs) (by simp[af.v]) ?_;refine au ?_;refine bQ [2,0] 12 [0,2,4,6,8,10,13,14,16,18,20,22] ?_;refine au ?_;refine cl 0 I (Ct.keep 3 I (lO lb db L D c o.rn.lb qo hL e.idx (by unfold ac at q1;omega))) ?_;rintro v51 K51 hs51 ⟨rfl,rfl,rfl⟩;obtain ⟨⟨ut,ub⟩,hu⟩:∃ x,x=L.trm e.idx:=⟨_,rfl⟩;rw[show trm L.sn L.l e.idx=(ut,ub) from hu.symm];have hcl1:iK L R.com e.idx e.term=(decide (e.idx<=R.com) && (ub && decide (ut≠e.term))):=by unfold iK;rw[<-hu]
  refine ba Nm I ?_;refine aM qk 5 I (th (sq (bQ [2,0] 16 [0,2,4,6,8,10,12,14,16,18,20,22,24,26,28,30] ?_)));refine au ?_;refine dN qk 0 (e.idx<=R.com) I Nm (fun h1=>?_) (fun h1=>?_)
  ·cases ub with
   | true=>
    refine au ?_;refine dC qk 0 (ut≠e.term) I (by simp;omega) fun b68 h68=>?_;refine au ?_;refine ax h68 I (fun h2=>?_) (fun h2=>?_)
    ·refine acI ?_;refine fin 1 I (acK (rB (rT (rT (rB (rT (WQ.drop (WQ.drop ?_))))))));refine ah I I ⟨_,_,I,I,I,I,?_⟩;unfold Nd.clashes;rw[hc0,Bool.false_or,List.any_eq_true.2 ⟨e,hem,by rw[hcl1];simp[h1,h2]⟩]
    refine sk (acG ?_);refine ar 0 I (aC (x:=((j+1:Nat):Int)) qo) ?_;refine fin 1 I (WQ.drop ?_);exact bw (x:=j) (j+1) ⟨I,I,I,by rw[ha];rfl,rfl,rfl,trivial⟩ rfl rfl (hnext (by rw[hcl1];simp[h2])) qo
   | false=>
    refine au ?_;refine ar 0 I (aC (x:=((j+1:Nat):Int)) qo) ?_;refine fin 1 I (WQ.drop ?_);exact bw (x:=j) (j+1) ⟨I,I,I,by rw[ha];rfl,rfl,rfl,trivial⟩ rfl rfl (hnext (by rw[hcl1];simp)) qo
  refine au ?_;refine ar 0 I (aC (x:=((j+1:Nat):Int)) qo) ?_;refine fin 1 I (WQ.drop ?_);exact bw (x:=j) (j+1) ⟨I,I,I,by rw[ha];rfl,rfl,rfl,trivial⟩ rfl rfl (hnext (by rw[hcl1];simp[h1])) qo
 obtain rfl:j=eq m.ents:=qo
 rw[aaE] at hno;refine ex (xt (xt (xb (acF ?_))));refine fin 1 I (acK (WQ.drop ?_));refine ah I I ⟨_,_,I,I,I,I,?_⟩;unfold Nd.clashes;rw[hc0,Bool.false_or,List.any_eq_false.2 (fun e he=>by rw[hno e he];simp)]
end
end
section
def F4(R:Nd)(v:Int)(p q:Pr):(R.setP v p).setP v q=R.setP v q:=by
 unfold Nd.setP;simp only[Nd.mk.injEq,true_and,and_true]
 funext i
 split <;> rfl
def A1(R:Nd)(j:Nat)(p:Pr):(R.setP (j:Int) p).pr j=p:=by rw[A2,aab rfl]
def jh(lb:Nat)(R:Nd)(s:NS){j:Nat}(hj:j<7)(p:Pr){k:Nat}{v:Value}(h:(kw p [])[k]?=some v):(aW lb (R.setP (j:Int) p) s)[10+j*5+k]?=some v:=iI lb _ s hj (by rw[A1];exact h)
def nH(lb:Nat)(R:Nd)(s:NS){j:Nat}(hj:j<7)(p0 p:Pr):
  (p.nx=p0.nx/\p.rd=p0.rd/\p.ws=p0.ws/\p.of=p0.of->(aW lb (R.setP (j:Int) p0) s).setIfInBounds (10+j*5) (.int .u64 p.mt)=aW lb (R.setP (j:Int) p) s) /\
  (p.mt=p0.mt/\p.rd=p0.rd/\p.ws=p0.ws/\p.of=p0.of->(aW lb (R.setP (j:Int) p0) s).setIfInBounds (10+j*5+1) (.int .u64 p.nx)=aW lb (R.setP (j:Int) p) s) /\
  (p.mt=p0.mt/\p.nx=p0.nx/\p.ws=p0.ws/\p.of=p0.of->(aW lb (R.setP (j:Int) p0) s).setIfInBounds (10+j*5+2) (.int .u64 p.rd)=aW lb (R.setP (j:Int) p) s) /\
  (p.mt=p0.mt/\p.nx=p0.nx/\p.rd=p0.rd/\p.of=p0.of->(aW lb (R.setP (j:Int) p0) s).setIfInBounds (10+j*5+3) (.bool p.ws)=aW lb (R.setP (j:Int) p) s) /\
  (p.mt=p0.mt/\p.nx=p0.nx/\p.rd=p0.rd/\p.ws=p0.ws->(aW lb (R.setP (j:Int) p0) s).setIfInBounds (10+j*5+4) (.int .i64 p.of)=aW lb (R.setP (j:Int) p) s):=by
 have h:=pQ lb (R.setP (j:Int) p0) s hj p;rw[A1,F4] at h;exact h
def Dn(a b:Nat):(if (a:Int)<(b:Int) then (a:Int) else (b:Int))=((min b a:Nat):Int):=by split <;> omega
def sE(a b:Nat):(if (a:Int)>(b:Int) then (a:Int) else (b:Int))=((max b a:Nat):Int):=by split <;> omega
section
variable {w0:World} {K lh g:PH} {hs:List PH} {rb lb db c q z k:Nat} {R:Nd} {L:Lg} {D:Dk} {s:NS}
def zd(x:Int):aj w0 142 [Nr rb,.int .i64 x] K (pt rb (aW lb R s) RT::hs) (fun v K' hs'=>∃ a,hs'=a::hs/\K'=K/\a=pt rb (aW lb (R.foll x) s) RT/\v=.tuple #[]):=
 (z8 x).mono fun v K' hs' ⟨h1,h2,h3⟩=>⟨_,h2,h1,rfl,h3⟩
def L7(iN:di K rb lb db R L D s lh g)(o:NI c q z k R L D)(hc:c<=700000000)(hk:k<=500000)(m:aB)(hb:m.bd)(ho:m.ok)(hkd:m.kind=3)(p:MA)(hS:dr K m p):
  fF w0 K hs rb lb db R s lh g 76 [Nr rb,.agg (mv m p)] (R.app L D m).1 (R.app L D m).2.1 (R.app L D m).2.2.1 (.int .i64 (R.app L D m).2.2.2):=by
 have hf:=gx ho;have he8:=(lA ho hkd).2;have o1:=o.r (o.rb.foll (x:=m.frm) qo);have a:=o1.merge m.idx m.lt m.ents (fun e he=>⟨(hb.ents e he).1,(hb.ents e he).2.1⟩) he8 qo;unfold Nd.app;have hmg:=fun (hs':List PH)=>KQ (w0:=w0) (hs:=hs') lb db L D c o.rn.lb o.rn.ok iN.l m.idx m.lt hb.idx hb.lt p.ae p.ce m.ents hS.1.slS (fun e he=>⟨(hb.ents e he).1,(hb.ents e he).2.1,by have:=(hb.ents e he).2.2;omega⟩) qo;refine ent Tryz.func76 ?_;refine acI ?_;refine bx 0 I fun b3=>?_;refine au ?_;refine ai 0 I fun b12 h12=>?_
 refine' dx (q:=R.clashes L m=true) 1 4 17 [12,13] h12 I I I I I I I (fun _=>?x2) (fun b17 h17=>?_)
 case x2=>
  refine au ?_;refine cl 0 I (Ct.at2p [_] (GP o hc iN.l m hb p hS)) ?_;rintro v16 K16 hs16 ⟨_,_,rfl,rfl,rfl,rfl,rfl⟩;exact fin 1 I (bK Iff.rfl I I I)
 refine fin 0 I<|th (ax h17 I (fun e3=>?_) (fun e3=>?_))
 ·rw[aab e3];refine acI ?_;refine fin 1 I (acK (rT (WQ.drop ?_)));exact ah I I ⟨_,_,_,I,⟨s,I,Le.refl _,iN⟩,I⟩
 rw[aaa e3];generalize L.merge m.idx m.lt m.ents D=A at a hmg ⊢;obtain ⟨L1,D1,n,gd,c1⟩:=A;dsimp only at a hmg ⊢;obtain ⟨R1,hR1⟩:=be (R.foll m.frm);have hout:eq R1.out<=900000:=by rw[hR1];have:=o.rb.out;show eq R.out<=_;omega
 rw[<-hR1] at a ⊢;refine au ?_;refine cl 0 I (Ct.at 1 I (zd m.frm)) ?_;rintro v21 K21 hs21 ⟨_,rfl,rfl,rfl,rfl⟩;refine WL.hs (pt b3 (mv m p) 34::pt rb (aW lb R1 s) RT::lh::g::hs) (by rw[hR1];rfl) ?_;have I1:gt K21 rb R1 s g:=by rw[hR1];exact iN.g.r
 refine au ?_;refine bQ [1,0] 18 [0,2,4,6,8,10,12,14,16,18,21,22,24,26,28,30,32,34] ?_;refine au ?_;refine cl 0 I (Ct.at 2 I (hmg _)) ?_;rintro v33 K33 hs33 ⟨h2,rfl,le1,hL2,rfl⟩;refine WL.hs (pt b3 (mv m p) 34::pt rb (aW lb R1 s) RT::h2::g::hs) I ?_;refine eK Nm le1 ?_;refine au ?_;refine ai 1 I fun b38 h38=>?_
 refine' dx (q:=c1=181) 1 3 42 [38,39] h38 I I I I I I I (fun _=>?x5) (fun b42 h42=>?_)
 case x5=>
  refine ai 1 I fun b41 h41=>?_;exact fin 1 I (bK h41 I I I)
 refine fin 0 I<|th (ax h42 I (fun e7=>?_) (fun e7=>?_))
 ·rw[aab e7];refine acI ?_;refine fin 1 I (acK (rT (WQ.drop ?_)));exact ah I I ⟨_,_,_,I,⟨s,I,le1,hL2,I1.le le1⟩,I⟩
 rw[aaa e7];refine au ?_;refine ai 1 I fun b44 h44=>?_
 refine' dU (q:=gd=true) 1 2 47 [44,45] h44 I I I I I I I (fun _=>?x9) (fun b47 h47=>?_)
 case x9=>
  exact fin 2 I<|bK Iff.rfl I I I
 refine fin 0 I<|th (ax h47 I (fun e10=>?_) (fun e10=>?_))
 ·obtain ⟨rfl,rfl⟩:=e10;rw[aaa Nm,aaa Nm];have b:=a.sync;have hsy:=fun (hs':List PH)=>B4 (w0:=w0) (hs:=hs') lb db L1 D1 (c+98) a.rn.lb qo a.rn.ok hL2;generalize L1.sync D1=B at b hsy ⊢;obtain ⟨L2,D2,c2⟩:=B;dsimp only at b hsy ⊢;refine au ?_;refine cl 0 I (Ct.at 2 I (hsy _)) ?_;rintro v52 K52 hs52 ⟨h3,rfl,le2,hL3,rfl⟩;refine WL.hs (pt b3 (mv m p) 34::pt rb (aW lb R1 s) RT::h3::g::hs) I ?_;refine au ?_;refine cl 2 I (Ct.at3 [_] (kL (lh:=h3) ((I1.le le1).le le2) c2)) ?_;rintro v55 K55 hs55 ⟨_,lh,g1,rfl,rfl,⟨s1,rfl,G1⟩,rfl,rfl⟩;refine ai 0 I fun b56 h56=>?_;refine fin 0 I (th (ax h56 I (fun e12=>?_) (fun e12=>?_)))
  ·rw[aab e12];refine acI ?_;refine fin 2 I (acK (rT (WQ.drop ?_)));exact ah I I ⟨_,_,_,I,⟨s1,I,le1.trans le2,hL3,G1⟩,I⟩
  obtain rfl:c2=0:=Decidable.not_not.1 e12;rw[aaa Nm];rw[show R1.did 0=R1 from rfl] at G1 ⊢;unfold Nd.appE;rw[aab rfl];refine au ?_;refine bQ [1,0] 12 [0,2,4,6,8,10,12,14,16,18,20,22,25] ?_;refine bP qk 4 0 I qk I I ?_;refine bP qk 1 1 I qk I I ?_;refine aJ qk 5 I ?_;refine stp 0 1 I I I I ?_;refine WL.h 1 (pt rb (aW lb { R1 with com:=max R1.com (min m.com n) } s1) RT) ?_ (.there (.here (by rw[show (if (if (n:Int)<(m.com:Int) then (n:Int) else (m.com:Int))>(R1.com:Int) then (if (n:Int)<(m.com:Int) then (n:Int) else (m.com:Int)) else (R1.com:Int))=((max R1.com (min m.com n):Nat):Int) from by split <;> split at * <;> omega];rfl)));refine au ?_;refine bd 0 (.agg (mv { aB.zero with kind:=4,to:=m.frm,good:=true,idx:=n,rnd:=m.rnd } ⟨none,0,none,0,none,0⟩)) I (fun w=>by kernel_rfl) ?_;refine cl 0 I (Ct.at3 [_] (iZ (R:={ R1 with com:=max R1.com (min m.com n) }) ⟨hL3,G1.r⟩ (by show eq R1.out<=_;omega) _ _ ⟨eO.nil _ _ _,aw.nil _ _ _ _,aw.nil _ _ _ _⟩)) ?_
  rintro v79 K79 hs79 ⟨_,_,_,rfl,⟨s2,rfl,le3,I3⟩,rfl⟩;refine fin 0 I (acF ?_);refine fin 1 I (acK (WQ.drop ?_));exact ah I I ⟨_,_,_,I,⟨s2,I,(le1.trans le2).trans le3,I3⟩,I⟩
 refine au ?_;refine cl 2 I (Ct.at3 [_] (kL (lh:=h2) (I1.le le1) c1)) ?_;rintro v55 K55 hs55 ⟨_,lh,g1,rfl,rfl,⟨s1,rfl,G1⟩,rfl,rfl⟩;refine ai 0 I fun b56 h56=>?_;refine fin 0 I (th (ax h56 I (fun e12=>?_) (fun e12=>?_)))
 ·rw[aab e12];refine acI ?_;refine fin 2 I (acK (rT (WQ.drop ?_)));exact ah I I ⟨_,_,_,I,⟨s1,I,le1,hL2,G1⟩,I⟩
 obtain rfl:c1=0:=Decidable.not_not.1 e12
 obtain rfl:gd=false:=by
  cases gd with
  | true=>exact absurd ⟨rfl,rfl⟩ e10
  | false=>rfl
 rw[aaa Nm,aab rfl];rw[show R1.did 0=R1 from rfl] at G1 ⊢;unfold Nd.appE;rw[aaa Nm];refine au ?_;refine bd 0 (.agg (mv { aB.zero with kind:=4,to:=m.frm,good:=false,idx:=n,rnd:=m.rnd } ⟨none,0,none,0,none,0⟩)) I (fun w=>by kernel_rfl) ?_;refine cl 0 I (Ct.at3 [_] (iZ ⟨hL2,G1⟩ qo _ _ ⟨eO.nil _ _ _,aw.nil _ _ _ _,aw.nil _ _ _ _⟩)) ?_;rintro v79 K79 hs79 ⟨_,_,_,rfl,⟨s2,rfl,le3,I3⟩,rfl⟩;refine fin 0 I (acF ?_);refine fin 1 I (acK (WQ.drop ?_));exact ah I I ⟨_,_,_,I,⟨s2,I,le1.trans le3,I3⟩,I⟩
def Lr(iN:di K rb lb db R L D s lh g)(o:NI c q z k R L D)(hc:c<=700000000)(hk:k<=500000)(m:aB)(hb:m.bd)(hf:0<=m.frm/\m.frm<7)(p:MA):
  fF w0 K hs rb lb db R s lh g 77 [Nr rb,.agg (mv m p)] (R.appended L m) L D (.tuple #[]):=by
 have hlast:=o.last qo;obtain ⟨j,hj⟩:∃ j:Nat,m.frm=(j:Int):=⟨m.frm.toNat,qo⟩;have hj7:j<7:=qo
 have hpr:=o.rb.pr j;unfold Pr.ok at hpr;unfold cM at hpr hlast;have hrn:=hb.rnd;have hcf:fS L.cfg.1:=iV o.rn.lb o.cf L.last;unfold ac at hrn;unfold Nd.appended;refine ent Tryz.func77 ?_;refine acI ?_;refine bx 0 I fun b3=>?_;refine au ?_;refine ai 0 I fun b11 h11=>?_;refine fin 0 I (th (ax h11 I (fun e2=>?_) (fun e2=>?_)))
 ·rw[aab e2];refine rt (rT (WQ.drop ?_));exact kQ I ⟨_,_,_,I,⟨s,I,Le.refl _,iN⟩,I⟩
 rw[aaa e2];refine sk (th (sq (bQ [0] 7 [0,2,4,6,8,10,12] ?_)));refine au ?_;refine od (sz:=5) (a:=⟨rb,10,none⟩) qk 2 j I Tryz.underlying101 qk hj hj7 ?_;rw[bf];refine au ?_;refine stp 3 1 I I (iI lb R s hj7 (k:=3) I) I ?_;have hS:∀ p,di K rb lb db (R.setP (j:Int) p) L D s lh g:=fun p=>⟨iN.l,iN.g.r⟩;refine WL.h 1 (pt rb (aW lb (R.setP (j:Int) { R.pr j with ws:=false }) s) RT) ?_ (.there (.here (by rw[<-(pQ lb R s hj7 { R.pr j with ws:=false }).2.2.2.1 ⟨rfl,rfl,rfl,rfl⟩])));refine au ?_;refine bQ [1,0] 15 [0,2,4,6,8,10,12,14,16,18,20,22,24,26,28,31] ?_;refine bP qk 4 0 I qk I (jh lb R s hj7 _ (k:=2) I) ?_;refine bP qk 1 1 I qk I I ?_;refine bP qk 3 0 (v:=.int .u64 R.rnd) I qk I I ?_;refine au ?_;refine stp 0 1 I I (jh lb R s hj7 _ (k:=2) I) I ?_
 refine WL.h 1 (pt rb (aW lb (R.setP (j:Int) { R.pr j with ws:=false,rd:=max (R.pr j).rd (min m.rnd R.rnd) }) s) RT) ?_ (.there (.here (by
  rw[<-(nH lb R s hj7 { R.pr j with ws:=false } { R.pr j with ws:=false,rd:=max (R.pr j).rd (min m.rnd R.rnd) }).2.2.1 ⟨rfl,rfl,rfl,rfl⟩,<-sE,<-Dn])))
 refine ci (.inl qk) ?_;refine aM qk 0 I (th ?_);have hA:di K rb lb db (R.appd1 L m) L D s lh g->True:=fun _=>trivial
 refine jR (σ:=PH×NS×PH×PH) (fun _=>[(0,Nr rb),(3,Nr b3),(4,.pointer (some ⟨rb,10+j*5,none⟩))]) (fun u=>u.1) (fun u=>pt b3 (mv m p) 34::pt rb (aW lb (R.appd1 L m) u.2.1) RT::u.2.2.1::u.2.2.2::hs)
  (fun u=>Le K u.1/\di u.1 rb lb db (R.appd1 L m) L D u.2.1 u.2.2.1 u.2.2.2) ?_ ?_
 ·unfold Nd.appd1;rw[show R.p m.frm=R.pr j from by rw[hj];rfl,hj];dsimp only;refine au ?_;refine fe I (fun e3=>?_) (fun e3=>?_)
  ·rw[aab e3];refine sq (bQ [1,0] 16 [0,2,4,6,8,10,12,14,16,18,20,23,24,26,28,30,33] ?_);refine bP qk 4 0 I qk I (jh lb R s hj7 _ (k:=0) I) ?_;refine au ?_;refine cl 0 I (Ct.keep 2 I (j8 lb db L D c o.rn.lb qo iN.l)) ?_;rintro v49 K49 hs49 ⟨rfl,rfl,rfl⟩;refine ba Nm I ?_;refine aJ qk 4 I ?_;refine stp 0 1 I I (jh lb R s hj7 _ (k:=0) I) I ?_
   refine WL.h 1 (pt rb (aW lb (R.setP (j:Int) { R.pr j with ws:=false,rd:=max (R.pr j).rd (min m.rnd R.rnd),mt:=max (R.pr j).mt (min m.idx L.last) }) s) RT) ?_ (.there (.here (by
    rw[<-(nH lb R s hj7 { R.pr j with ws:=false,rd:=max (R.pr j).rd (min m.rnd R.rnd) } { R.pr j with ws:=false,rd:=max (R.pr j).rd (min m.rnd R.rnd),mt:=max (R.pr j).mt (min m.idx L.last) }).1 ⟨rfl,rfl,rfl,rfl⟩,<-sE,<-Dn]
    rfl)))
   refine au ?_;refine bQ [1] 13 [0,2,4,6,8,10,12,14,16,18,20,22,24,27] ?_;refine bP qk 4 0 I qk I (jh lb R s hj7 _ (k:=1) I) ?_;refine bP qk 3 0 I qk I (jh lb R s hj7 _ (k:=0) I) ?_;refine bA qk 0 I (bL (x:=((max (R.pr j).mt (min m.idx L.last)+1:Nat):Int)) qo) ?_;refine au ?_;refine stp 0 1 I I (jh lb R s hj7 _ (k:=1) I) I ?_;obtain ⟨R4,hR4⟩:=be (R.setP (j:Int) { R.pr j with ws:=false,rd:=max (R.pr j).rd (min m.rnd R.rnd),mt:=max (R.pr j).mt (min m.idx L.last),nx:=max (R.pr j).nx (max (R.pr j).mt (min m.idx L.last)+1) })
   refine WL.h 1 (pt rb (aW lb R4 s) RT) ?_ (.there (.here (by
    rw[hR4,<-(nH lb R s hj7 { R.pr j with ws:=false,rd:=max (R.pr j).rd (min m.rnd R.rnd),mt:=max (R.pr j).mt (min m.idx L.last) } { R.pr j with ws:=false,rd:=max (R.pr j).rd (min m.rnd R.rnd),mt:=max (R.pr j).mt (min m.idx L.last),nx:=max (R.pr j).nx (max (R.pr j).mt (min m.idx L.last)+1) }).2.1 ⟨rfl,rfl,rfl,rfl⟩,<-sE])))
   refine au ?_;rw[<-hR4]
   have o4:NI c q z k R4 L D:=by
    rw[hR4];refine o.r (o.rb.setP _ ?_);unfold Pr.ok cM ac;dsimp only;have h9:=hpr.2.2.1;unfold ac at h9;omega
   refine cl 1 I (Ct.at3 [_] (BU (R:=R4) (by rw[hR4];exact hS _) o4 qo qo)) ?_;rintro v68 K68 hs68 ⟨_,_,_,rfl,⟨s2,rfl,le1,I2⟩,rfl⟩;refine fin 0 I ?_;exact fb (K68,s2,_,_) ⟨le1,I2⟩ ⟨I,I,I,trivial⟩ I I
  rw[aaa (by simp[e3])];refine sq (bQ [1,0] 14 [0,2,4,6,8,10,12,14,16,18,20,23,24,26,29] ?_);refine bP qk 4 0 I qk I (jh lb R s hj7 _ (k:=1) I) ?_;refine bP qk 3 0 I qk I (jh lb R s hj7 _ (k:=0) I) ?_;refine au ?_;refine cl 0 I (Ln (R.pr j).nx (R.pr j).mt m.idx qo qo) ?_;rintro v80 K80 hs80 ⟨rfl,rfl,rfl⟩;refine ba Nm I ?_;refine aJ qk 2 I ?_;refine stp 0 1 I I (jh lb R s hj7 _ (k:=1) I) I ?_
  refine WL.h 1 (pt rb (aW lb (R.setP (j:Int) { R.pr j with ws:=false,rd:=max (R.pr j).rd (min m.rnd R.rnd),nx:=kM (R.pr j).nx (R.pr j).mt m.idx }) s) RT) ?_ (.there (.here (by
   rw[<-(nH lb R s hj7 { R.pr j with ws:=false,rd:=max (R.pr j).rd (min m.rnd R.rnd) } { R.pr j with ws:=false,rd:=max (R.pr j).rd (min m.rnd R.rnd),nx:=kM (R.pr j).nx (R.pr j).mt m.idx }).2.1 ⟨rfl,rfl,rfl,rfl⟩])))
  refine au ?_;refine stp 3 1 I I (jh lb R s hj7 _ (k:=4) I) I ?_
  refine WL.h 1 (pt rb (aW lb (R.setP (j:Int) { R.pr j with ws:=false,rd:=max (R.pr j).rd (min m.rnd R.rnd),nx:=kM (R.pr j).nx (R.pr j).mt m.idx,of:=0 }) s) RT) ?_ (.there (.here (by
   rw[<-(nH lb R s hj7 { R.pr j with ws:=false,rd:=max (R.pr j).rd (min m.rnd R.rnd),nx:=kM (R.pr j).nx (R.pr j).mt m.idx } { R.pr j with ws:=false,rd:=max (R.pr j).rd (min m.rnd R.rnd),nx:=kM (R.pr j).nx (R.pr j).mt m.idx,of:=0 }).2.2.2.2 ⟨rfl,rfl,rfl,rfl⟩])))
  refine fin 0 I ?_;exact fb (K80,s,_,_) ⟨Le.refl _,hS _⟩ ⟨I,I,I,trivial⟩ I I
 rintro ⟨K5,s5,l5,g5⟩ ⟨le5,I5⟩;dsimp only at le5 I5 ⊢;have o5:NI c q z (k+8) (R.appd1 L m) L D:=o.appd1 qo m hb;generalize R.appd1 L m=R5 at I5 o5 ⊢;unfold Nd.appd2;rw[show R5.p m.frm=R5.pr j from by rw[hj];rfl];obtain ⟨bq,hbq⟩:=be (decide (R5.role=2/\(m.good=false\/(R5.pr j).nx<=L.last)));refine jn (σ:=Unit) (fun _=>[(0,Nr rb),(3,Nr b3),(107,.bool bq)]) (fun _=>pt b3 (mv m p) 34::pt rb (aW lb R5 s5) RT::l5::g5::hs) (fun _=>True) ?_ ?_
 ·refine bQ [1,0] 22 [0,2,4,6,8,10,12,14,16,18,20,22,24,26,28,30,32,34,37,38,40,42] ?_;refine au ?_;refine dN qk 0 (R5.role=2) I Nm (fun h4=>?_) (fun h4=>?_)
  ·refine bS qk 2 1 (v:=.bool m.good) I I I ?_;cases hg:m.good with
   | false=>
    refine aJ qk 10 I ?_;refine WL.pures 1 I ?_;refine ba Nm I ?_;refine aM qk 3 I ?_;exact jx () trivial ⟨I,I,by rw[hbq,decide_eq_true ⟨h4,.inl hg⟩];rfl,trivial⟩ rfl rfl
   | true=>
    refine bS qk 5 0 I I (iI lb R5 s5 hj7 (k:=1) I) ?_;refine au ?_;refine cl 0 I (Ct.keep 2 I (j8 lb db L D c o.rn.lb qo I5.l)) ?_;rintro v104 K104 hs104 ⟨rfl,rfl,rfl⟩;refine ba Nm I ?_;refine dC qk 0 ((R5.pr j).nx<=L.last) I (by unfold Lg.last;simp;omega) fun b105 h105=>?_;refine au ?_
    have e:b105=bq:=by
     rw[hbq,aaS,h105,decide_eq_true_iff];simp[h4,hg]
    exact jx () trivial ⟨I,I,by rw[<-e];rfl,trivial⟩ rfl rfl
  refine aJ qk 13 I ?_;refine WL.pures 1 I ?_;refine ba Nm I ?_;refine aM qk 3 I ?_;exact jx () trivial ⟨I,I,by rw[hbq,decide_eq_false (fun h=>h4 h.1)];rfl,trivial⟩ rfl rfl
 rintro _ _;refine fe I (fun h=>?_) (fun h=>?_)
 ·rw[h] at hbq;have hbq:=of_decide_eq_true hbq.symm;refine acI ?_;refine cl 1 I (Ct.at2p [_] (l9 o5 qo I5.l)) ?_;rintro v110 K110 hs110 ⟨_,lh,rfl,rfl,rfl,le6,ao,cap,rfl,x⟩;refine al 3 (.agg #[.slice none 0 0]) I qk fun b5=>?_;refine bJ 0 0 I I qk I I ?_;refine WL.hs (pt b5 #[.slice ao (eq L.cfg.1) cap] 46::pt b3 (mv m p) 34::pt rb (aW lb R5 s5) RT::lh::g5::hs) I ?_;refine au ?_;refine cl 0 I (rf (.inl I) ao cap L.cfg.1 x (by have:=hcf.len;omega) m.frm) ?_;rintro v116 K116 hs116 ⟨rfl,rfl,rfl⟩;refine fin 0 I (th (fe I (fun e6=>?_) (fun e6=>?_)))
  ·rw[aab ⟨hbq.1,hbq.2,of_decide_eq_true e6⟩,hj];refine rg ?_;refine a9 2 1 (v:=.int .i64 (j:Nat)) I I (by rw[<-hj];rfl) ?_;refine cl 0 I (Ct.at3 [_,_] (rI (I5.le le6) o5 qo qo j hj7)) ?_;rintro v120 K120 hs120 ⟨_,_,_,rfl,⟨s6,rfl,le7,I7⟩,rfl⟩;refine fin 0 I (WQ.drop (WQ.drop ?_));exact dA I ⟨_,_,_,I,⟨s6,I,(le5.trans le6).trans le7,I7⟩,I⟩
  rw[aaa (fun h=>by simp[h.2.2] at e6)];refine sk (WQ.drop (WQ.drop ?_));exact dA I ⟨_,_,_,I,⟨s5,I,le5.trans le6,I5.le le6⟩,I⟩
 rw[h] at hbq;have hbq:=of_decide_eq_false hbq.symm;rw[aaa (fun h=>hbq ⟨h.1,h.2.1⟩)];refine sk (WQ.drop ?_);exact dA I ⟨_,_,_,I,⟨s5,I,le5,I5⟩,I⟩
end
end
section
section
variable {w0:World} {K lh g:PH} {hs:List PH} {rb lb db c q z k:Nat} {R:Nd} {L:Lg} {D:Dk} {s:NS}
def GQ(iN:di K rb lb db R L D s lh g)(o:NI c q z k R L D)(hc:c<=700000000)(hk:k<=500000)(m:aB)(ho:m.ok)(hkd:m.kind=6)(p:MA):
  fF w0 K hs rb lb db R s lh g 79 [Nr rb,.agg (mv m p)] (R.chunked L m) L D (.tuple #[]):=by
 have hf:=gx ho;have hoff:=vu ho (.inr hkd);obtain ⟨j,hj⟩:∃ j:Nat,m.frm=(j:Int):=⟨m.frm.toNat,qo⟩;have hj7:j<7:=qo
 unfold Nd.chunked;rw[show R.p m.frm=R.pr j from by rw[hj];rfl];obtain ⟨bq,hbq⟩:=be (decide (R.role≠2\/m.idx≠L.sn.idx\/m.idx<(R.pr j).nx));refine ent Tryz.func79 ?_;refine acI ?_;refine bx 0 I fun b3=>?_;refine WL.h 0 (pt b3 (mv m p) 34) ?_;refine au ?_;refine bQ [0] 7 [0,2,4,6,8,10,12] ?_;refine au ?_;refine od (sz:=5) (a:=⟨rb,10,none⟩) qk 2 j I Tryz.underlying101 qk hj hj7 ?_;rw[bf];refine aM qk 1 I (th (sq ?_));refine jR (σ:=PH) (fun _=>[(0,Nr rb),(3,Nr b3),(4,.pointer (some ⟨rb,10+j*5,none⟩)),(35,.bool bq)]) (fun u=>u) (fun u=>pt b3 (mv m p) 34::pt rb (aW lb R s) RT::lh::g::hs) (fun u=>Le K u) ?_ ?_
 ·refine bQ [1,0] 25 [0,2,4,6,8,10,12,14,16,18,20,22,25,26,28,30,32,34,36,38,40,42,44,46,48] ?_;refine au ?_;refine dN qk 0 (R.role≠2) I Nm (fun h1=>?_) (fun h1=>?_)
  ·refine aJ qk 7 I ?_;refine WL.pures 1 I ?_;refine ba Nm I ?_;refine aM qk 12 I ?_;exact fb K (Le.refl _) ⟨I,I,I,by rw[hbq,decide_eq_true (.inl h1)];rfl,trivial⟩ rfl rfl
  have h1':=Decidable.not_not.1 h1;refine au ?_;refine cl 0 I (Ct.at 2 I (pX lb db L D c o.rn.lb iN.l)) ?_;rintro v23 K23 hs23 ⟨h',rfl,hh,le,aV,cV,aD,cD,rfl,xV,xD⟩;subst hh;refine WL.hs (pt b3 (mv m p) 34::pt rb (aW lb R s) RT::h'::g::hs) I ?_;refine eK Nm le ?_;refine qf qk 0 (v:=.int .u64 L.sn.idx) I (fun A w ha _=>nJ (t:=48) (x:=.tmp 23) (i:=0) (v:=.agg (cP L.sn aV cV aD cD)) I I (fun w=>by kernel_rfl) A w ha) ?_;refine dN qk 0 (m.idx≠L.sn.idx) I (by simp;omega) (fun h2=>?_) (fun h2=>?_)
  ·refine aM qk 10 I ?_;exact fb K23 le ⟨I,I,I,by rw[hbq,decide_eq_true (.inr (.inl h2))];rfl,trivial⟩ rfl rfl
  refine bS qk 5 0 I I (iI lb R s hj7 (k:=1) I) ?_;refine au ?_;refine dC qk 0 (m.idx<(R.pr j).nx) I Nm fun b34 h34=>?_;refine au ?_
  have e:b34=bq:=by
   rw[hbq,aaS,h34,decide_eq_true_iff];simp[h1',Decidable.not_not.1 h2]
  exact fb K23 le ⟨I,I,I,by rw[<-e];rfl,trivial⟩ rfl rfl
 intro K2 le;dsimp only at le ⊢;refine fe I (fun h=>?_) (fun h=>?_)
 ·rw[h] at hbq;rw[aab (of_decide_eq_true hbq.symm)];refine rt (rT (WQ.drop ?_));exact kQ I ⟨_,_,_,I,⟨s,I,le,iN.le le⟩,I⟩
 rw[h] at hbq;rw[aaa (of_decide_eq_false hbq.symm),hj];have I1:=iN.le le;refine sk (acF ?_);refine stp 3 1 I I (iI lb R s hj7 (k:=3) I) I ?_;refine WL.h 1 (pt rb (aW lb (R.setP (j:Int) { R.pr j with ws:=false }) s) RT) ?_ (.there (.here (by rw[<-(pQ lb R s hj7 { R.pr j with ws:=false }).2.2.2.1 ⟨rfl,rfl,rfl,rfl⟩])));refine au ?_;refine stp 2 1 I I (jh lb R s hj7 _ (k:=4) I) I ?_
 refine WL.h 1 (pt rb (aW lb (R.setP (j:Int) { R.pr j with ws:=false,of:=m.off }) s) RT) ?_ (.there (.here (by
  rw[<-(nH lb R s hj7 { R.pr j with ws:=false } { R.pr j with ws:=false,of:=m.off }).2.2.2.2 ⟨rfl,rfl,rfl,rfl⟩]
  rfl)))
 have hpr:=o.rb.pr j;have o2:NI c q z k (R.setP (j:Int) { R.pr j with ws:=false,of:=m.off }) L D:=o.r (o.rb.setP _ ⟨hpr.1,hpr.2.1,hpr.2.2.1,hoff⟩);refine fin 0 I (acH ?_);refine a9 2 0 (v:=.int .i64 (j:Nat)) I I (by rw[<-hj];rfl) ?_;refine cl 0 I (Ct.at3 [_] (rI ⟨I1.l,I1.g.r⟩ o2 qo qo j hj7)) ?_;rintro v47 K47 hs47 ⟨_,_,_,rfl,⟨s2,rfl,le2,I2⟩,rfl⟩;refine fin 0 I (WQ.drop ?_);exact dA I ⟨_,_,_,I,⟨s2,I,le.trans le2,I2⟩,I⟩
end
end
section
def Nd.freshP(R:Nd)(m:aB):Nd:=if m.off=0\/R.pf≠m.frm\/R.ps.idx≠m.idx\/R.ps.term≠m.lt then { R with pf:=m.frm,ps:=⟨m.idx,m.lt,m.vot,[]⟩ } else R
def zQ(R:Nd)(m:aB):R.piece m=if m.off=eq (R.freshP m).ps.data then { R.freshP m with ps:={ (R.freshP m).ps with data:=(R.freshP m).ps.data++m.data } } else R.freshP m:=rfl
section
variable {w0:World} {K lh g:PH} {hs:List PH} {rb lb db c q z k:Nat} {R:Nd} {L:Lg} {D:Dk} {s:NS}
def JS(iN:di K rb lb db R L D s lh g)(o:NI c q z k R L D)(hc:c<=499900000)(hk:k<=500000)(hz:z<=1000000)(m:aB)(hb:m.bd)(ho:m.ok)(hkd:m.kind=5)(p:MA)(hS:dr K m p):
  fF w0 K hs rb lb db R s lh g 78 [Nr rb,.agg (mv m p)] (R.chunk L D m).1 (R.chunk L D m).2.1 (R.chunk L D m).2.2.1 (.int .i64 (R.chunk L D m).2.2.2):=by
 have hf:=gx ho;have hdl:=A9 ho hkd;have o1:Rb z k (R.foll m.frm):=o.rb.foll (x:=m.frm) qo;have hpl:=o.rb.ps.2.2.2;unfold Nd.chunk;refine ent Tryz.func78 ?_;refine acI ?_;refine bx 0 I fun b3=>?_;refine WL.h 0 (pt b3 (mv m p) 34) ?_;refine au ?_;refine ai 0 I fun b11 h11=>?_;refine fin 0 I (th (ax h11 I (fun e2=>?_) (fun e2=>?_)))
 ·rw[aab e2];refine acI ?_;refine fin 1 I (acK (rT (WQ.drop ?_)));exact ah I I ⟨_,_,_,I,⟨s,I,Le.refl _,iN⟩,I⟩
 rw[aaa e2];have hcom:(R.foll m.frm).com=R.com:=rfl;have hRl:(R.foll m.frm).ps=R.ps/\(R.foll m.frm).out=R.out:=⟨rfl,rfl⟩;rw[<-hcom];have hfo:=fun (hs':List PH)=>zd (w0:=w0) (K:=K) (hs:=hs') (rb:=rb) (lb:=lb) (R:=R) (s:=s) m.frm;have I1':gt K rb (R.foll m.frm) s g:=iN.g.r;have hL:=iN.l;have op:=o1.piece m hb ho hkd;have hou:=o.rb.out;rw[<-hRl.2] at hou;rw[<-hRl.1] at hpl;generalize R.foll m.frm=R1 at hfo I1' o1 hpl op hou ⊢;refine au ?_;refine cl 0 I (Ct.at 1 I (hfo _)) ?_;rintro v15 K15 hs15 ⟨_,rfl,rfl,rfl,rfl⟩;refine WL.hs (pt b3 (mv m p) 34::pt rb (aW lb R1 s) RT::lh::g::hs) I ?_;refine au ?_;refine bQ [1,0] 7 [0,2,4,6,8,10,12] ?_;refine au ?_;refine dC qk 0 (m.idx<=R1.com) I Nm fun b22 h22=>?_;refine au ?_;refine ax h22 I (fun e3=>?_) (fun e3=>?_)
 ·rw[aab e3];refine au ?_;refine bd 0 (.agg (mv { aB.zero with kind:=4,to:=m.frm,good:=true,idx:=m.idx } ⟨none,0,none,0,none,0⟩)) I (fun w=>by kernel_rfl) ?_;refine cl 0 I (Ct.at3 [_] (iZ ⟨hL,I1'⟩ qo _ _ ⟨eO.nil _ _ _,aw.nil _ _ _ _,aw.nil _ _ _ _⟩)) ?_;rintro v29 K29 hs29 ⟨_,_,_,rfl,⟨s2,rfl,le3,I3⟩,rfl⟩;refine fin 0 I (acF ?_);refine fin 1 I (acK (rT (WQ.drop ?_)));exact ah I I ⟨_,_,_,I,⟨s2,I,le3,I3⟩,I⟩
 rw[aaa e3];refine sk (acF ?_);refine fin 5 I (th ?_);refine jn (σ:=NS×PH) (fun _=>[(0,Nr rb),(3,Nr b3),(5,.pointer (some ⟨rb,46,none⟩))]) (fun u=>pt b3 (mv m p) 34::pt rb (aW lb (R1.freshP m) u.1) RT::lh::u.2::hs) (fun u=>gt K15 rb (R1.freshP m) u.1 u.2) ?_ ?_
 ·obtain ⟨bq,hbq⟩:=be (decide (m.off=0\/R1.pf≠m.frm\/R1.ps.idx≠m.idx\/R1.ps.term≠m.lt));unfold Nd.freshP;refine jn (σ:=Unit) (fun _=>[(0,Nr rb),(3,Nr b3),(5,.pointer (some ⟨rb,46,none⟩)),(64,.bool bq)]) (fun _=>pt b3 (mv m p) 34::pt rb (aW lb R1 s) RT::lh::g::hs) (fun _=>True) ?_ ?_
  ·refine bQ [1,0] 31 [0,2,4,6,8,10,12,14,16,18,20,22,24,26,28,30,32,34,36,38,40,42,44,46,48,50,52,54,56,58,60] ?_;refine au ?_;refine dN qk 0 (m.off=0) I Nm (fun h4=>?_) (fun h4=>?_)
   ·refine aM qk 28 I ?_;exact jx () trivial ⟨I,I,I,by rw[hbq,decide_eq_true (.inl h4)];rfl,trivial⟩ rfl rfl
   refine au ?_;refine dN qk 0 (R1.pf≠m.frm) I Nm (fun h5=>?_) (fun h5=>?_)
   ·refine aM qk 19 I ?_;exact jx () trivial ⟨I,I,I,by rw[hbq,decide_eq_true (.inr (.inl h5))];rfl,trivial⟩ rfl rfl
   refine au ?_;refine dN qk 0 (R1.ps.idx≠m.idx) I (by simp;omega) (fun h6=>?_) (fun h6=>?_)
   ·refine aM qk 10 I ?_;exact jx () trivial ⟨I,I,I,by rw[hbq,decide_eq_true (.inr (.inr (.inl h6)))];rfl,trivial⟩ rfl rfl
   refine au ?_;refine dC qk 0 (R1.ps.term≠m.lt) I (by simp;omega) fun b63 h63=>?_;refine au ?_
   have e:b63=bq:=by
    rw[hbq,aaS,h63,decide_eq_true_iff];simp[h4,Decidable.not_not.1 h5,Decidable.not_not.1 h6]
   exact jx () trivial ⟨I,I,I,by rw[<-e];rfl,trivial⟩ rfl rfl
  rintro _ _;refine fe I (fun h=>?_) (fun h=>?_)
  ·rw[h] at hbq;rw[aab (of_decide_eq_true hbq.symm)];refine au ?_;refine bd 0 (.agg #[.slice p.av (eq m.vot) p.cv]) I (fun w=>by kernel_rfl) ?_;refine bd 0 (.agg #[.int .u64 m.idx,.int .u64 m.lt,.slice p.av (eq m.vot) p.cv,.slice none 0 0]) I (fun w=>by kernel_rfl) ?_;refine bd 0 (.agg #[.int .i64 m.frm,.int .u64 m.idx,.int .u64 m.lt,.slice p.av (eq m.vot) p.cv,.slice none 0 0]) I (fun w=>by kernel_rfl) ?_;refine kq 2 1 (off:=45) (cs:=#[.int .i64 m.frm,.int .u64 m.idx,.int .u64 m.lt,.slice p.av (eq m.vot) p.cv,.slice none 0 0]) I I qk (by show 45+5<=54;omega) (fun v hv=>by simp at hv;rcases hv with rfl|rfl|rfl|rfl|rfl <;> rfl) ?_;obtain ⟨sy,sv,sd,sq',f0,f1,f2⟩:=s;refine WL.h 1 (pt rb (aW lb { R1 with pf:=m.frm,ps:=⟨m.idx,m.lt,m.vot,[]⟩ } ⟨sy,.slice p.av (eq m.vot) p.cv,.slice none 0 0,sq',f0,f1,f2⟩) RT) ?_ (.there (.here I))
   obtain ⟨hy,hd,hq,rfl,dj,⟨y,v,d,ou,f⟩⟩:=I1';refine WL.perm (aal [_,_,_] [_] hs) (WL.split dj ?_);refine fin 0 I (WQ.loss 1 En.em I (.inr I) (WQ.join [hy,En.em,hq] fun dj'=>WQ.perm (aal [_] [_,_,_] hs) ?_));exact jx (⟨sy,.slice p.av (eq m.vot) p.cv,.slice none 0 0,sq',f0,f1,f2⟩,cZ [hy,En.em,hq]) ⟨hy,En.em,hq,I,dj',⟨y,⟨p.av,p.cv,I,hS.2.1⟩,⟨none,0,I,aZ.nil _ _⟩,ou,f⟩⟩ ⟨I,I,I,trivial⟩ I I
  rw[h] at hbq;rw[aaa (of_decide_eq_false hbq.symm)];exact sk (jx (s,g) I1' sb I I)
 rintro ⟨s1,g1⟩ G1;dsimp only at G1 ⊢
 have hfl:eq (R1.freshP m).ps.data<=256*z/\(R1.freshP m).com=R1.com/\(R1.freshP m).out=R1.out:=by
  unfold Nd.freshP
  split
  ·exact ⟨aad _,I,I⟩
  exact ⟨qo,I,I⟩
 rw[zQ] at op ⊢;generalize R1.freshP m=R2 at G1 op hfl ⊢;refine jn (σ:=NS×PH) (fun _=>[(0,Nr rb),(3,Nr b3),(5,.pointer (some ⟨rb,46,none⟩))]) (fun u=>pt b3 (mv m p) 34::pt rb (aW lb (if m.off=eq R2.ps.data then { R2 with ps:={ R2.ps with data:=R2.ps.data++m.data } } else R2) u.1) RT::lh::u.2::hs) (fun u=>gt K15 rb (if m.off=eq R2.ps.data then { R2 with ps:={ R2.ps with data:=R2.ps.data++m.data } } else R2) u.1 u.2) ?_ ?_
 ·obtain ⟨hy,hd,hq,rfl,dj,⟨y,v,⟨aD,cD,eD,oD⟩,ou,f⟩⟩:=G1;obtain ⟨sy,sv,sd,sq',f0,f1,f2⟩:=s1;dsimp only at eD y v ou f;subst eD;refine sq (bQ [1,0] 8 [0,2,4,6,8,10,12,14] ?_);refine au ?_;refine dC qk 1 (m.off=eq R2.ps.data) I Nm fun b86 h86=>?_;refine au ?_;refine ax h86 I (fun e5=>?_) (fun e5=>?_)
  ·rw[aab e5];refine WC.perm (aal [_,_,_] [_] hs) (WC.split dj ?_);refine bQ [4,3] 10 [0,2,4,6,8,10,12,15,16,18,21] ?_;refine au ?_;refine app 0 1 I I oD (.inl I) hS.2.2 I Nn (fM _) aH (by simp only[maxLen];omega) fun ao94 c94 g94 o94=>?_;refine ba Nm I ?_;refine aJ qk 2 I ?_;refine stp 0 4 I I I I ?_;have ed:eq R2.ps.data+eq m.data=eq (R2.ps.data++m.data):=by simp
   rw[ed] at o94;refine WL.h 4 (pt rb (aW lb { R2 with ps:={ R2.ps with data:=R2.ps.data++m.data } } ⟨sy,sv,.slice ao94 (eq (R2.ps.data++m.data)) c94,sq',f0,f1,f2⟩) RT) ?_ (.there (.there (.there (.there (.here (by rw[<-ed];rfl))))));refine ci (.inl qk) ?_;refine aM qk 0 I (WQ.join [hy,g94,hq] fun dj'=>WQ.perm (aal [_] [_,_,_] hs) ?_);exact jx (⟨sy,sv,.slice ao94 (eq (R2.ps.data++m.data)) c94,sq',f0,f1,f2⟩,cZ [hy,g94,hq]) ⟨hy,g94,hq,I,dj',⟨y,v,⟨ao94,c94,I,by simpa[bv] using o94⟩,ou,f⟩⟩ sb I I
  rw[aaa e5];exact sk (jx (⟨sy,sv,.slice aD (eq R2.ps.data) cD,sq',f0,f1,f2⟩,cZ [hy,hd,hq]) ⟨hy,hd,hq,I,dj,⟨y,v,⟨aD,cD,I,oD⟩,ou,f⟩⟩ sb I I)
 rintro ⟨s2,g2⟩ G2;dsimp only at G2 ⊢
 have hp3:(if m.off=eq R2.ps.data then { R2 with ps:={ R2.ps with data:=R2.ps.data++m.data } } else R2).com=R1.com/\(if m.off=eq R2.ps.data then { R2 with ps:={ R2.ps with data:=R2.ps.data++m.data } } else R2).out=R1.out:=by
  split
  ·exact hfl.2
  exact hfl.2
 generalize (if m.off=eq R2.ps.data then { R2 with ps:={ R2.ps with data:=R2.ps.data++m.data } } else R2)=R3 at G2 op hp3 ⊢;rw[<-hp3.2] at hou;have h3:=op.ps;obtain ⟨hy,hd,hq,hg2,dj,⟨y,⟨aV,cV,eV,xV⟩,⟨aD,cD,eD,oD⟩,ou,f⟩⟩:=id G2;obtain ⟨sy,sv,sd,sq',f0,f1,f2⟩:=s2;dsimp only at eV eD;subst eV eD;refine sq (sq (bQ [1,0] 8 [0,2,4,6,8,10,12,14] ?_));refine au ?_;refine dC qk 0 ((eq R3.ps.data:Int)<m.whole) I Nm fun b104 h104=>?_;refine au ?_;refine ax h104 I (fun e6=>?_) (fun e6=>?_)
 ·rw[aab e6];refine sq (bQ [1,0] 11 [0,2,4,6,8,10,12,14,16,18,20,23] ?_);refine dk [10] qk 2 1 I qk I I ?_;refine dk [10] qk 1 1 I qk I I ?_;refine dk [10,9] qk 3 0 I qk I I ?_;refine jw qk 1 (.agg (mv { aB.zero with kind:=6,to:=m.frm,idx:=m.idx,off:=eq R3.ps.data } ⟨none,0,none,0,none,0⟩)) I (fun w=>by kernel_rfl) ?_;refine au ?_;refine cl 0 I (Ct.at3 [_] (iZ ⟨hL,G2⟩ qo _ _ ⟨eO.nil _ _ _,aw.nil _ _ _ _,aw.nil _ _ _ _⟩)) ?_;rintro v116 K116 hs116 ⟨_,_,_,rfl,⟨s3,rfl,le3,I3⟩,rfl⟩;refine ci (.inl qk) ?_;refine aM qk 0 I (acF ?_);refine fin 1 I (acK (rT (WQ.drop ?_)));exact ah I I ⟨_,_,_,I,⟨s3,I,le3,I3⟩,I⟩
 rw[aaa e6];unfold Nd.inst;refine sk (th ?_);subst hg2;refine WC.perm (aal [_,_,_] [_] hs) (WC.split dj ?_);refine WC.perm (hs':=hd::hy::hq::pt b3 (mv m p) 34::pt rb (aW lb R3 ⟨sy,.slice aV (eq R3.ps.vot) cV,.slice aD (eq R3.ps.data) cD,sq',f0,f1,f2⟩) RT::lh::hs) (aat ..) (WC.frz fun K1 le0 lhd=>WC.em ?_);refine WC.perm (aat ..) (WC.join [hy,En.em,hq] fun dj'=>WC.perm (aal [_] [_,_,_] hs) ?_);have hL1:=hL.le le0;have xD:aw K1 aD (eq R3.ps.data) cD 1 (bv R3.ps.data):=oD.isS.le lhd;have hin:=fun (hs':List PH)=>HC (w0:=w0) (K:=K1) (hs:=hs') lb db L D c o.rn.lb hc o.rn.ok hL1 R3.ps (by have:=h3.1;unfold ac at this;omega) h3.2.1 qo qo aV cV aD cD (xV.le le0) xD;generalize L.install R3.ps D=A at hin ⊢;obtain ⟨L1,D1,c1⟩:=A;dsimp only at hin ⊢;refine sq (bQ [1] 9 [0,2,4,6,8,10,12,15,16] ?_);refine au ?_;refine DC qk 2 (cP R3.ps aV cV aD cD).toList I qk qk (.inr ⟨0,I⟩) (np _ I) ?_
 refine au ?_;refine cl 0 I (Ct.at 2 I (hin _)) ?_;rintro v124 K124 hs124 ⟨h2,rfl,le1,hL2,rfl⟩;obtain ⟨R4,hR4⟩:∃ R4:Nd,R4={ R3 with pf:=0,ps:=aX.zero }:=⟨_,rfl⟩;refine WL.hs (pt b3 (mv m p) 34::pt rb (aW lb R3 ⟨sy,.slice aV (eq R3.ps.vot) cV,.slice aD (eq R3.ps.data) cD,sq',f0,f1,f2⟩) RT::h2::cZ [hy,En.em,hq]::hs) I ?_;refine eK Nm le1 ?_;refine au ?_;refine bd 1 (.agg #[.int .i64 0,.int .u64 0,.int .u64 0,.slice none 0 0,.slice none 0 0]) I (fun w=>by kernel_rfl) ?_;refine kq 2 1 (off:=45) (cs:=#[.int .i64 0,.int .u64 0,.int .u64 0,.slice none 0 0,.slice none 0 0]) I I qk (by show 45+5<=54;omega) (fun v hv=>by simp at hv;rcases hv with rfl|rfl|rfl|rfl|rfl <;> rfl) ?_;refine WL.h 1 (pt rb (aW lb R4 ⟨sy,.slice none 0 0,.slice none 0 0,sq',f0,f1,f2⟩) RT) ?_ (.there (.here (by rw[hR4];rfl)));have le:=le0.trans le1
 have G4:gt K124 rb R4 ⟨sy,.slice none 0 0,.slice none 0 0,sq',f0,f1,f2⟩ (cZ [hy,En.em,hq]):=by
  obtain ⟨y',v',d',ou',f'⟩:=(lX.mk y ⟨aV,cV,rfl,xV⟩ ⟨aD,cD,rfl,oD⟩ ou f:lX K15 rb R3 ⟨sy,.slice aV (eq R3.ps.vot) cV,.slice aD (eq R3.ps.data) cD,sq',f0,f1,f2⟩ hy hd hq).le le;rw[hR4];exact ⟨hy,En.em,hq,I,dj',⟨y',⟨none,0,I,aw.nil _ _ _ _⟩,⟨none,0,I,aZ.nil _ _⟩,ou',f'⟩⟩
 have h4c:R4.com=R3.com/\R4.out=R3.out:=by rw[hR4];exact ⟨I,I⟩
 rw[<-hR4];generalize (⟨sy,.slice none 0 0,.slice none 0 0,sq',f0,f1,f2⟩:NS)=s4 at G4 ⊢;generalize cZ [hy,En.em,hq]=g4 at G4 ⊢;rw[<-h4c.2] at hou;refine au ?_;refine ai 1 I fun b130 h130=>?_
 refine' dx (q:=c1=181) 1 3 134 [130,131] h130 I I I I I I I (fun _=>?x15) (fun b134 h134=>?_)
 case x15=>
  refine ai 1 I fun b133 h133=>?_;exact fin 1 I (bK h133 I I I)
 refine fin 0 I<|th (ax h134 I (fun e17=>?_) (fun e17=>?_))
 ·rw[aab e17];refine acI ?_;refine fin 1 I (acK (rT (WQ.drop ?_)));exact ah I I ⟨_,_,_,I,⟨s4,I,le,hL2,G4⟩,I⟩
 rw[aaa e17];refine au ?_;refine cl 2 I (Ct.at3 [_] (kL (lh:=h2) G4 c1)) ?_;rintro v137 K137 hs137 ⟨_,lh,g1,rfl,rfl,⟨s1,rfl,G1⟩,rfl,rfl⟩;refine ai 0 I fun b138 h138=>?_;refine fin 0 I (th (ax h138 I (fun e12=>?_) (fun e12=>?_)))
 ·rw[aab e12];refine acI ?_;refine fin 2 I (acK (rT (WQ.drop ?_)));exact ah I I ⟨_,_,_,I,⟨s1,I,le,hL2,G1⟩,I⟩
 obtain rfl:c1=0:=Decidable.not_not.1 e12;rw[aaa Nm];rw[show R4.did 0=R4 from rfl] at G1 ⊢;obtain ⟨R5,hR5⟩:∃ R5:Nd,R5={ R4 with com:=max R4.com m.idx }:=⟨_,rfl⟩;have hR5':({ R3 with pf:=0,ps:=aX.zero,com:=max R3.com m.idx }:Nd)=R5:=by rw[hR5,hR4]
 rw[hR5'];refine sk (th (sq (bQ [1,0] 10 [0,2,4,6,8,10,12,14,16,18,21] ?_)));refine bP qk 4 0 I qk I I ?_;refine bP qk 1 1 I qk I I ?_;refine aJ qk 3 I ?_;refine stp 0 1 I I I I ?_;refine WL.h 1 (pt rb (aW lb R5 s1) RT) ?_ (.there (.here (by rw[hR5];unfold aW;dsimp only;rw[<-sE];rfl)));refine au ?_;refine bd 0 (.agg (mv { aB.zero with kind:=4,to:=m.frm,good:=true,idx:=m.idx } ⟨none,0,none,0,none,0⟩)) I (fun w=>by kernel_rfl) ?_;refine cl 0 I (Ct.at3 [_] (iZ (R:=R5) ⟨hL2,by rw[hR5];exact G1.r⟩ (by rw[hR5];show eq R4.out<=_;omega) _ _ ⟨eO.nil _ _ _,aw.nil _ _ _ _,aw.nil _ _ _ _⟩)) ?_;rintro v156 K156 hs156 ⟨_,_,_,rfl,⟨s2,rfl,le3,I3⟩,rfl⟩;refine fin 0 I (acF ?_);refine fin 1 I (acK (WQ.drop ?_));exact ah I I ⟨_,_,_,I,⟨s2,I,le.trans le3,I3⟩,I⟩
end
end
section
section
variable {w0:World} {K lh g:PH} {hs:List PH} {rb lb db c q z k:Nat} {R:Nd} {L:Lg} {D:Dk} {s:NS}
def FJ{m:aB}(h:(enc m).isSome=true):m.ok:=by
 unfold enc at h
 by_cases hh:m.ok
 ·exact hh
 simp[hh] at h
def Cy(m:aB):(ec (enc m)≠0)=((enc m).isSome=false):=by
 cases enc m <;> simp[ec]
def Kj(iN:di K rb lb db R L D s lh g)(o:NI c q z k R L D)(hc:c<=499800000)(hk:k<=400000)(hz:z<=1000000)(m:aB)(hb:m.bd)(p:MA)(hS:dr K m p):
  fF w0 K hs rb lb db R s lh g 32 [Nr rb,.agg (mv m p)] (R.take L D m).1 (R.take L D m).2.1 (R.take L D m).2.2.1 (.int .i64 (R.take L D m).2.2.2):=by
 unfold Nd.take;refine ent Tryz.func32 ?_;refine acI ?_;refine bx 0 I fun b3=>?_;refine WL.h 0 (pt b3 (mv m p) 34) ?_;refine fin 1 I (acE ?_);refine a9 3 1 (v:=.bool R.hl) I I I ?_;refine fin 0 I (th (fe I (fun e1=>?_) (fun e1=>?_)))
 ·rw[aab e1];refine acI ?_;refine fin 1 I (acK (rT (WQ.drop ?_)));exact ah I I ⟨_,_,_,I,⟨s,I,Le.refl _,iN⟩,I⟩
 rw[aaa (by simp[e1])];refine au ?_;refine cl 0 I (JI m p hS hb) ?_;rintro v14 K14 hs14 ⟨rfl,_,ao,cap,rfl,rfl,oE⟩;refine fin 5 I (th (WC.drop ?_));obtain ⟨bq,hbq⟩:=be (decide ((enc m).isSome=false\/m.to≠R.nd\/cM<m.term));refine sq ?_;refine jn (σ:=Unit) (fun _=>[(0,Nr rb),(3,Nr b3),(32,.bool bq)]) (fun _=>pt b3 (mv m p) 34::pt rb (aW lb R s) RT::lh::g::hs) (fun _=>True) ?_ ?_
 ·refine bQ [1,0] 16 [0,2,4,6,8,10,12,14,16,18,20,22,24,26,28,30] ?_;refine dN qk 1 (ec (enc m)≠0) I Nm (fun h2=>?_) (fun h2=>?_)
  ·refine aM qk 14 I ?_;exact jx () trivial ⟨I,I,by rw[hbq,decide_eq_true (.inl (by rw[<-Cy];exact h2))];rfl,trivial⟩ rfl rfl
  refine au ?_;refine dN qk 0 (m.to≠R.nd) I Nm (fun h3=>?_) (fun h3=>?_)
  ·refine aM qk 6 I ?_;exact jx () trivial ⟨I,I,by rw[hbq,decide_eq_true (.inr (.inl h3))];rfl,trivial⟩ rfl rfl
  refine au ?_;refine dC qk 0 (cM<m.term) I (by unfold cM;simp;omega) fun b31 h31=>?_;refine au ?_
  have e:b31=bq:=by
   rw[Cy] at h2;rw[hbq,aaS,h31,decide_eq_true_iff];simp[h2,Decidable.not_not.1 h3]
  exact jx () trivial ⟨I,I,by rw[<-e];rfl,trivial⟩ rfl rfl
 rintro _ _;refine fe I (fun h=>?_) (fun h=>?_)
 ·rw[h] at hbq;rw[aab (of_decide_eq_true hbq.symm)];refine acI ?_;refine fin 1 I (acK (rT (WQ.drop ?_)));exact ah I I ⟨_,_,_,I,⟨s,I,Le.refl _,iN⟩,I⟩
 rw[h] at hbq;have hgo:=of_decide_eq_false hbq.symm;rw[aaa hgo];have ho:m.ok:=FJ (by cases h9:(enc m).isSome with|true=>rfl|false=>exact absurd (.inl h9) hgo);have hf:=gx ho;refine au ?_;refine ai 0 I fun b35 h35=>?_
 refine' dU (q:=R.content=true) 1 3 39 [35,36] h35 I I I I I I I (fun _=>?x6) (fun b39 h39=>?_)
 case x6=>
  refine cl 1 I (Ct.at 1 I GL) ?_;rintro v38 K38 hs38 ⟨_,rfl,rfl,rfl,rfl⟩;exact fin 1 I (bK Iff.rfl I I I)
 refine fin 0 I<|th (ax h39 I (fun e7=>?_) (fun e7=>?_))
 ·rw[aab (by simpa using e7)];refine acI ?_;refine fin 1 I (acK (rT (WQ.drop ?_)));exact ah I I ⟨_,_,_,I,⟨s,I,Le.refl _,iN⟩,I⟩
 rw[aaa (by simpa using e7)];refine sk (th ?_)
 refine jR (σ:=PH×(Nd×Lg×Dk)×NS×PH×PH) (fun _=>[(0,Nr rb),(3,Nr b3)]) (fun u=>u.1) (fun u=>pt b3 (mv m p) 34::pt rb (aW lb u.2.1.1 u.2.2.1) RT::u.2.2.2.1::u.2.2.2.2::hs)
  (fun u=>Le K14 u.1/\di u.1 rb lb db u.2.1.1 u.2.1.2.1 u.2.1.2.2 u.2.2.1 u.2.2.2.1 u.2.2.2.2/\NI (c+10) (q+1) z k u.2.1.1 u.2.1.2.1 u.2.1.2.2/\R.take1 L D m=u.2.1.1.take2 u.2.1.2.1 u.2.1.2.2 m) ?_ ?_
 ·unfold Nd.take1;refine sq (bQ [0] 5 [0,2,4,7,8] ?_);refine au ?_;refine cl 0 I (Ct.at2p [_] (lF iN.l)) ?_;rintro v43 K43 hs43 ⟨_,_,rfl,rfl,rfl,rfl,rfl⟩;refine ba Nm I ?_;refine dC qk 0 (L.kt<m.term) I Nm fun b44 h44=>?_;refine au ?_;refine ax h44 I (fun e8=>?_) (fun e8=>?_)
  ·rw[aab e8];dsimp only;have a:=o.raise m.term hb.term;have hr:=fun (hs':List PH)=>IN (w0:=w0) (hs:=hs') iN o qo m.term hb.term;generalize R.raise L D m.term=A at a hr ⊢;obtain ⟨R1,L1,D1,c1⟩:=A;dsimp only at a hr ⊢;refine au ?_;refine cl 0 I (Ct.at3 [_] (hr _)) ?_;rintro v48 K48 hs48 ⟨_,_,_,rfl,⟨s2,rfl,le1,I2⟩,rfl⟩;refine au ?_;refine ai 1 I fun b50 h50=>?_;refine fin 0 I (th (ax h50 I (fun e10=>?_) (fun e10=>?_)))
   ·rw[aab e10];refine acI ?_;refine fin 2 I (acK (rT (WQ.drop ?_)));exact ah I I ⟨_,_,_,I,⟨s2,I,le1,I2⟩,I⟩
   rw[aaa e10];exact sk (fb (K48,(R1,L1,D1),s2,_,_) ⟨le1,I2,a.up qo qo qo,I⟩ ⟨I,I,trivial⟩ I I)
  rw[aaa e8];exact sk (fb (K43,(R,L,D),s,_,_) ⟨Le.refl _,iN,o.up qo qo qo,I⟩ ⟨I,I,trivial⟩ I I)
 rintro ⟨K1,⟨R1,L1,D1⟩,s1,lh1,g1⟩ ⟨le,I1,o1,hT⟩;dsimp only at le I1 o1 hT ⊢;rw[hT];have hS1:=hS.le le;have hout:=o1.rb.out;unfold Nd.take2;refine sq (sq (bQ [0] 5 [0,2,4,7,8] ?_));refine au ?_;refine cl 0 I (Ct.at2p [_] (lF I1.l)) ?_;rintro v55 K55 hs55 ⟨_,_,rfl,rfl,rfl,rfl,rfl⟩;refine ba Nm I ?_;refine dC qk 0 (m.term<L1.kt) I Nm fun b56 h56=>?_;refine au ?_;refine ax h56 I (fun e11=>?_) (fun e11=>?_)
 ·rw[aab e11];refine au ?_;refine cl 0 I (Ct.at3 [_] (IG I1 qo m p)) ?_;rintro v59 K59 hs59 ⟨_,_,_,rfl,⟨s2,rfl,le1,I2⟩,rfl⟩;refine fin 0 I (acF ?_);refine fin 1 I (acK (rT (WQ.drop ?_)));exact ah I I ⟨_,_,_,I,⟨s2,I,le.trans le1,I2⟩,I⟩
 rw[aaa e11];unfold Nd.take3;refine au ?_;refine ai 0 I fun b63 h63=>?_;refine fin 1 I (th (ax h63 I (fun k1=>?_) (fun k1=>?_)))
 ·replace k1:m.kind=1:=k1
  rw[aab k1];refine au ?_;refine cl 0 I (Ct.at3 [_] (JU I1 o1 qo qo m hb hf p)) ?_;rintro v66 K66 hs66 ⟨_,_,_,rfl,⟨s2,rfl,le1,I2⟩,rfl⟩;refine fin 1 I (acK (rB (rT (WQ.drop ?_))));exact ah I I ⟨_,_,_,I,⟨s2,I,le.trans le1,I2⟩,I⟩
 replace k1:¬m.kind=1:=k1
 rw[aaa k1];refine acI ?_;refine ai 0 I fun b68 h68=>?_;refine fin 1 I (th (ax h68 I (fun k2=>?_) (fun k2=>?_)))
 ·replace k2:m.kind=2:=k2
  rw[aab k2];refine au ?_;refine cl 0 I (Ct.at3 [_] (H7 I1 o1 qo qo m p)) ?_;rintro v71 K71 hs71 ⟨_,_,_,rfl,⟨s2,rfl,le1,I2⟩,rfl⟩;refine fin 1 I (acK (rB (rT (WQ.drop ?_))));exact ah I I ⟨_,_,_,I,⟨s2,I,le.trans le1,I2⟩,I⟩
 replace k2:¬m.kind=2:=k2
 rw[aaa k2];refine acI ?_;refine ai 0 I fun b73 h73=>?_;refine fin 1 I (th (ax h73 I (fun k3=>?_) (fun k3=>?_)))
 ·replace k3:m.kind=3:=k3
  rw[aab k3];refine au ?_;refine cl 0 I (Ct.at3 [_] (L7 I1 o1 qo qo m hb ho k3 p hS1)) ?_;rintro v76 K76 hs76 ⟨_,_,_,rfl,⟨s2,rfl,le1,I2⟩,rfl⟩;refine fin 1 I (acK (rB (rT (WQ.drop ?_))));exact ah I I ⟨_,_,_,I,⟨s2,I,le.trans le1,I2⟩,I⟩
 replace k3:¬m.kind=3:=k3
 rw[aaa k3];refine acI ?_;refine ai 0 I fun b78 h78=>?_;refine fin 1 I (th (ax h78 I (fun k4=>?_) (fun k4=>?_)))
 ·replace k4:m.kind=4:=k4
  rw[aab k4];refine au ?_;refine cl 0 I (Ct.at3 [_] (Lr I1 o1 qo qo m hb hf p)) ?_;rintro v81 K81 hs81 ⟨_,_,_,rfl,⟨s2,rfl,le1,I2⟩,rfl⟩;refine fin 0 I (bl (acF ?_));refine fin 1 I (acK (WQ.drop ?_));exact ah I I ⟨_,_,_,I,⟨s2,I,le.trans le1,I2⟩,I⟩
 replace k4:¬m.kind=4:=k4
 rw[aaa k4];refine acI ?_;refine ai 0 I fun b83 h83=>?_;refine fin 1 I (th (ax h83 I (fun k5=>?_) (fun k5=>?_)))
 ·replace k5:m.kind=5:=k5
  rw[aab k5];refine au ?_;refine cl 0 I (Ct.at3 [_] (JS I1 o1 qo qo qo m hb ho k5 p hS1)) ?_;rintro v86 K86 hs86 ⟨_,_,_,rfl,⟨s2,rfl,le1,I2⟩,rfl⟩;refine fin 1 I (acK (rB (rT (WQ.drop ?_))));exact ah I I ⟨_,_,_,I,⟨s2,I,le.trans le1,I2⟩,I⟩
 replace k5:¬m.kind=5:=k5
 rw[aaa k5];refine acI ?_;refine ai 0 I fun b88 h88=>?_;refine fin 1 I (th (ax h88 I (fun k6=>?_) (fun k6=>?_)))
 ·replace k6:m.kind=6:=k6
  rw[aab k6];refine au ?_;refine cl 0 I (Ct.at3 [_] (GQ I1 o1 qo qo m ho k6 p)) ?_;rintro v91 K91 hs91 ⟨_,_,_,rfl,⟨s2,rfl,le1,I2⟩,rfl⟩;refine fin 0 I (bl (acF ?_));refine fin 1 I (acK (WQ.drop ?_));exact ah I I ⟨_,_,_,I,⟨s2,I,le.trans le1,I2⟩,I⟩
 replace k6:¬m.kind=6:=k6
 rw[aaa k6];refine sk (bl (acF ?_));refine fin 1 I (acK (WQ.drop ?_));exact ah I I ⟨_,_,_,I,⟨s1,I,le,I1⟩,I⟩
end
end
section
def MC{T:bg}{ops:Array Oper}{Q:Exit->Act->World->Prop}{rest rest':List Oper}{n:Nat}{l l':Sl}
  [hT:bc P T] (k:Nat) {d:Nat} {si:d9} {ao ao2:Option Addr} {n1 c1 c2:Nat} {h2:PH} (h0:jN T ops n k rest l=some (d,si,(ao,n1,c1),(ao2,0,c2),rest',l'))
  (hle:n1<=c1) (hm:In K hs h2) (x:aw h2 ao2 0 c2 si.size [])
  (hk:WL P w0 ops Q rest' n ((d,.slice ao n1 c1)::l') K hs):WL P w0 ops Q rest n l K hs:=by
 unfold jN at h0
 split at h0
 ·rename_i oo r l2 ho
  split at h0
  ·rename_i d' args argTypes hd hop
   split at h0
   ·rename_i x' y' t t' e1 e2
    split at h0
    ·rename_i si' a1 m1 k1 a2 m2 k2 hb' htt hsi hx hy;simp only[aae,aag] at h0;obtain ⟨rfl,rfl,⟨rfl,rfl,rfl⟩,⟨rfl,rfl,rfl⟩,rfl,rfl⟩:=h0;have htt':t=t':=aaB htt;subst htt';have a1':args=#[x',y']:=by cases args;simp_all
     have a2':argTypes=#[t,t]:=by cases argTypes;simp_all
     subst a1';subst a2';obtain ⟨g1,ii,g2,g3,g4,g5⟩:=hT.sl hsi
     refine WL.at' ho fun hg=>WL.val (R:=fun u K' hs'=>u=.slice a1 m1 k1/\K'=K/\hs'=hs) hd hb' hg
      (fun A w ha hw=>?_) ?_
     ·rw[<-g4] at x;have hf:=tc (P:=P) hw hm x
      have hr:(Builtin.append_ #[t,t] oo.type #[.slice a1 m1 k1,.slice a2 0 k2]).run P w=.ok (.slice a1 m1 k1) w:=by
       cases a1 <;> simp[Builtin.append_,run_underlying g1,sizeOf,typeInfo,g2,hle,hf,storeCells,Builtin.lenOf]
      refine ⟨_,w,K,_,?_,hw,I,I,I⟩;simp only[execOp,hop];simp[resolve,invoke,builtin,ha.ev hx,ha.ev hy,hr]
     rintro u K' hs' ⟨rfl,rfl,rfl⟩;exact hk
    simp at h0
   simp at h0
  simp at h0
 simp at h0
theorem zl:∀ (l:List Int) (last:Int),confOK last l->∀ v∈l,last<v
 | [],_,_,v,hv=>by cases hv
 | u::r,last,h,v,hv=>by
  rcases aay.1 hv with rfl|hv
  ·exact h.1
  exact Int.lt_trans h.1<|zl r u h.2.2 v hv
def HQ{c:List Int}{n:Int}(h:confOK (-1) c){j:Nat}(hj:c[j]?=some n)(hn:n∉c.take j):(c.filter fun v=>decide (v≠n))=c.take j++c.drop (j+1):=by
 obtain ⟨hl,e⟩:=aax.1 hj;have h2:confOK (-1) (c.take j++c.drop j):=by rw[aaA];exact h
 rw[qw,aaF hl] at h2;have h3:=zl _ _ h2.2.2.2;rw[e] at h3;have e2:c=c.take j++n::c.drop (j+1):=by rw[<-e,<-aaF hl,aaA]
 generalize c.take j=x at e2 hn;generalize c.drop (j+1)=y at e2 h3;rw[e2,abG,acA];simp only[ne_eq,not_true_eq_false,decide_false,acp,if_false]
 congr 1
 ·exact acd.2 fun v hv=>by simp only[decide_eq_true_iff];rintro rfl;exact hn hv
 exact acd.2 fun v hv=>by simp only[decide_eq_true_iff];rintro rfl;exact absurd (h3 _ hv) (Int.lt_irrefl _)
section
variable {w0:World} {K hv:PH} {hs:List PH}
def IK(hm:In K hs hv)(ao:Option Addr)(k:Nat)(l:List Int)(x:aw hv ao (eq l) k 1 (iv l))(hl:eq l<=1099511627776):
  aj w0 204 [.agg #[.slice ao (eq l) k]] K hs (fun v K' hs'=>K'=K/\hs'=hs/\v=.bool (decide (confOK (-1) l/\l≠[]))):=by
 refine ent Tryz.func204 ?_;refine au ?_;refine bx 0 I fun b1=>?_;refine au ?_;refine loop (σ:=Nat) (fun i=>[(1,Nr b1),(3,.int .i64 ((l.take i).getLastD (-1))),(7,.slice ao (eq l) k),(8,.int .i64 (eq l)),(9,.int .i64 (i:Nat))]) (fun _=>K) (fun i=>pt b1 #[.slice ao (eq l) k] 46::hs) (fun i=>i<=eq l/\confOK (-1) (l.take i)) (fun i=>eq l-i) 0 ⟨aad _,trivial⟩ ⟨I,I,I,I,I,trivial⟩ I I ?_;rintro i ⟨hi,hc⟩;refine acI ?_;refine bh 0 I (fun e2=>?_) (fun e2=>?_)
 ·refine au ?_;have hil:i<eq l:=qo
  refine au ?_;refine dR 0 i I I I x (lH hil) fun a11 hc11=>?_;refine ld 0 I (In.cons hm) hc11 ?_;refine au ?_;refine ai 2 I fun b15 h15=>?_
  refine' dx (q:=7<=l[i]) 1 3 19 [15,16] h15 I I I I I I I (fun _=>?x4) (fun b19 h19=>?_)
  case x4=>
   refine ai 1 I fun b18 h18=>?_;exact fin 1 I (bK h18 I I I)
  refine fin 0 I<|th (ax h19 I (fun e6=>?_) (fun e6=>?_))
  ·refine acI ?_;refine fin 1 I (acK (rT (rB (rT (rT (rB (rT (WQ.drop ?_))))))));exact ah I I ⟨I,I,by rw[decide_eq_false (fun h=>by have:=xI l i hil h.1;omega)]⟩
  refine au ?_;refine ar 0 I (aC (x:=((i+1:Nat):Int)) qo) ?_;refine fin 1 I ?_;have hla:(l.take (i+1)).getLastD (-1)=l[i]:=by rw[lY l i hil,List.getLastD_concat]
  exact bw (x:=i) (i+1) ⟨I,by rw[hla];rfl,rfl,rfl,rfl,trivial⟩ rfl rfl ⟨qo,xa l i hil hc qo qo⟩ qo
 refine au ?_;obtain rfl:i=eq l:=qo
 rw[aaE] at hc;refine au ?_;refine ai 1 I fun b25 h25=>?_;refine fin 1 I (acK (WQ.drop ?_));refine ah I I ⟨I,I,?_⟩
 rw[show b25=decide (confOK (-1) l/\l≠[]) from by
  rw[aaS,h25,decide_eq_true_iff];cases l with
  | nil=>simp
  | cons a r=>simp[hc]]
def Bq(hm:In K hs hv)(ao:Option Addr)(k:Nat)(l:List Int)(x:aw hv ao (eq l) k 1 (iv l))(hl:eq l<=1099511627776)(n:Int):
  aj w0 155 [.agg #[.slice ao (eq l) k],.int .i64 n] K hs (fun v K' hs'=>K'=K/\hs'=hs/\v=.bool (decide (confOK (-1) l/\l≠[]/\0<=n/\n<7))):=by
 refine ent Tryz.func155 ?_;refine acI ?_;refine bx 0 I fun b2=>?_;refine au ?_;refine cl 0 I (IK (In.cons hm) ao k l x hl) ?_;rintro v6 K6 hs6 ⟨rfl,rfl,rfl⟩
 refine' dU (q:=0<=n) 1 3 10 [6,7] (decide_eq_true_iff (p:=confOK (-1) l/\l≠[])) I I I I I I I (fun _=>?x1) (fun b10 h10=>?_)
 case x1=>
  refine ai 1 I fun b9 h9=>?_;exact fin 1 I (bK h9 I I I)
 refine' dU (q:=n<7) 1 3 14 [10,11] h10 I I I I I I I (fun _=>?x3) (fun b14 h14=>?_)
 case x3=>
  refine ai 1 I fun b13 h13=>?_;exact fin 1 I (bK h13 I I I)
 refine fin 1 I (acK (WQ.drop ?_));refine ah I I ⟨I,I,?_⟩
 rw[show b14=decide (confOK (-1) l/\l≠[]/\0<=n/\n<7) from by
  rw[aaS,h14,decide_eq_true_iff];simp only[and_assoc]]
abbrev wK(K:PH)(hs:List PH)(r:List Int×Int)(v:Value)(K':PH)(hs':List PH):Prop:=
 Le K K'/\hs'=hs/\∃ ao cap,v=.tuple #[.agg #[.slice ao (eq r.1) cap],.int .i64 r.2]/\aw K' ao (eq r.1) cap 1 (iv r.1)
def Ma(ao:Option Addr)(k:Nat)(c:List Int)(x:aw K ao (eq c) k 1 (iv c))(hl:eq c<=1099511627776)(n:Int):
  aj w0 86 [.agg #[.slice ao (eq c) k],.int .i64 n] K hs (wK K hs (iz c n)):=by
 unfold iz;refine ent Tryz.func86 ?_;refine acI ?_;refine bx 0 I fun b2=>?_;refine al 0 (.agg #[.slice none 0 0]) I qk fun b4=>?_;refine au ?_;refine cl 1 I (Bq (.inl I) ao k c x hl n) ?_;rintro v10 K10 hs10 ⟨rfl,rfl,rfl⟩;refine dE 0 (¬(confOK (-1) c/\c≠[]/\0<=n/\n<7)) I (by simp only[abO,decide_eq_false_iff_not]) fun b11 h11=>?_;refine fin 1 I (th (ax h11 I (fun e1=>?_) (fun e1=>?_)))
 ·rw[aab e1];refine acI ?_;refine bd 0 (.agg #[.slice none 0 0]) I (fun w=>by kernel_rfl) ?_;refine au ?_;exact fU 0 2 I I I I qk ⟨Le.refl _,I,none,0,I,aw.nil _ _ _ _⟩
 rw[aaa e1];refine au ?_;refine cl 1 I (rf (.inl I) ao k c x hl n) ?_;rintro v16 K16 hs16 ⟨rfl,rfl,rfl⟩;refine fin 1 I (th (ax decide_eq_true_iff I (fun e2=>?_) (fun e2=>?_)))
 ·rw[aab e2];refine acI ?_;refine bd 0 (.agg #[.slice none 0 0]) I (fun w=>by kernel_rfl) ?_;refine au ?_;exact fU 0 2 I I I I qk ⟨Le.refl _,I,none,0,I,aw.nil _ _ _ _⟩
 rw[aaa e2];have e1:=Decidable.not_not.1 e1;have hlen:=pq c _ e1.1 qo qo;have hpos:0<eq c:=ace.2 e1.2.1;obtain ⟨a,rfl⟩:=x.addr hpos qo;refine au ?_;refine cl 0 I (BK a k c (.inl I) x hpos qo) ?_;rintro v20 K20 hs20 ⟨rfl,h20,ao20,c20,rfl,rfl,o20⟩;refine lit 1 #[.int .i64 n] I Nn qk fun b22=>?_;have xm:aw (pt b22 #[.int .i64 n] 3) (some ⟨b22,0,none⟩) 1 1 1 (iv [n]):=(aZ.ofPt (b:=b22) (c:=#[.int .i64 n]) (e:=3) (n:=1) (size:=1) rfl Nn).isS;refine wH 0 1 c n I I I o20 (.inr ⟨0,I⟩) xm qo fun ao23 c23 g23 o23=>?_;obtain ⟨xs,hxs⟩:∃ xs:List Nat,xs=(c++[n]).map Int.toNat:=⟨_,rfl⟩
 have hmem:∀ v∈c++[n],0<=v:=fun v hv=>by
  rcases aaj.1 hv with h|h
  ·exact (pp c _ e1.1 qo v h).1
  rw[aaz.1 h];exact e1.2.2.1
 have hbk:∀ ys:List Nat,iv (ys.map fun v=>((v:Nat):Int))=gD false ys:=fun ys=>by simp[iv,gD,kI]
 have hxc:(c++[n])=xs.map fun v=>((v:Nat):Int):=by
  rw[hxs,aa3];exact ((List.map_id _).symm.trans (abf fun v hv=>by have:=hmem v hv;simp only[id,Function.comp_apply];omega))
 have hxl:eq xs=eq (c++[n]):=by rw[hxs,aaO]
 obtain ⟨q1,q2,q3,⟨q4,q5,q6⟩|⟨g,off,cur,rfl,rfl,q4,q5⟩⟩:=id o23
 ·exfalso;simp at q2;omega
 rw[aaf,<-hxl,hxc,hbk] at q5
 have hcur:cur=kA false (cur.toList.take off) xs (cur.toList.drop (off+eq xs)):=by
  unfold kA;rw[<-q5,aaD,<-aaR,aaA,aaA]
 have hof:eq (cur.toList.take off)=off:=by simp;omega
 generalize cur.toList.take off=pre at hcur hof;generalize cur.toList.drop (off+eq xs)=post at hcur;subst hof hcur;refine WL.hs (pt b22 #[.int .i64 n] 3::pt g (kA false pre xs post) 3::pt b4 #[.slice none 0 0] 46::pt b2 #[.slice (some a) (eq c) k] 46::hs) I ?_;rw[<-hxl];refine WL.perm (aat ..) ?_;refine au ?_;refine cl 1 I (vJ false g c23 pre post xs qo (by simp at hxl;omega)) ?_;rintro v25 K25 hs25 ⟨rfl,ys,rfl,hp,hsr⟩;have hyl:eq ys=eq xs:=hp.len;rw[<-hyl] at hsr;have hpw:=hsr.pw
 have hyc:(ys.map fun v=>((v:Nat):Int))=eI (c++[n]):=by
  refine uH ?_ hpw;rw[hxc];exact hp.perm.map _
 have hyl2:eq ys=eq (eI (c++[n])):=by rw[<-hyc,aaO]
 refine WL.frz fun K' le lg=>?_;refine au ?_;refine bd 1 (.agg #[.slice (some ⟨g,eq pre,none⟩) (eq xs) c23]) I (fun w=>by kernel_rfl) ?_;refine au ?_;refine fU 1 3 I I I I qk ⟨le,I,some ⟨g,eq pre,none⟩,c23,by rw[<-hyl,hyl2],?_⟩;have xl:=nR (kd:=false) (g:=g) (e:=3) (pre:=pre) (xs:=ys) (post:=post) (cap:=c23) qo;rw[<-hbk,hyc,hyl2] at xl;exact xl.le lg
def LA(ao:Option Addr)(k:Nat)(c:List Int)(x:aw K ao (eq c) k 1 (iv c))(hl:eq c<=1099511627776)(n:Int):
  aj w0 85 [.agg #[.slice ao (eq c) k],.int .i64 n] K hs (wK K hs (iW c n)):=by
 unfold iW;refine ent Tryz.func85 ?_;refine acI ?_;refine bx 0 I fun b2=>?_;refine al 0 (.agg #[.slice none 0 0]) I qk fun b4=>?_;refine au ?_;refine cl 1 I (Bw (.inl I) ao k c x hl n) ?_;rintro v10 K10 hs10 ⟨rfl,rfl,i,rfl,hin,hno⟩;refine au ?_;refine cl 1 I (Bq (.inl I) ao k c x hl n) ?_;rintro v14 K14 hs14 ⟨rfl,rfl,rfl⟩;refine dE 0 (¬(confOK (-1) c/\c≠[]/\0<=n/\n<7)) I (by simp only[abO,decide_eq_false_iff_not]) fun b15 h15=>?_;refine fin 1 I (th (ax h15 I (fun e1=>?_) (fun e1=>?_)))
 ·rw[aab e1];refine acI ?_;refine bd 0 (.agg #[.slice none 0 0]) I (fun w=>by kernel_rfl) ?_;refine au ?_;exact fU 0 2 I I I I qk ⟨Le.refl _,I,none,0,I,aw.nil _ _ _ _⟩
 rw[aaa e1];have e1:=Decidable.not_not.1 e1;refine acI ?_;refine ai 1 I fun b19 h19=>?_
 refine' dx (q:=eq c=1) 1 5 25 [19,20] h19 I I I I I I I (fun _=>?x3) (fun b25 h25=>?_)
 case x3=>
  refine au ?_;refine dE 1 (eq c=1) I (by simp;omega) fun b24 h24=>?_;exact fin 1 I (bK h24 I I I)
 have hi0:i<0↔n∉c:=by
  constructor
  ·intro h h';obtain ⟨j,rfl,_⟩:=hin h';omega
  intro h;rw[hno h];omega
 rw[hi0] at h25;refine fin 1 I (th (ax h25 I (fun e5=>?_) (fun e5=>?_)))
 ·rw[aab e5];refine acI ?_;refine bd 0 (.agg #[.slice none 0 0]) I (fun w=>by kernel_rfl) ?_;refine au ?_;exact fU 0 2 I I I I qk ⟨Le.refl _,I,none,0,I,aw.nil _ _ _ _⟩
 rw[aaa e5];have hmem:n∈c:=Classical.byContradiction fun h=>e5 (.inl h);obtain ⟨j,rfl,hj,hjt⟩:=hin hmem;have hjl:j<eq c:=(aax.1 hj).1;rw[HQ e1.1 hj hjt];refine sk (bl (th (sq (bQ [1] 14 [0,2,4,6,10,12,14,16,18,9,21,22,25,26] ?_))));refine bS qk 1 0 I I I ?_
 have x31:aw K14 ao j j 1 (iv (c.take j)):=⟨by simp[iv];omega,aac _,fun i u hu=>x.2.2 i u (by
  unfold iv at hu ⊢;rw[List.map_take,List.getElem?_take] at hu
  split at hu
  ·exact hu
  cases hu)⟩
 refine au ?_;refine bA qk 1 I (aC (x:=((j+1:Nat):Int)) qo) ?_;obtain ⟨r,hr⟩:=be (eq c-(j+1));have fD:eq (c.drop (j+1))=r:=by rw[aak,hr]
 refine D6 qk 0 (j+1) r I I x I (by show ((eq c:Nat):Int)=_;omega) qo (ys:=iv (c.drop (j+1))) (by
  unfold iv;rw[aaf,aaf,<-List.map_drop];exact aav (by rw[aaO];omega)) fun ao36 c36 x36=>?_
 refine au ?_;refine wu 0 0 j j I I Nm I qo (by have:=x.2.1;omega) ?_;rw[pT,abT];refine ba Nm I ?_;refine aJ qk 0 I ?_;have hlen:eq (c.take j++c.drop (j+1))=j+r:=by rw[aah,fD,aam];omega
 rcases abx r with h0|hr0
 ·subst h0;have hnil:c.drop (j+1)=[]:=aaZ fD;rw[hnil] at x36;refine MC 0 I (aac _) (.inl I) x36 ?_;refine ba Nm I ?_;refine jw qk 0 (.agg #[.slice ao j j]) I (fun w=>by kernel_rfl) ?_;refine aJ qk 0 I ?_;refine bJ 0 0 I I qk I I ?_;refine ba Nm I ?_;refine aM qk 1 I (acK ?_);refine fU 0 2 I I I I qk ⟨Le.refl _,I,ao,j,by rw[hlen];rfl,?_⟩;rw[hlen,hnil,aar];exact x31
 refine sO 0 I (.inl I) x31 (fun h=>by obtain ⟨a,ha⟩:=x.addr hjl qo;rw[ha] at h;cases h) (.inl rfl) x36 rfl Nn qo (by show (j+r)*8<=_;omega) (by simp only[maxLen];omega) fun ao37 c37 g37 o37=>?_;refine ba Nm I ?_;refine jw qk 0 (.agg #[.slice ao37 (j+r) c37]) I (fun w=>by kernel_rfl) ?_;refine aJ qk 0 I ?_;refine bJ 0 1 I I qk I I ?_;refine ba Nm I ?_;refine aM qk 1 I (acK (WQ.frz fun K' le lg=>?_));refine fU 0 2 I I I I qk ⟨le,I,ao37,c37,by rw[hlen],?_⟩;rw[hlen,show iv (c.take j++c.drop (j+1))=iv (c.take j)++iv (c.drop (j+1)) from by simp[iv]];exact o37.isS.le lg
end
end
section
def wQ(a:qj):Value:=.tuple #[.int .u64 a.1,.int .u64 a.2.1,.int .i64 a.2.2]
def GR{c:List Int}{n:Int}(h:(iz c n).2=0):0<=n/\n<7:=by
 unfold iz at h
 split at h
 ·cases h
 rename_i h1;exact (Decidable.not_not.1 h1).2.2
def FM{c:List Int}(n:Int):eq (iz c n).1<=eq c+1:=by
 unfold iz
 split
 ·simp
 split
 ·simp
 rw[(dJ _).length_eq];simp
def FL{c:List Int}(n:Int):eq (iW c n).1<=eq c:=by
 unfold iW
 split
 ·simp
 split
 ·simp
 exact acb _ _
section
variable {w0:World} {K lh g:PH} {hs:List PH} {rb lb db c q z k:Nat} {R:Nd} {L:Lg} {D:Dk} {s:NS}
def GK(b:List UInt8):(¬ec (iJ b)=0)=((iJ b).isSome=false):=by
 cases iJ b <;> simp[ec]
def Gj(iN:di K rb lb db R L D s lh g)(o:NI c q z k R L D)(hc:c<=800000000)(hk:k<=600000){hb:PH}(b:List UInt8)(hm:In K (pt rb (aW lb R s) RT::lh::g::hs) hb)(ab:Option Addr)(cb:Nat)(x:aw hb ab (eq b) cb 1 (bv b))(hl:eq b<1099511627776):
  fF w0 K hs rb lb db R s lh g 34 [Nr rb,.slice ab (eq b) cb] (R.propose L D b).1 (R.propose L D b).2.1 (R.propose L D b).2.2.1 (wQ (R.propose L D b).2.2.2):=by
 unfold Nd.propose;refine ent Tryz.func34 ?_;refine au ?_;refine cl 1 I uV ?_;rintro v10 K10 hs10 ⟨rfl,rfl,rfl⟩;refine au ?_;refine ai 1 I fun b12 h12=>?_;refine fin 0 I (th (ax h12 I (fun e2=>?_) (fun e2=>?_)))
 ·rw[aab e2];refine au ?_;exact eJ I I I I ⟨_,_,_,I,⟨s,I,Le.refl _,iN⟩,I⟩
 rw[aaa e2];refine sk (acF ?_);refine cl 1 I (Bz ab cb b hm x hl) ?_;rintro v16 K16 hs16 ⟨rfl,rfl,rfl⟩;refine al 3 (.agg #[.int .i64 0,.int .u64 0,.int .u64 0,.string ⟨#[]⟩,.int .i64 0]) I qk fun b7=>?_;refine au ?_;refine ai 1 I fun b20 h20=>?_;rw[GK] at h20;refine fin 0 I (th (ax h20 I (fun e4=>?_) (fun e4=>?_)))
 ·rw[aab e4];refine acI ?_;refine fin 3 I (acK (rT (WQ.drop ?_)));exact eJ I I I I ⟨_,_,_,I,⟨s,I,Le.refl _,iN⟩,I⟩
 rw[aaa e4];refine sk (acF ?_);refine cl 2 I (j4 ab cb b (In.cons hm) x hl) ?_;rintro v23 K23 hs23 ⟨rfl,h23,a23,c23,rfl,rfl,o23⟩;refine WL.frz fun K1 le lg=>?_;refine WL.hs (pt b7 ((iJ b).getD dy.zero).v 93::pt rb (aW lb R s) RT::lh::g::hs) I ?_;refine cl 0 I (Ct.at3 [_] (vR (iN.le le) o hc hk 1 b hl a23 c23 (o23.isS.le lg))) ?_;rintro v24 K24 hs24 ⟨_,_,_,rfl,⟨s2,rfl,le2,I2⟩,rfl⟩;refine fin 6 I (acK (WQ.drop ?_));exact eJ I I I I ⟨_,_,_,I,⟨s2,I,le.trans le2,I2⟩,I⟩
def Kv(iN:di K rb lb db R L D s lh g)(o:NI c q z k R L D)(hc:c<=900000000)(hk:k<=800000):
  fF w0 K hs rb lb db R s lh g 36 [Nr rb] (R.read L).1 L D (wQ (R.read L).2):=by
 unfold Nd.read;refine ent Tryz.func36 ?_;refine au ?_;refine cl 1 I uV ?_;rintro v6 K6 hs6 ⟨rfl,rfl,rfl⟩;refine au ?_;refine bh 1 I (fun e2=>?_) (fun e2=>?_)
 ·refine au ?_;rw[aab e2];refine au ?_;exact eJ I I I I ⟨_,_,_,I,⟨s,I,Le.refl _,iN⟩,I⟩
 rw[aaa e2];refine au ?_;refine cl 1 I (yP o hc iN.l) ?_;rintro v11 K11 hs11 ⟨_,_,rfl,rfl,rfl,rfl,rfl⟩;refine dE 0 (R.settled L=false) I (by cases R.settled L <;> simp) fun b12 h12=>?_;refine fin 0 I (th (ax h12 I (fun e3=>?_) (fun e3=>?_)))
 ·refine au ?_;rw[aab e3];refine au ?_;exact eJ I I I I ⟨_,_,_,I,⟨s,I,Le.refl _,iN⟩,I⟩
 rw[aaa e3];refine sk (acF ?_);refine cl 1 I (rE iN o hc hk true) ?_;rintro v14 K14 hs14 ⟨_,_,_,rfl,⟨s2,rfl,le2,I2⟩,rfl⟩;refine au ?_;refine bQ [0] 11 [0,2,4,6,8,10,12,14,16,18,20] ?_;refine au ?_;exact eJ I I I I ⟨_,_,_,I,⟨s2,I,le2,I2⟩,I⟩
def HU(iN:di K rb lb db R L D s lh g)(o:NI c q z k R L D)(hc:c<=800000000)(hk:k<=600000)(a:Bool)(n:Int):
  fF w0 K hs rb lb db R s lh g 35 [Nr rb,.bool a,.int .i64 n] (R.change L D a n).1 (R.change L D a n).2.1 (R.change L D a n).2.2.1 (wQ (R.change L D a n).2.2.2):=by
 have hlast:=o.last qo;have hcf:fS L.cfg.1:=iV o.rn.lb o.cf L.last;have hcl:=hcf.len;have hadl:=FM (c:=L.cfg.1) n;have hrml:=FL (c:=L.cfg.1) n;unfold Nd.change;refine ent Tryz.func35 ?_;refine au ?_;refine cl 1 I uV ?_;rintro v15 K15 hs15 ⟨rfl,rfl,rfl⟩;refine au ?_;refine ai 1 I fun b17 h17=>?_;refine fin 0 I (th (ax h17 I (fun e2=>?_) (fun e2=>?_)))
 ·rw[aab e2];refine au ?_;exact eJ I I I I ⟨_,_,_,I,⟨s,I,Le.refl _,iN⟩,I⟩
 rw[aaa e2];refine sk (acF ?_);refine cl 1 I (l9 o qo iN.l) ?_;rintro v21 K21 hs21 ⟨_,lh,rfl,rfl,rfl,le1,ao,cap,rfl,x⟩;have I1:=iN.le le1;refine al 3 (.agg #[.slice none 0 0]) I qk fun b9=>?_;refine bJ 0 0 I I qk I I ?_;refine WL.hs (pt b9 #[.slice ao (eq L.cfg.1) cap] 46::pt rb (aW lb R s) RT::lh::g::hs) I ?_;refine au ?_;refine cl 1 I (Ct.at2p [_] (yP o qo I1.l)) ?_;rintro v25 K25 hs25 ⟨_,lh,rfl,rfl,rfl,rfl,rfl⟩;refine dE 0 (R.settled L=false) I (by cases R.settled L <;> simp) fun b26 h26=>?_
 refine' dx (q:=R.com<L.cfg.2) 1 7 34 [26,27] h26 I I I I I I I (fun _=>?x3) (fun b34 h34=>?_)
 case x3=>
  refine au ?_;refine dE 0 (R.com<L.cfg.2) I Nm fun b33 h33=>?_;exact fin 1 I (bK h33 I I I)
 refine fin 0 I<|th (ax h34 I (fun e5=>?_) (fun e5=>?_))
 ·rw[aab e5];refine acI ?_;refine fin 3 I (acK (rT (WQ.drop ?_)));exact eJ I I I I ⟨_,_,_,I,⟨s,I,le1,I1⟩,I⟩
 rw[aaa e5];refine sk (th ?_);refine acI ?_;refine fin 1 I (th ?_);refine jn (σ:=Unit) (fun _=>[(0,Nr rb),(1,.bool a),(2,.int .i64 n),(9,Nr b9),(11,.func (.func (if a=true then 86 else 85)) #[] #[])]) (fun _=>pt b9 #[.slice ao (eq L.cfg.1) cap] 46::pt rb (aW lb R s) RT::lh::g::hs) (fun _=>True) ?_ ?_
 ·refine au ?_;refine fe I (fun h6=>?_) (fun h6=>?_)
  ·refine rg ?_;refine fin 1 I ?_;exact jx () trivial ⟨I,I,I,I,by rw[aab h6];rfl,trivial⟩ rfl rfl
  exact sk (jx () trivial ⟨I,I,I,I,by rw[aaa (by simp[h6])];rfl,trivial⟩ rfl rfl)
 rintro _ _
 have hcq:∀ hs':List PH,aj w0 (if a=true then 86 else 85) [.agg #[.slice ao (eq L.cfg.1) cap],.int .i64 n] K25 hs' (wK K25 hs' (if a=true then iz L.cfg.1 n else iW L.cfg.1 n)):=fun hs'=>by
  cases a with
  | true=>exact Ma ao cap L.cfg.1 x qo n
  | false=>exact LA ao cap L.cfg.1 x qo n
 have hb7:∀ h:a=true,(if a=true then iz L.cfg.1 n else iW L.cfg.1 n).2=0->0<=n/\n<7:=fun h h0=>by
  rw[aab h] at h0;exact GR h0
 have hrl:eq (if a=true then iz L.cfg.1 n else iW L.cfg.1 n).1<=8:=by
  split <;> omega
 dsimp only;generalize (if a=true then iz L.cfg.1 n else iW L.cfg.1 n)=r at hcq hb7 hrl ⊢;obtain ⟨r1,r2⟩:=r;dsimp only at hcq hb7 hrl ⊢;refine au ?_;refine cl 1 I (hcq _) ?_;rintro v40 K40 hs40 ⟨le2,rfl,ao2,cap2,rfl,x2⟩;refine bJ 3 0 I I qk I I ?_;refine WL.hs (pt b9 #[.slice ao2 (eq r1) cap2] 46::pt rb (aW lb R s) RT::lh::g::hs) I ?_;refine au ?_;refine ai 1 I fun b44 h44=>?_;have I2:=I1.le le2;have le12:=le1.trans le2;refine fin 0 I (th (ax h44 I (fun e8=>?_) (fun e8=>?_)))
 ·rw[aab e8];refine acI ?_;refine fin 4 I (acK (rT (WQ.drop ?_)));exact eJ I I I I ⟨_,_,_,I,⟨s,I,le12,I2⟩,I⟩
 rw[aaa e8];refine sk (th ?_);obtain ⟨R1,hR1⟩:=be (if a=true then R.setP n (Pr.new (L.last+1)) else R)
 have I3:di K40 rb lb db R1 L D s lh g:=by
  rw[hR1]
  split
  ·exact ⟨I2.l,I2.g.r⟩
  exact I2
 have o3:NI c q z k R1 L D:=by
  rw[hR1]
  split
  ·exact (o.r (o.rb.setP n (p:=Pr.new (L.last+1)) ⟨by unfold cM;exact (by decide:0+1<=4611686018427387904),hlast,by show 0<=ac;omega,aaC 0,by show (0:Int)<=2097152;omega⟩))
  exact o
 rw[<-hR1];refine jn (σ:=Unit) (fun _=>[(0,Nr rb),(9,Nr b9)]) (fun _=>pt b9 #[.slice ao2 (eq r1) cap2] 46::pt rb (aW lb R1 s) RT::lh::g::hs) (fun _=>True) ?_ ?_
 ·refine au ?_;refine fe I (fun h9=>?_) (fun h9=>?_)
  ·obtain ⟨hn0,hn7⟩:=hb7 h9 (Decidable.not_not.1 e8);obtain ⟨j,rfl⟩:∃ j:Nat,n=(j:Int):=⟨n.toNat,qo⟩;have hj7:j<7:=qo
   refine bQ [1] 12 [0,2,4,6,8,10,18,20,13,14,16,22,25] ?_;refine au ?_;refine cl 0 I (Ct.keep 2 I (j8 lb db L D c o.rn.lb qo I2.l)) ?_;rintro v53 K53 hs53 ⟨rfl,rfl,rfl⟩;refine ba Nm I ?_;refine bA qk 0 I (bL (x:=((L.last+1:Nat):Int)) (by unfold cM at hlast;omega)) ?_;refine jw qk 0 (.agg #[.int .u64 0,.int .u64 (L.last+1:Nat),.int .u64 0,.bool false,.int .i64 0]) I (fun w=>by kernel_rfl) ?_;refine od (sz:=5) (a:=⟨rb,10,none⟩) qk 0 j I Tryz.underlying101 qk I hj7 ?_;rw[bf];refine au ?_;refine kq 0 1 (off:=10+j*5) (cs:=#[.int .u64 0,.int .u64 (L.last+1:Nat),.int .u64 0,.bool false,.int .i64 0]) I I qk (by show 10+j*5+5<=54;omega) (fun v hv=>by simp at hv;rcases hv with rfl|rfl|rfl|rfl|rfl <;> rfl) ?_;refine WL.h 1 (pt rb (aW lb R1 s) RT) ?_ (.there (.here (by rw[hR1,aab h9,<-Bj lb R s hj7 (Pr.new (L.last+1))];rfl)))
   refine ci (.inl qk) ?_;refine aM qk 0 I ?_;exact jx () trivial sb I I
  exact sk<|jx () trivial sb I (by rw[hR1,aaa (by simp[h9])])
 rintro _ _;refine au ?_;refine cl 0 I (qX ao2 cap2 r1 (.inl I) x2 qo) ?_;rintro v61 K61 hs61 ⟨rfl,h61,a61,c61,rfl,rfl,o61⟩;refine fin 5 I (acF (WL.frz fun K1 le lg=>?_))
 have hpl:eq (ob (bU r1))<1099511627776:=by
  unfold bU
  split <;> simp[ob]
 refine cl 2 I (Ct.at3 [_] (vR (I3.le le) o3 hc hk 2 (ob (bU r1)) hpl a61 c61 (o61.isS.le lg))) ?_;rintro v66 K66 hs66 ⟨_,_,_,rfl,⟨s2,rfl,le3,I4⟩,rfl⟩;refine fin 6 I (acK (WQ.drop ?_));exact eJ I I I I ⟨_,_,_,I,⟨s2,I,(le12.trans le).trans le3,I4⟩,I⟩
end
end
section
section
variable {w0:World} {K lh g:PH} {hs:List PH} {rb lb db c q z k:Nat} {R:Nd} {L:Lg} {D:Dk} {s:NS}
def Ks:aj w0 30 [Nr rb] K (pt rb (aW lb R s) RT::hs) (fun v K' hs'=>K'=K/\hs'=pt rb (aW lb R s) RT::hs/\v=.int .i64 R.role):=by
 refine ent Tryz.func30 ?_;refine au ?_;exact ah I I ⟨I,I,I⟩
def AB:aj w0 15 [Nr rb] K (pt rb (aW lb R s) RT::hs) (fun v K' hs'=>K'=K/\hs'=pt rb (aW lb R s) RT::hs/\v=.int .u64 R.com):=by
 refine ent Tryz.func15 ?_;refine au ?_;exact ah I I ⟨I,I,I⟩
def Hx:aj w0 31 [Nr rb] K (pt rb (aW lb R s) RT::hs) (fun v K' hs'=>K'=K/\hs'=pt rb (aW lb R s) RT::hs/\v=.int .i64 R.lead):=by
 refine ent Tryz.func31 ?_;refine au ?_;exact ah I I ⟨I,I,I⟩
def Fw(iN:gt K rb R s g):
  aj w0 12 [Nr rb] K (pt rb (aW lb R s) RT::g::hs)
   (fun v K' hs'=>∃ a g',hs'=a::g'::hs/\Le K K'/\(∃ s',a=pt rb (aW lb { R with out:=[] } s') RT/\gt K' rb { R with out:=[] } s' g')/\∃ ao cap,v=.slice ao (eq R.out) cap/\dn 14 (kW K') K' ao (eq R.out) cap R.out):=by
 obtain ⟨hy,hd,hq,rfl,dj,⟨y,v,d,⟨aO,cO,eo,so⟩,f⟩⟩:=iN;obtain ⟨sy,sv,sd,sq',f0,f1,f2⟩:=s;dsimp only at eo y v d f;subst eo;refine ent Tryz.func12 ?_;refine acI ?_;refine fin 1 I (acF ?_);refine a9 3 0 I I I ?_;refine fin 1 I (acF ?_);refine stp 3 0 I I I I ?_;refine WL.h 0 (pt rb (aW lb { R with out:=[] } ⟨sy,sv,sd,.slice none 0 0,f0,f1,f2⟩) RT) ?_;refine WL.perm (aal [_] [_] hs) (WL.split dj ?_);refine fin 0 I (acF ?_);refine WL.perm (hs':=hq::hy::hd::pt rb (aW lb { R with out:=[] } ⟨sy,sv,sd,.slice none 0 0,f0,f1,f2⟩) RT::hs) ?_ (WL.frz fun K1 le lg=>WL.em ?_)
 ·exact (aal [hy,hd] [hq] _)
 refine WL.perm (aal [En.em] [hy,hd] _) (WL.join [hy,hd,En.em] fun dj'=>WL.perm (aal [_] [_] hs) ?_);refine au ?_;refine ah I I ⟨_,_,I,le,⟨_,I,hy,hd,En.em,I,dj',?_⟩,aO,cO,I,?_⟩
 ·obtain ⟨y',v',d',_,f'⟩:=(lX.mk y v d ⟨aO,cO,rfl,so⟩ f:lX K rb R ⟨sy,sv,sd,.slice aO (eq R.out) cO,f0,f1,f2⟩ hy hd hq).le le;exact ⟨y',v',d',⟨none,0,I,jd.nil _ _⟩,f'⟩
 exact so.slS.le lg fun _ _=>kW.le le
def LC(o:bp c L)(hL:dG K lb db L D lh)(n:Int):
  aj w0 61 [.int .i64 n,Nr lb] K (lh::hs)
   (fun v K' hs'=>∃ rb g,hs'=pt rb (aW lb (Nd.new n L) ⟨.slice none 0 0,.slice none 0 0,.slice none 0 0,.slice none 0 0,gp rb,gp rb,ko rb⟩) RT::lh::g::hs/\v=Nr rb/\Le K K'/\di K' rb lb db (Nd.new n L) L D ⟨.slice none 0 0,.slice none 0 0,.slice none 0 0,.slice none 0 0,gp rb,gp rb,ko rb⟩ lh g):=by
 refine ent Tryz.func61 ?_;refine au ?_;refine cl 3 I (pX lb db L D c o hL) ?_;rintro v9 K9 hs9 ⟨h',rfl,hh,le,aV,cV,aD,cD,rfl,xV,xD⟩;subst hh;refine iT 0 (v:=.int .u64 L.sn.idx) I (fun A w ha _=>nJ (t:=48) (x:=.tmp 9) (i:=0) (v:=.agg (cP L.sn aV cV aD cD)) I I (fun w=>by kernel_rfl) A w ha) ?_;refine bd 0 (.agg (aW lb (Nd.new n L) ⟨.slice none 0 0,.slice none 0 0,.slice none 0 0,.slice none 0 0,.nilFunc,.nilFunc,.nilFunc⟩)) I (fun w=>by kernel_rfl) ?_;refine bx 0 I fun rb=>?_;refine WL.hs (pt rb (aW lb (Nd.new n L) ⟨.slice none 0 0,.slice none 0 0,.slice none 0 0,.slice none 0 0,.nilFunc,.nilFunc,.nilFunc⟩) RT::h'::hs) I ?_;refine au ?_;refine iT 2 (v:=gp rb) I (fun A w ha _=>uR (f:=.func 121) (x:=.tmp 14) (v:=Nr rb) I I (fun w=>by kernel_rfl) A w ha) ?_;refine iT 1 (v:=gp rb) I (fun A w ha _=>uR (f:=.func 121) (x:=.tmp 16) (v:=Nr rb) I I (fun w=>by kernel_rfl) A w ha) ?_
 refine iT 1 (v:=ko rb) I (fun A w ha _=>uR (f:=.func 122) (x:=.tmp 18) (v:=Nr rb) I I (fun w=>by kernel_rfl) A w ha) ?_;refine bd 0 (.agg #[gp rb,gp rb,ko rb]) I (fun w=>by kernel_rfl) ?_;refine kq 2 0 (off:=51) (cs:=#[gp rb,gp rb,ko rb]) I I qk (by show 51+3<=54;omega) (fun v hv=>by simp at hv;rcases hv with rfl|rfl <;> rfl) ?_;refine WL.hs (pt rb (aW lb (Nd.new n L) ⟨.slice none 0 0,.slice none 0 0,.slice none 0 0,.slice none 0 0,gp rb,gp rb,ko rb⟩) RT::h'::hs) I ?_;refine fin 0 I (acF ?_);refine fin 2 I (acK (WQ.em (WQ.em (WQ.em (WQ.join [En.em,En.em,En.em] fun dj=>WQ.perm (aal [_] [_,_] hs) ?_)))));exact ah I I ⟨rb,_,I,I,le,⟨hL.le le,En.em,En.em,En.em,I,dj,⟨none,0,I,aZ.nil _ _⟩,⟨none,0,I,aw.nil _ _ _ _⟩,⟨none,0,I,aZ.nil _ _⟩,⟨none,0,I,jd.nil _ _⟩,I,I,I⟩⟩
def Kq(iN:di K rb lb db R L D s lh g)(o:NI c q z k R L D)(hc:c<=499900000)(i:Nat)(hi:i<18446744073709551616)(data:List UInt8)(hdl:eq data<1099511627776)(aT:Option Addr)(cT:Nat)(xT:aw K aT (eq data) cT 1 (bv data)):
  fF w0 K hs rb lb db R s lh g 37 [Nr rb,.int .u64 (i:Nat),.slice aT (eq data) cT] (R.save L D i data).1 (R.save L D i data).2.1 (R.save L D i data).2.2.1 (.int .i64 (R.save L D i data).2.2.2):=by
 have hcf:fS (eg L.sn L.l i).1:=iV o.rn.lb o.cf i;have hcl:=hcf.len;unfold Nd.save;refine ent Tryz.func37 ?_;refine acI ?_;refine fin 1 I (th (sq (bk (acI ?_))));refine a9 3 0 (v:=.bool R.hl) I I I ?_;refine fin 1 I (th (fe I (fun e1=>?_) (fun e1=>?_)))
 ·rw[aab e1];refine au ?_;exact ah I I ⟨_,_,_,I,⟨s,I,Le.refl _,iN⟩,I⟩
 rw[aaa (by simp[e1])];obtain ⟨bq,hbq⟩:=be (decide (R.com<i\/i<=L.sn.idx));refine jR (σ:=PH) (fun _=>[(0,Nr rb),(1,.int .u64 (i:Nat)),(2,.slice aT (eq data) cT),(17,.bool bq)]) (fun u=>u) (fun _=>pt rb (aW lb R s) RT::lh::g::hs) (fun u=>Le K u) ?_ ?_
 ·refine au ?_;refine bh 0 I (fun h1=>?_) (fun h1=>?_)
  ·refine fin 11 I ?_;exact fb K (Le.refl _) ⟨I,I,I,by rw[hbq,decide_eq_true (.inl qo)];rfl,trivial⟩ rfl rfl
  refine au ?_;refine cl 0 I (Ct.at 1 I (pX lb db L D c o.rn.lb iN.l)) ?_;rintro v30 K30 hs30 ⟨h',rfl,hh,le,aV,cV,aD,cD,rfl,xV,xD⟩;subst hh;refine iT 0 (v:=.int .u64 L.sn.idx) I (fun A w ha _=>nJ (t:=48) (x:=.tmp 30) (i:=0) (v:=.agg (cP L.sn aV cV aD cD)) I I (fun w=>by kernel_rfl) A w ha) ?_;refine dE 0 (i<=L.sn.idx) I Nm fun b32 h32=>?_;refine fin 2 I ?_
  have e:b32=bq:=by
   rw[hbq,aaS,h32,decide_eq_true_iff];omega
  exact fb K30 le ⟨I,I,I,by rw[<-e];rfl,trivial⟩ rfl rfl
 intro K2 le;dsimp only at le ⊢;have iN:=iN.le le;refine fe I (fun h=>?_) (fun h=>?_)
 ·rw[h] at hbq;rw[aab (of_decide_eq_true hbq.symm)];refine au ?_;exact ah I I ⟨_,_,_,I,⟨s,I,le,iN⟩,I⟩
 rw[h] at hbq;rw[aaa (of_decide_eq_false hbq.symm)];refine au ?_;refine cl 1 I (Ct.keep 1 I (lO lb db L D c o.rn.lb qo iN.l i hi)) ?_;rintro v40 K40 hs40 ⟨rfl,rfl,rfl⟩;refine au ?_;refine cl 1 I (Ct.at 1 I (BI lb db L D c o.rn.lb qo iN.l i (by unfold ac;omega))) ?_;rintro v49 K49 hs49 ⟨h',rfl,hh,le2,aS,cS,rfl,xS⟩;subst hh;refine al 3 (.agg #[.slice none 0 0]) I qk fun b9=>?_;refine bJ 0 0 I I qk I I ?_;refine WL.hs (pt b9 #[.slice aS (eq (eg L.sn L.l i).1) cS] 46::pt rb (aW lb R s) RT::h'::g::hs) I ?_;have I2:=iN.le le2;have le3:=le.trans le2;have hsv:=fun (hs':List PH)=>Lw (w0:=w0) (hs:=hs') lb db L D c o.rn.lb hc o.rn.ok I2.l ⟨i,(L.trm i).1,(eg L.sn L.l i).1,data⟩ hi (trm_le o.rn.lb i) aH hdl aS cS aT cT xS (xT.le le3);generalize L.save ⟨i,(L.trm i).1,(eg L.sn L.l i).1,data⟩ D=A at hsv ⊢;obtain ⟨L1,D1,c1⟩:=A;dsimp only at hsv ⊢;refine au ?_
 refine bQ [1,0] 11 [0,2,4,6,8,10,12,14,16,19,20] ?_;refine au ?_;refine jw qk 1 (.agg (cP ⟨i,(L.trm i).1,(eg L.sn L.l i).1,data⟩ aS cS aT cT)) I (fun w=>by kernel_rfl) ?_;refine au ?_;refine cl 0 I (Ct.at 2 I (hsv _)) ?_;rintro v61 K61 hs61 ⟨h2,rfl,dg,hL2,rfl⟩;refine WL.hs (pt b9 #[.slice aS (eq (eg L.sn L.l i).1) cS] 46::pt rb (aW lb R s) RT::h2::g::hs) I ?_;refine eK Nm dg ?_;have le5:=le3.trans dg;refine au ?_;refine ai 1 I fun b63 h63=>?_;refine fin 0 I (th (ax h63 I (fun e7=>?_) (fun e7=>?_)))
 ·rw[aab e7];refine acI ?_;refine fin 2 I (acK (rT (WQ.drop ?_)));exact ah I I ⟨_,_,_,I,⟨s,I,le5,hL2,I2.g.le dg⟩,I⟩
 rw[aaa e7];refine sk (acF ?_);refine cl 2 I (Ct.at3 [_] (kL (lh:=h2) (I2.g.le dg) c1)) ?_;rintro v67 K67 hs67 ⟨_,lh,g1,rfl,rfl,⟨s1,rfl,G1⟩,rfl,rfl⟩;refine fin 1 I (acK (WQ.drop ?_));exact ah I I ⟨_,_,_,I,⟨s1,I,le5,hL2,G1⟩,I⟩
end
end
section
def ka(vN:Value)(v:Nat)(bm:Nat):Array Value:=#[vN,.int .i64 (v:Nat),.slice none 0 0,.slice none 0 0,.slice none 0 0,.map (some bm),.slice none 0 0,.int .u64 0,.int .u64 0,.bool false]
def fR(v:Nat):List Int:=(List.range v).map fun i=>((i:Nat):Int)
def zZ(v:Nat):eq (fR v)=v:=by simp[fR]
def GD(v:Nat):fR (v+1)=fR v++[(v:Int)]:=by simp[fR,List.range_succ]
def eR(v:Nat):Lg:=⟨⟨none,1,[],[],0,0⟩,⟨0,[]⟩,⟨0,[]⟩,0,-1,⟨0,0,fR v,[]⟩,0,0,[],0⟩
structure fE where
 db:Nat
 lb:Nat
 rb:Nat
 R:Nd
 L:Lg
 D:Dk
 s:NS
 lh:PH
 g:PH
def fE.vals(s:fE):List Value:=[.pointer (some ⟨s.db,0,none⟩),.pointer (some ⟨s.lb,0,none⟩),.pointer (some ⟨s.rb,0,none⟩)]
abbrev kj:Nat:=85
abbrev kV:Nat:=73
def fE.hp(s:fE):List PH:=[pt s.rb (aW s.lb s.R s.s) RT,s.lh,s.g]
def fE.ok(K:PH)(s:fE):Prop:=di K s.rb s.lb s.db s.R s.L s.D s.s s.lh s.g
def io(ss:List fE):List PH:=ss.flatMap fE.hp
def rV{v:Nat}(hv:1<=v/\v<=7):fA (dT 16777216) (fR v)=(some (eR v),dT 16777216,0):=by
 obtain rfl|rfl|rfl|rfl|rfl|rfl|rfl:v=1\/v=2\/v=3\/v=4\/v=5\/v=6\/v=7:=qo
 all_goals kernel_rfl
def wM{v:Nat}(hv:1<=v/\v<=7):Rn 0 0 (eR v) (dT 16777216):=by
 have r:=(Rn.opened (uY (r:=16777216) qo) (q:=0) (by simp[dT]) (first:=fR v) (L:=eR v) (by rw[rV hv])).1;rw[rV hv] at r;exact r
def BD(v:Nat)(hv:v<=7):aj w0 23 [.int .i64 (v:Nat)] K hs (fun u K' hs'=>Le K K'/\hs'=hs/\∃ ao cap,u=.agg #[.slice ao (eq (fR v)) cap]/\aw K' ao (eq (fR v)) cap 1 (iv (fR v))):=by
 refine ent Tryz.func23 ?_;refine acI ?_;refine al 0 (.agg #[.slice none 0 0]) I qk fun b2=>?_;refine au ?_;refine al 0 (.agg #[.slice none 0 0]) I qk fun b3=>?_;refine fin 0 I (acE ?_);refine fin 2 I (th (bk (WC.em ?_)))
 refine loop (σ:=Nat×Option Addr×Nat×PH) (fun s=>[(2,Nr b2),(3,Nr b3),(5,.int .i64 (v:Nat)),(6,.int .i64 s.1)]) (fun _=>K)
  (fun s=>s.2.2.2::pt b3 #[.slice s.2.1 (eq (fR s.1)) s.2.2.1] 46::pt b2 #[.slice none 0 0] 46::hs) (fun s=>s.1<=v/\aZ s.2.2.2 s.2.1 (eq (fR s.1)) s.2.2.1 3 1 (iv (fR s.1))) (fun s=>v-s.1) (0,none,0,En.em) ⟨aad _,aZ.nil _ _⟩ ⟨rfl,rfl,rfl,rfl,trivial⟩ rfl rfl ?_
 rintro ⟨j,ao,cap,g⟩ ⟨hj,ow⟩;dsimp only at *;have hfl:=zZ j;refine acI ?_;refine ai 0 I fun b7 h7=>?_;refine au ?_;refine ax h7 I (fun e2=>?_) (fun e2=>?_)
 ·refine au ?_;refine lit 1 #[.int .i64 (j:Nat)] I Nn qk fun b12=>?_;refine wH 0 1 (fR j) (j:Int) I I I ow (.inr ⟨0,I⟩) (aZ.ofPt (b:=b12) (c:=#[.int .i64 (j:Nat)]) (e:=3) (n:=1) (size:=1) I Nn).isS qo fun ao13 c13 g13 o13=>?_;rw[<-GD] at o13 ⊢;refine stp 1 2 I I I I ?_;refine WL.hs (pt b12 #[.int .i64 (j:Nat)] 3::g13::pt b3 #[.slice ao13 (eq (fR (j+1))) c13] 46::pt b2 #[.slice none 0 0] 46::hs) I ?_;refine WL.drop ?_;refine au ?_;refine ar 0 I (aC (x:=((j+1:Nat):Int)) qo) ?_;refine fin 1 I ?_;exact bw (x:=(j,ao,cap,g)) (j+1,ao13,c13,g13) sb I I ⟨aH,o13⟩ aH
 obtain rfl:j=v:=qo
 refine ex (xt (xt (xb (acF ?_))));refine fh 0 1 I I qk ?_;refine bJ 0 2 I I qk I I ?_;refine WL.frz fun K2 l1 l2=>?_;refine WL.hs (pt b3 #[.slice ao (eq (fR j)) cap] 46::pt b2 #[.slice ao (eq (fR j)) cap] 46::hs) I ?_;refine au ?_;exact jJ 1 2 I I I qk ⟨l1,I,ao,cap,I,ow.isS.le l2⟩
def CG{i v:Nat}(hi:i<7)(hv:1<=v/\v<=7)(r:Rn 0 0 (eR v) (dT 16777216)):NI 0 0 0 0 (Nd.new (i:Int) (eR v)) (eR v) (dT 16777216):=by
 refine ⟨⟨⟨by show 0<=(i:Int);omega,by show (i:Int)<7;omega⟩,.inl rfl,⟨aaC _,by show (-1:Int)<7;decide⟩,aad _,⟨aaC _,aaC _⟩,⟨aaC _,by show (0:Int)<=31;decide⟩,aac _,aac _,fun _=>?_,⟨aad _,aad _,aad _,aad _⟩,aac _⟩,r,?_⟩
 ·exact (by unfold Pr.ok cM ac;decide:Pr.ok ⟨0,0,0,false,0⟩)
 have:∀ v<8,1<=v->(bU (fR v)).isSome=true:=by decide
 exact this v qo hv.1
def wX(v n:Nat)(ss:List fE):Prop:=eq ss=n/\∀ (i:Nat) (s:fE),ss[i]?=some s->s.R=Nd.new (i:Int) (eR v)/\s.L=eR v/\s.D=dT 16777216
structure wW where
 j:Nat
 K:PH
 ss:List fE
 g:PH
 ao:Option Addr
 cap:Nat
def HD(ss:List fE)(s:fE):io (ss++[s])=io ss++fE.hp s:=by simp[io]
def BO(n v:Nat)(hv:1<=v/\v<=n/\n<=7):aj w0 25 [.int .i64 (n:Nat),.int .i64 (v:Nat)] K hs
  (fun u K' hs'=>∃ wb bm ss g ao cap,hs'=g::pt wb (ka (.slice ao n cap) v bm) kV::sg bm (.map #[] 0)::(io ss++hs)/\Le K K'/\wX v n ss/\(∀ s∈ss,fE.ok K' s)/\aZ g ao n cap kj 3 (ss.flatMap fE.vals)/\u=Nr wb):=by
 refine ent Tryz.func25 ?_;refine au ?_;refine bh 1 I (fun h=>absurd h qo) (fun _=>?_);refine bh 3 I (fun h=>absurd h qo) (fun _=>?_);refine bh 3 I (fun h=>absurd h qo) (fun _=>?_);refine au ?_;refine sU 1 I fun bm=>?_;refine bd 0 (.agg (ka (.slice none 0 0) v bm)) I (fun w=>by kernel_rfl) ?_;refine bx 0 I fun wb=>?_;refine WL.hs (pt wb (ka (.slice none 0 0) v bm) kV::sg bm (.map #[] 0)::hs) I ?_;refine fin 1 I (acE ?_);refine fin 2 I (th (bk (WC.em ?_)))
 refine loop (σ:=wW) (fun s=>[(1,.int .i64 (v:Nat)),(5,Nr wb),(25,.int .i64 (n:Nat)),(26,.int .i64 s.j)]) (fun s=>s.K)
  (fun s=>s.g::pt wb (ka (.slice s.ao s.j s.cap) v bm) kV::sg bm (.map #[] 0)::(io s.ss++hs))
  (fun s=>s.j<=n/\Le K s.K/\wX v s.j s.ss/\(∀ t∈s.ss,fE.ok s.K t)/\aZ s.g s.ao s.j s.cap kj 3 (s.ss.flatMap fE.vals)) (fun s=>n-s.j) ⟨0,K,[],En.em,none,0⟩ ⟨aad _,Le.refl _,⟨rfl,fun i s h=>by simp at h⟩,(fun t ht=>by cases ht),aZ.nil _ _⟩ ⟨rfl,rfl,rfl,rfl,trivial⟩ rfl rfl ?_
 rintro ⟨j,K1,ss,g,ao,cap⟩ ⟨hj,le,hB,hO,ow⟩;dsimp only at *;refine acI ?_;refine bh 0 I (fun e2=>?_) (fun e2=>?_)
 ·refine au ?_;refine cl 0 I (Mm 16777216 qo) ?_;rintro v29 K29 hs29 ⟨rfl,db,dh,rfl,hD,rfl⟩;refine bd 0 (.agg #[Nr db,.pointer none,.pointer none]) I (fun w=>by kernel_rfl) ?_;refine al 0 (.agg #[.pointer none,.pointer none,.pointer none]) I qk fun b7=>?_;refine bJ 0 0 I I qk I I ?_;refine WL.hs (pt b7 #[Nr db,.pointer none,.pointer none] kj::dh::g::pt wb (ka (.slice ao j cap) v bm) kV::sg bm (.map #[] 0)::(io ss++hs)) I ?_;refine fin 0 I (acE ?_);refine a9 1 0 I I I ?_;refine fin 1 I (th (bY I ?_));refine sk (th (sq (bG [pt b7 #[Nr db,.pointer none,.pointer none] kj] 10 [0,2,4,7,9,10,12,14,16,18] Nm qk qk ?_)));refine au ?_;refine cl 0 I (BD v qo) ?_;rintro v38 K38 hs38 ⟨le1,rfl,ao3,cap3,rfl,x⟩;refine eK Nm le1 ?_;refine au ?_;refine cl 0 I (Ct.at 1 I (CP db (dT 16777216) 0 (uY qo) qo (hD.le le1) (fR v) (by rw[zZ];omega) ao3 cap3 x)) ?_
  rintro v39 K39 hs39 ⟨h,rfl,le2,hX⟩;rw[rV qo] at hX;rcases hX with ⟨hn',_⟩|⟨L',lb,hL',rfl,hL⟩
  ·cases hn'
  cases hL';refine WL.hs (pt b7 #[Nr db,.pointer none,.pointer none] kj::h::g::pt wb (ka (.slice ao j cap) v bm) kV::sg bm (.map #[] 0)::(io ss++hs)) I ?_;refine eK Nm le2 ?_;refine aM qk 5 I (acE ?_);refine fin 6 I (th (bY I ?_));refine sk (acF ?_);refine stp 2 0 I I I I ?_;refine WL.perm (hs':=h::pt b7 #[Nr db,Nr lb,.pointer none] kj::g::pt wb (ka (.slice ao j cap) v bm) kV::sg bm (.map #[] 0)::(io ss++hs)) (aat _ _ _) ?_;refine au ?_;refine cl 2 I (LC (wM qo).lb hL (j:Int)) ?_;rintro v52 K52 hs52 ⟨rb,g2,rfl,rfl,le3,I3⟩;refine stp 1 3 I I I I ?_;generalize (⟨.slice none 0 0,.slice none 0 0,.slice none 0 0,.slice none 0 0,gp rb,gp rb,ko rb⟩:NS)=s0 at I3 ⊢;obtain ⟨st,hst⟩:∃ st:fE,st=⟨db,lb,rb,Nd.new (j:Int) (eR v),eR v,dT 16777216,s0,h,g2⟩:=⟨_,rfl⟩
  refine WL.hs (pt rb (aW lb (Nd.new (j:Int) (eR v)) s0) RT::h::g2::pt b7 #[Nr db,Nr lb,Nr rb] kj::g::pt wb (ka (.slice ao j cap) v bm) kV::sg bm (.map #[] 0)::(io ss++hs)) I ?_;refine fin 0 I (acE ?_);refine a9 1 3 I I I ?_;refine fin 1 I (th (bY I ?_));refine sk (th (bQ [5,3] 10 [0,2,4,6,8,10,13,15,16,18,21] ?_));refine au ?_;refine lit 0 #[Nr db,Nr lb,Nr rb] I Nn qk fun b63=>?_;refine ba Nm I ?_;refine aJ qk 0 I ?_;refine app 0 5 I I ow (.inr ⟨0,I⟩) (aZ.ofPt (b:=b63) (c:=#[Nr db,Nr lb,Nr rb]) (e:=kj) (n:=1) (size:=3) I Nn).isS I Nn (by intro u hu;simp at hu;rcases hu with rfl|rfl|rfl <;> rfl) (by show (j+1)*24<=_;omega) (by simp[maxLen];omega) fun an cn gn on=>?_
  refine ba Nm I ?_;refine aJ qk 2 I ?_;refine stp 0 6 I I I I ?_;refine WL.hs (pt b63 #[Nr db,Nr lb,Nr rb] kj::pt rb (aW lb (Nd.new (j:Int) (eR v)) s0) RT::h::g2::pt b7 #[Nr db,Nr lb,Nr rb] kj::gn::pt wb (ka (.slice an (j+1) cn) v bm) kV::sg bm (.map #[] 0)::(io ss++hs)) I ?_;refine ci (.inl qk) ?_;refine aM qk 0 I (acG ?_);refine WL.drop (WL.perm (aal [_,_,_] [_] _) (WL.drop ?_));refine ar 0 I (aC (x:=((j+1:Nat):Int)) qo) ?_;refine fin 1 I ?_
  have hB1:wX v (j+1) (ss++[st]):=by
   obtain ⟨h1,h2⟩:=hB;refine ⟨by simp[h1],fun i s hs=>?_⟩;rw[List.getElem?_append] at hs
   split at hs
   ·exact h2 i s hs
   rename_i hi;rw[List.getElem?_singleton] at hs
   split at hs
   ·obtain rfl:i=j:=qo
    cases hs;rw[hst];exact ⟨I,I,I⟩
   cases hs
  have hO1:∀ t∈ss++[st],fE.ok K52 t:=by
   intro t ht;rcases aaj.1 ht with ht|ht
   ·exact (hO t ht).le<|(le1.trans le2).trans le3
   rw[aaz.1 ht,hst];exact I3
  have ev:(ss++[st]).flatMap fE.vals=ss.flatMap fE.vals++(#[Nr db,Nr lb,Nr rb]:Array Value).toList:=by
   rw[List.flatMap_append,hst]
   rfl
  refine WQ.perm (hs':=gn::pt wb (ka (.slice an (j+1) cn) v bm) kV::sg bm (.map #[] 0)::(io (ss++[st])++hs)) ?_ ?_
  ·rw[HD,hst,aaD];exact (aal [_,_,_] [_,_,_] _).trans ((((aal [_,_,_] (io ss) hs).cons _).cons _).cons _)
  exact bw (x:=(⟨j,K29,ss,g,ao,cap⟩:wW)) (⟨j+1,K52,ss++[st],gn,an,cn⟩:wW) sb I I ⟨aH,((le.trans le1).trans le2).trans le3,hB1,hO1,by rw[ev];exact on⟩ aH
 refine au ?_;obtain rfl:j=n:=qo
 refine au ?_;exact ah I I ⟨wb,bm,ss,g,ao,cap,I,le,hB,hO,ow,I⟩
end
section
def eG:Nat->Nd×Lg×Dk
 | 0=>(Nd.new 0 (eR 1),eR 1,dT 16777216)
 | j+1=>let A:=(eG j).1.tick (eG j).2.1 (eG j).2.2 0;(A.1,A.2.1,A.2.2.1)
def Kh:(eG 31).1.role=2/\(eG 31).1.com=1/\(eG 31).1.lead=0:=by
 refine ⟨?_,?_,?_⟩
 all_goals kernel_rfl
def CL:eG 0=(Nd.new ((0:Nat):Int) (eR 1),eR 1,dT 16777216):=rfl
def vH(j:Nat):eG (j+1)=(((eG j).1.tick (eG j).2.1 (eG j).2.2 0).1,((eG j).1.tick (eG j).2.1 (eG j).2.2 0).2.1,((eG j).1.tick (eG j).2.1 (eG j).2.2 0).2.2.1):=rfl
attribute [local irreducible] eG
def Ct.lawN{f:FuncId}{args:List Value}{u:Value}(c:Ct P w0 f args K hs (fun v K' hs'=>hs'=hs/\Le K K'/\v=u)):Ct P w0 f args K hs (fun v K' hs'=>K'=K/\hs'=hs/\v=u):=
 Ct.fix2 c (fun w v K' hs' hS ⟨hh,le,hv⟩=>⟨K,hs,⟨rfl,rfl,hv⟩,by subst hh;exact hS.weak le⟩)
def DO(a:Addr)(k:Nat):a.add (0*k)=a:=by simp[Addr.add]
structure wR where
 j:Nat
 K:PH
 s:NS
 lh:PH
 g:PH
theorem B1:∀ j,j<=31->NI (15*j) (2*j) 0 (25*j) (eG j).1 (eG j).2.1 (eG j).2.2
 | 0,_=>by rw[CL];exact CG (i:=0) (v:=1) qo qo (wM qo)
 | j+1,h=>by rw[vH];exact (B1 j qo).tick qo 0
def BS{w0:World}{K:PH}{hs:List PH}:aj w0 10 [] K hs (fun v K' hs'=>K'=K/\hs'=hs/\v=.bool true):=by
 refine Ct.lawN ?_;refine ent Tryz.func10 ?_;refine au ?_;refine cl 0 I (BO 1 1 qo) ?_;rintro v3 K3 hs3 ⟨wb,bm,ss,g0,ao,cap,rfl,le,⟨hl,hB⟩,hO,on,rfl⟩;obtain ⟨st,rfl⟩:=List.length_eq_one_iff.1 hl;obtain ⟨hR,hLg,hD⟩:=hB 0 st rfl;have hok:=hO st (aaz.2 rfl);obtain ⟨db,lb,rb,R,L,D,s,lh,g⟩:=st;unfold fE.ok at hok;dsimp only at hR hLg hD hok;obtain ⟨X,hX⟩:=be (eG 0);have hX':=hX;rw[CL] at hX';obtain rfl:R=X.1:=by rw[hR,hX']
 obtain rfl:L=X.2.1:=by rw[hLg,hX']
 obtain rfl:D=X.2.2:=by rw[hD,hX']
 subst hX;refine WL.frz fun K4 l1 l2=>WL.frz fun K5 l3 l4=>WL.drop ?_;have hok:=(hok.le l1).le l3;have on:=on.isS.le (l2.trans l3);obtain ⟨a,rfl⟩:=on.addr (j:=0) qo qo
 have c2:cC K5 ((a.add (0*3)).add 2) (Nr rb):=by
  rw[DO];obtain ⟨a',ha,hc⟩:=on.2.2 2 _ rfl;cases ha;exact hc
 refine WL.hs (pt rb (aW lb (eG 0).1 s) RT::lh::g::hs) I ?_;refine fin 1 I (acE ?_);refine fin 2 I (th (bY I ?_));refine sk (acF ?_);refine ld 3 I (.inl I) (cC.le l4 (cC.pt I)) ?_;refine fj 0 0 I I on qo Nn fun a10 h10=>?_;cases h10;refine ld 1 I (.inl I) c2 ?_;refine au ?_
 refine loop (σ:=wR) (fun s=>[(2,Nr rb),(13,.int .i64 s.j)]) (fun s=>s.K) (fun s=>pt rb (aW lb (eG s.j).1 s.s) RT::s.lh::s.g::hs)
  (fun s=>s.j<=31/\Le K s.K/\di s.K rb lb db (eG s.j).1 (eG s.j).2.1 (eG s.j).2.2 s.s s.lh s.g) (fun s=>31-s.j) ⟨0,K5,s,lh,g⟩ ⟨aH,(le.trans l1).trans l3,hok⟩ sb rfl rfl ?_
 rintro ⟨j,K1,s1,lh1,g1⟩ ⟨hj,le1,I1⟩;dsimp only at *;refine acI ?_;refine bh 0 I (fun e4=>?_) (fun e4=>?_)
 ·refine au ?_;refine cl 1 I (B2 I1 (B1 j hj) qo qo 0 Nn) ?_;rintro v16 K16 hs16 ⟨_,lh2,g2,rfl,⟨s2,rfl,le2,I2⟩,rfl⟩;refine au ?_;refine ar 0 I (aC (x:=((j+1:Nat):Int)) qo) ?_;refine fin 1 I ?_;exact bw (x:=(⟨j,K1,s1,lh1,g1⟩:wR)) (⟨j+1,K16,s2,lh2,g2⟩:wR) sb I (by rw[vH]) ⟨aH,le1.trans le2,by rw[vH];exact I2⟩ aH
 refine au ?_
 have h31:(eG j).1.role=2/\(eG j).1.com=1/\(eG j).1.lead=0:=by
  obtain rfl:j=31:=qo
  exact Kh
 obtain ⟨t1,t2,t3⟩:=h31;refine au ?_;refine cl 1 I Ks ?_;rintro v19 K19 hs19 ⟨rfl,rfl,rfl⟩;refine ai 0 I fun b20 h20=>?_
 refine' dU (q:=True) 1 4 25 [20,21] h20 I I I I I I I (fun _=>?x6) (fun b25 h25=>?_)
 case x6=>
  refine cl 1 I AB ?_;rintro v23 K23 hs23 ⟨rfl,rfl,rfl⟩;refine ai 0 I fun b24 h24=>?_;exact fin 1 I (bK (h24.trans (by simp;omega)) rfl rfl rfl)
 refine' dU (q:=True) 1 4 30 [25,26] h25 I I I I I I I (fun _=>?x8) (fun b30 h30=>?_)
 case x8=>
  refine cl 1 I Hx ?_;rintro v28 K28 hs28 ⟨rfl,rfl,rfl⟩;refine ai 0 I fun b29 h29=>?_;exact fin 1 I (bK (h29.trans (by simp;omega)) rfl rfl rfl)
 refine fin 1 I (acK (WQ.drop (WQ.drop (WQ.drop ?_))));exact ah I I ⟨I,le1,by rw[show b30=true from h30.2 ⟨⟨t1,trivial⟩,trivial⟩]⟩
end
section
structure Cl where
 kind:Int
 n:Int
 draw:Nat
 m:aB
def lK:dy:=⟨1,0,0,[],0⟩
def Nd.call(R:Nd)(L:Lg)(D:Dk)(x:Cl):ip:=
 if x.kind=0 then R.tick L D x.draw
 else if x.kind=1 then R.take L D x.m
 else if x.kind=2 then let A:=R.propose L D (ob (iH lK));(A.1,A.2.1,A.2.2.1,A.2.2.2.2.2)
 else if x.kind=3 then let A:=R.change L D x.m.good x.n;(A.1,A.2.1,A.2.2.1,A.2.2.2.2.2)
 else if x.kind=4 then ((R.read L).1,L,D,(R.read L).2.2.2)
 else if x.kind=5 then R.save L D R.com [120]
 else (R,L,D,0)
theorem WQ.dropA{w0:World}{Q:Exit->Act->World->Prop}{e:Exit}{n:Nat}{l:Sl}{K:PH}{hs:List PH}:∀ m:List PH,WQ w0 Q e n l K hs->WQ w0 Q e n l K (m++hs)
 | [],h=>h
 | _::m,h=>WQ.drop (WQ.dropA m h)
def ja(x:Cl)(p:MA):Array Value:=(.int .i64 x.kind::.int .i64 x.n::.int .u64 x.draw::(mv x.m p).toList).toArray
def Jt{b n ty:Nat}{c:Array Value}{fr:Nat×Nat}{xs:List Value}(h1:c.toList=xs)(h2:c.size=n):aw (pt b c ty fr) (some ⟨b,0,none⟩) n n 1 xs:=by
 subst h1;refine ⟨by simpa using h2,aac _,fun j u hu=>⟨_,I,?_⟩⟩
 simp_all [bf,cC.pt]
def JY:aj w0 9 [] K hs
  (fun v K' hs'=>∃ rb lb db s lh g,hs'=pt rb (aW lb (Nd.new 0 (eR 3)) s) RT::lh::g::hs/\Le K K'/\di K' rb lb db (Nd.new 0 (eR 3)) (eR 3) (dT 16777216) s lh g/\v=.tuple #[Nr db,Nr lb,Nr rb]):=by
 refine ent Tryz.func9 ?_;refine au ?_;refine cl 0 I (BO 3 3 qo) ?_;rintro v4 K4 hs4 ⟨wb,bm,ss,g0,ao,cap,rfl,le,⟨hl,hB⟩,hO,on,rfl⟩
 obtain ⟨st,rest,rfl⟩:∃ st rest,ss=st::rest:=by
  cases ss with
  | nil=>cases hl
  | cons a b=>exact ⟨a,b,rfl⟩
 obtain ⟨hR,hLg,hD⟩:=hB 0 st rfl;have hok:=hO st abr;obtain ⟨db,lb,rb,R,L,D,s,lh,g⟩:=st;unfold fE.ok at hok;dsimp only at hR hLg hD hok;subst hLg hD;obtain rfl:R=Nd.new 0 (eR 3):=hR;refine WL.frz fun K5 l1 l2=>WL.frz fun K6 l3 l4=>WL.drop ?_;have hok:=(hok.le l1).le l3;have on:=on.isS.le (l2.trans l3);obtain ⟨a,rfl⟩:=on.addr (j:=0) qo qo
 have cg:∀ (i:Nat) u,i<3->([Nr db,Nr lb,Nr rb]:List Value)[i]?=some u->cC K6 ((a.add (0*3)).add i) u:=fun i u hi hu=>by
  rw[DO]
  obtain ⟨a',ha,hc⟩:=on.2.2 i u (by
   rw[List.flatMap_cons,abt (by show i<3;omega)];exact hu)
  cases ha;exact hc
 have cw:cC K6 ⟨wb,0,none⟩ (.slice (some a) 3 cap):=cC.le l4 (cC.pt rfl);refine WL.hs (pt rb (aW lb (Nd.new 0 (eR 3)) s) RT::lh::g::(io rest++hs)) I ?_;refine WL.perm (hs':=io rest++(pt rb (aW lb (Nd.new 0 (eR 3)) s) RT::lh::g::hs)) (aal [_,_,_] (io rest) hs) ?_;refine fin 1 I (acE ?_);refine fin 2 I (th (bY I ?_));refine sk (th (sq (bQ [] 24 [0,2,4,6,8,10,12,14,16,18,20,22,24,26,28,30,32,34,36,38,40,42,44,46] ?_)));refine jS qk 3 I (.inl I) cw ?_;refine bt qk 0 0 I I qo ?_;refine jS qk 1 I (.inl I) (cg 0 _ qo I) ?_;refine jS qk 3 I (.inl I) cw ?_;refine bt qk 0 0 I I qo ?_;refine jS qk 1 I (.inl I) (cg 1 _ qo I) ?_;refine jS qk 3 I (.inl I) cw ?_;refine bt qk 0 0 I I qo ?_;refine jS qk 1 I (.inl I) (cg 2 _ qo I) ?_
 refine aM qk 3 I (acK (WQ.dropA (io rest) ?_));exact eJ I I I I ⟨rb,lb,db,s,lh,g,I,(le.trans l1).trans l3,hok,I⟩
section
variable {w0:World} {K lh g:PH} {hs:List PH} {rb lb db c q z k:Nat} {R:Nd} {L:Lg} {D:Dk} {s:NS}
def Lk(iN:di K rb lb db R L D s lh g)(o:NI c q z k R L D)(hc:c<=499800000)(hk:k<=400000)(hz:z<=1000000)(x:Cl)(hd:x.draw<18446744073709551616)(hb:x.m.bd)(p:MA)(hS:dr K x.m p):
  fF w0 K hs rb lb db R s lh g 11 [Nr rb,.agg (ja x p)] (R.call L D x).1 (R.call L D x).2.1 (R.call L D x).2.2.1 (.int .i64 (R.call L D x).2.2.2):=by
 have hco:=o.rb.com;unfold Nd.call;refine ent Tryz.func11 ?_;refine acI ?_;refine bx 0 I fun b3=>?_;refine WL.h 0 (pt b3 (ja x p) 36) ?_;refine au ?_;refine ai 0 I fun b11 h11=>?_;refine fin 1 I (th (ax h11 I (fun e2=>?_) (fun e2=>?_)))
 ·rw[aab e2];refine au ?_;refine cl 0 I (Ct.at3 [_] (B2 iN o qo qo x.draw hd)) ?_;rintro v15 K15 hs15 ⟨_,_,_,rfl,⟨s2,rfl,le1,I2⟩,rfl⟩;refine fin 1 I (bl (acF ?_));refine fin 2 I (acK (WQ.drop ?_));exact ah I I ⟨_,_,_,I,⟨s2,I,le1,I2⟩,I⟩
 rw[aaa e2];refine acI ?_;refine ai 0 I fun b17 h17=>?_;refine fin 1 I (th (ax h17 I (fun e4=>?_) (fun e4=>?_)))
 ·rw[aab e4];refine rg ?_;refine fW 2 (mv x.m p).toList I qk (.inr ⟨0,I⟩) (np _ I) ?_;refine cl 0 I (Ct.at3 [_] (Kj iN o hc hk hz x.m hb p hS)) ?_;rintro v21 K21 hs21 ⟨_,_,_,rfl,⟨s2,rfl,le1,I2⟩,rfl⟩;refine fin 1 I (bl (acF ?_));refine fin 2 I (acK (WQ.drop ?_));exact ah I I ⟨_,_,_,I,⟨s2,I,le1,I2⟩,I⟩
 rw[aaa e4];refine acI ?_;refine ai 0 I fun b23 h23=>?_;refine fin 1 I (th (ax h23 I (fun e6=>?_) (fun e6=>?_)))
 ·rw[aab e6];refine acI ?_;refine bd 0 (.agg lK.v) I (fun w=>by kernel_rfl) ?_;refine cl 0 I (Gi lK Nn Nn) ?_;rintro v26 K26 hs26 ⟨rfl,h26,a26,c26,rfl,rfl,o26⟩;refine WL.frz fun K1 le lg=>?_;refine au ?_;have hpl:eq (ob (iH lK))<1099511627776:=by decide
  refine cl 2 I (Ct.at3 [_] (Gj (iN.le le) o qo qo (ob (iH lK)) (.inl I) a26 c26 (o26.isS.le lg) hpl)) ?_;rintro v32 K32 hs32 ⟨_,_,_,rfl,⟨s2,rfl,le1,I2⟩,rfl⟩;refine fin 5 I (bl (acF ?_));refine fin 2 I (acK (WQ.drop ?_));exact ah I I ⟨_,_,_,I,⟨s2,I,le.trans le1,I2⟩,I⟩
 rw[aaa e6];refine acI ?_;refine ai 0 I fun b37 h37=>?_;refine fin 1 I (th (ax h37 I (fun e8=>?_) (fun e8=>?_)))
 ·rw[aab e8];refine rg ?_;refine a9 3 0 (v:=.bool x.m.good) I I I ?_;refine au ?_;refine cl 0 I (Ct.at3 [_] (HU iN o qo qo x.m.good x.n)) ?_;rintro v45 K45 hs45 ⟨_,_,_,rfl,⟨s2,rfl,le1,I2⟩,rfl⟩;refine fin 5 I (bl (acF ?_));refine fin 2 I (acK (WQ.drop ?_));exact ah I I ⟨_,_,_,I,⟨s2,I,le1,I2⟩,I⟩
 rw[aaa e8];refine acI ?_;refine ai 0 I fun b50 h50=>?_;refine fin 1 I (th (ax h50 I (fun e10=>?_) (fun e10=>?_)))
 ·rw[aab e10];refine rg ?_;refine cl 1 I (Ct.at3 [_] (Kv iN o qo qo)) ?_;rintro v53 K53 hs53 ⟨_,_,_,rfl,⟨s2,rfl,le1,I2⟩,rfl⟩;refine fin 5 I (bl (acF ?_));refine fin 2 I (acK (WQ.drop ?_));exact ah I I ⟨_,_,_,I,⟨s2,I,le1,I2⟩,I⟩
 rw[aaa e10];refine acI ?_;refine ai 0 I fun b58 h58=>?_;refine fin 1 I (th (ax h58 I (fun e12=>?_) (fun e12=>?_)))
 ·rw[aab e12];refine rg ?_;refine cl 2 I (Ct.keep 1 I AB) ?_;rintro v61 K61 hs61 ⟨rfl,rfl,rfl⟩;refine lit 0 #[.int .u8 120] I Nn qk fun b62=>?_;refine mk 0 0 I Nm I ⟨_,Tryz.underlying32,Tryz.underlying5⟩ ?_;refine WL.frz fun K1 le lg=>?_;refine cl 0 I (Ct.at3 [_] (Kq (iN.le le) o qo R.com (by unfold ac at hco;omega) [120] Nn (some ⟨b62,0,none⟩) 1 ((Jt rfl rfl).le lg))) ?_;rintro v64 K64 hs64 ⟨_,_,_,rfl,⟨s2,rfl,le1,I2⟩,rfl⟩;refine fin 1 I (bl (acF ?_));refine fin 2 I (acK (WQ.drop ?_));exact ah I I ⟨_,_,_,I,⟨s2,I,le.trans le1,I2⟩,I⟩
 rw[aaa e12];refine sk (bl (acF ?_));refine fin 2 I (acK (WQ.drop ?_));exact ah I I ⟨_,_,_,I,⟨s,I,Le.refl _,iN⟩,I⟩
end
end
section
theorem BP(s:aX)(l:List af)(t:Nat):∀ i,jM s l t i<=i
 | 0=>aac _
 | i+1=>by
  unfold jM
  split
  ·split
   ·omega
   have:=BP s l t i;omega
  omega
def Hw(r:Rl)(i t:Nat)(x:List af):(r.merge i t x).2.1<=max r.last (r.merge i t x).1.last:=by
 cases hg:(r.merge i t x).2.2.1 with
 | true=>have:=Bl hg;omega
 | false=>
  have hb:∀ j,o6 r.sn r.l j<=r.last:=fun j=>by
   grind [BP,o6,Rl.last]
  grind [Rl.merge2,Rl.merge1,Rl.merge]
def xy{r:Rl}{s:aX}(h:(r.install s).2=0):(r.install s).1.sn=s/\s.idx<=(r.install s).1.last:=by
 unfold Rl.install at h ⊢
 split at h
 ·omega
 rename_i hc;rw[aaa hc]
 split at h
 ·rename_i hh;rw[aab hh];obtain ⟨_,h2,h3⟩:=uW r s 0
  have hsn:(r.save s).1.sn=s:=by
   simp_all [Rl.save]
  refine ⟨hsn,?_⟩;rw[h2];rcases h3 with h3|⟨_,_,h3,_⟩
  ·rw[h3] at hsn;obtain ⟨_,_,hlt,_⟩:=ls (Decidable.not_not.1 hc);rw[hsn] at hlt;omega
  exact h3
 rename_i hh;rw[aaa hh];exact ⟨I,by simp[Rl.last]⟩
def Hr{m:aB}(h:m.ok)(hk:m.kind=5):0<=m.whole/\m.whole<=2097152:=by
 have:=h.2.1 .whole (by rw[hk];simp[cJ]);exact this
section
variable {c q z k u n:Nat} {R:Nd} {L:Lg} {D:Dk}
theorem TI.stale(h:TI R L)(o:NI c q z k R L D)(m:aB)(ho:m.ok)(hto:m.to=R.nd)(hk:m.term<L.kt):TI (R.stale L m) L/\St R L (R.stale L m) L:=by
 have hf:=gx ho;have hne:R.nd≠m.frm:=fun e=>ho.1.2.2.2.1 (by rw[hto,e]);have h0:L.kt≠0:=qo
 have hs:∀ x,St R L (R.say L x) L:=fun x=>(St.refl R L).r;unfold Nd.stale
 repeat' split
 ·have hm:fP R.nd L.kt { aB.zero with kind:=2,frm:=R.nd,to:=m.frm,term:=L.kt,good:=false }:=wP o.rb.nd hf hne h0 o.rn.lb.kt;exact ⟨h.say (m:={ aB.zero with kind:=2,to:=m.frm }) hm,hs _⟩
 ·have hm:fP R.nd L.kt { aB.zero with kind:=4,frm:=R.nd,to:=m.frm,term:=L.kt,good:=false,idx:=0,rnd:=0 }:=sS o.rb.nd hf hne h0 o.rn.lb.kt (aad _) (aad _);exact ⟨h.say (m:={ aB.zero with kind:=4,to:=m.frm }) hm,hs _⟩
 exact ⟨h,St.refl _ _⟩
theorem PI.asked(h:PI u (n+1) R L D)(o:NI c q z k R L D)(hu:u<=1000000)(m:aB)(hb:m.bd)(ho:m.ok)(hto:m.to=R.nd)(h0:L.kt≠0):
  PI (u+1) n (R.asked L D m).1 (R.asked L D m).2.1 (R.asked L D m).2.2.1/\St R L (R.asked L D m).1 (R.asked L D m).2.1:=by
 have hf:=gx ho;have hne:R.nd≠m.frm:=fun e=>ho.1.2.2.2.1 (by rw[hto,e]);unfold Nd.asked;dsimp only;generalize hgr:gz L.kt L.kv m.term m.frm (gX m.lt m.idx (L.trm L.last).1 L.last)=gr;have hgl:gr.1.1<=ac:=by rw[<-hgr];exact qZ o.rn.lb.kt hb.term
 split
 ·obtain ⟨a1,a2,a3⟩:=h.setHard hu gr.1.1 gr.1.2 hgl;have oa:=o.setHard gr.1.1 gr.1.2 hgl;generalize L.setHard D gr.1.1 gr.1.2=A at a1 a2 a3 oa ⊢;obtain ⟨L1,D1,c1⟩:=A;dsimp only at a1 a2 a3 oa ⊢
  split
  ·obtain ⟨d1,d2⟩:=kH R c1;exact ⟨a1.t (a1.ti.did _),a2.r d1 d2⟩
  have h1:L1.kt≠0:=by have:=a2.kt;omega
  have hm:fP R.nd L1.kt { aB.zero with kind:=2,frm:=R.nd,to:=m.frm,term:=L1.kt,good:=true }:=wP o.rb.nd hf hne h1 oa.rn.lb.kt;exact ⟨a1.t ((a1.ti.r:TI { R with el:=0,wt:=0 } L1).say (m:={ aB.zero with kind:=2,to:=m.frm,good:=true }) hm),a2.r⟩
 have hm:fP R.nd L.kt { aB.zero with kind:=2,frm:=R.nd,to:=m.frm,term:=L.kt,good:=false }:=wP o.rb.nd hf hne h0 o.rn.lb.kt;exact ⟨(h.t (h.ti.say (m:={ aB.zero with kind:=2,to:=m.frm }) hm)).up qo qo,(St.refl R L).r⟩
theorem PI.voted(h:PI u (n+11) R L D)(o:NI c q z k R L D)(hc:c<=800000000)(hk:k<=800000)(m:aB)(h0:L.kt≠0):
  PI (u+1) n (R.voted L D m).1 (R.voted L D m).2.1 (R.voted L D m).2.2.1/\St R L (R.voted L D m).1 (R.voted L D m).2.1:=by
 unfold Nd.voted
 split
 ·exact ⟨h.up qo qo,St.refl _ _⟩
 have ho:Rb z (k+1) { R with yes:=R.yes++[m.frm] }:={ o.rb.up (aau k) with yes:=by have:=o.rb.yes;simp;omega };obtain ⟨e1,e2⟩:=(h.t (h.ti.r:TI { R with yes:=R.yes++[m.frm] } L)).elect (o.r ho) hc qo h0 L.cfg.1;exact ⟨e1,(St.r (St.refl R L):St R L { R with yes:=R.yes++[m.frm] } L).trans e2⟩
theorem PI.merge(h:PI u (n+100) R L D)(o:NI c q z k R L D)(hc:c<=800000000)(i t:Nat)(x:List af)(hx:∀ e∈x,e.idx<=ac/\e.term<=ac)(hl:eq x<=8)(hn:∀ e∈x,iK L R.com e.idx e.term=false):
  PI (u+9) n R (L.merge i t x D).1 (L.merge i t x D).2.1/\St R L R (L.merge i t x D).1/\(L.merge i t x D).1.kt=L.kt/\(L.merge i t x D).2.2.1<=ac/\((L.merge i t x D).2.2.2.1=true->(L.merge i t x D).2.2.1<=(L.merge i t x D).1.last):=by
 obtain ⟨h1,h2,h3,h4⟩:=h.sim.merge (n:=n) i t x (h.liv.mono qo) hx (uU o qo hl);have hs:=y7 L i t x D;obtain ⟨k1,k2,k3⟩:=HA (r:=L.rl) (com:=R.com) h.ti.com.2 i t (x:=x) hn;have o1:=o.merge i t x hx hl qo;have l0:=Lg.last_le o.rn.lb qo;have l1:=Lg.last_le o1.rn.lb qo;have m1:=Hw L.rl i t x;rw[<-h4] at k1 k2 m1;have e1:(L.merge i t x D).2.2.1=(L.rl.merge i t x).2.1:=congrArg Prod.fst h1;have e2:(L.merge i t x D).2.2.2.1=(L.rl.merge i t x).2.2.1:=congrArg (fun p=>p.2.1) h1;refine ⟨⟨h3.up qo qo,h2,h.ti.lg (aaP hs.1.symm) (by rw[hs.2.2];exact h.ti.com.1) k2 (by rw[h4];exact Rl.wf.merge h.ti.wf i t x)⟩,⟨aaP hs.1.symm,aac _,k1,I⟩,hs.1,?_,fun hg=>?_⟩
 all_goals grind [Lg.last_rl,Bl,cM,ac]
theorem TI.appE(h:TI R L)(o:NI c q z k R L D)(m:aB)(hb:m.bd)(ho:m.ok)(hto:m.to=R.nd)(h0:L.kt≠0)(i:Nat)(hi:i<=ac)(g:Bool)(hg:g=true->i<=L.last):
  TI (R.appE L D m i g).1 L/\St R L (R.appE L D m i g).1 L:=by
 have hf:=gx ho;have hne:R.nd≠m.frm:=fun e=>ho.1.2.2.2.1 (by rw[hto,e]);have hco:=h.com;unfold Nd.appE;have hm:fP R.nd L.kt { aB.zero with kind:=4,frm:=R.nd,to:=m.frm,term:=L.kt,good:=g,idx:=i,rnd:=m.rnd }:=sS o.rb.nd hf hne h0 o.rn.lb.kt hi hb.rnd
 have h1:R.com<=(if g=true then max R.com (min m.com i) else R.com)/\(if g=true then max R.com (min m.com i) else R.com)<=L.last:=by
  grind
 have ht:TI { R with com:=if g=true then max R.com (min m.com i) else R.com } L:=⟨h.out,h.role,⟨aas hco.1 h1.1,h1.2⟩,h.wf⟩;exact ⟨ht.say (m:={ aB.zero with kind:=4,to:=m.frm,good:=g,idx:=i,rnd:=m.rnd }) hm,⟨aac _,h1.1,Kp.refl _ _,I⟩⟩
theorem PI.app(h:PI u (n+100) R L D)(o:NI c q z k R L D)(hc:c<=700000000)(m:aB)(hb:m.bd)(ho:m.ok)(hk:m.kind=3)(hto:m.to=R.nd)(h0:L.kt≠0):
  PI (u+9) n (R.app L D m).1 (R.app L D m).2.1 (R.app L D m).2.2.1/\St R L (R.app L D m).1 (R.app L D m).2.1:=by
 have hf:=gx ho;unfold Nd.app;dsimp only
 split
 ·exact ⟨h.up qo qo,St.refl _ _⟩
 rename_i hcl;have hcl:=(not_or.1 hcl).2;unfold Nd.clashes at hcl
 have hn:∀ e∈m.ents,iK L R.com e.idx e.term=false:=fun e he=>by
  simp_all
 have of:=o.r (o.rb.foll (x:=m.frm) qo);have hff:TI (R.foll m.frm) L:=h.ti.r rfl rfl rfl (.inr rfl);have sf:St R L (R.foll m.frm) L:=(St.refl R L).r;obtain ⟨a1,a2,a3,a4,a5⟩:=(h.t hff).merge of qo m.idx m.lt m.ents (fun e he=>⟨(hb.ents e he).1,(hb.ents e he).2.1⟩) (lA ho hk).2 hn;have oa:=of.merge m.idx m.lt m.ents (fun e he=>⟨(hb.ents e he).1,(hb.ents e he).2.1⟩) (lA ho hk).2 qo;generalize L.merge m.idx m.lt m.ents D=A at a1 a2 a3 a4 a5 oa ⊢;obtain ⟨L1,D1,i,gd,c1⟩:=A;dsimp only at a1 a2 a3 a4 a5 oa ⊢;have s1:=sf.trans a2;have h1:L1.kt≠0:=qo
 split
 ·exact ⟨a1,s1⟩
 split
 ·obtain ⟨d1,d2⟩:=kH (R.foll m.frm) c1;exact ⟨a1.t (a1.ti.did _),s1.r d1 d2⟩
 split
 ·obtain ⟨t1,t2⟩:=a1.ti.appE oa m hb ho hto h1 i a4 false (fun h=>by cases h);exact ⟨a1.t t1,s1.trans t2⟩
 rename_i hgd;have hgd:gd=true:=by simpa using hgd
 have ob:=oa.sync;obtain ⟨b1,b2,b3⟩:=a1.sync
 have hl:(L1.sync D1).1.last=L1.last:=by
  obtain ⟨_,_,_,g4,_⟩:=a1.sim.sync a1.liv;rw[Lg.last_rl,g4];rfl
 generalize L1.sync D1=B at b1 b2 b3 ob hl ⊢;obtain ⟨L2,D2,c2⟩:=B;dsimp only at b1 b2 b3 ob hl ⊢
 split
 ·obtain ⟨d1,d2⟩:=kH (R.foll m.frm) c2;exact ⟨b1.t (b1.ti.did _),(s1.trans b2).r d1 d2⟩
 obtain ⟨t1,t2⟩:=b1.ti.appE ob m hb ho hto qo i a4 true (fun _=>by rw[hl];exact a5 hgd);exact ⟨b1.t t1,(s1.trans b2).trans t2⟩
theorem TI.appended(h:TI R L)(o:NI c q z k R L D)(hc:c<=800000000)(hk:k<=800000)(m:aB)(hb:m.bd)(ho:m.ok)(hto:m.to=R.nd)(h0:L.kt≠0):TI (R.appended L m) L/\St R L (R.appended L m) L:=by
 have hf:=gx ho;have hne:R.nd≠m.frm:=fun e=>ho.1.2.2.2.1 (by rw[hto,e]);have hl:=o.last qo;have hp:=o.rb.pr m.frm.toNat;have hr:=hb.rnd;unfold Pr.ok at hp;unfold Nd.appended
 split
 ·exact ⟨h,St.refl _ _⟩
 have o1:=o.appd1 qo m hb
 have h1:TI (R.appd1 L m) L/\St R L (R.appd1 L m) L:=by
  unfold Nd.appd1;dsimp only;unfold Nd.p
  split
  ·have ht:=TI.agree (R:=R.setP m.frm { R.pr m.frm.toNat with ws:=false,rd:=max (R.pr m.frm.toNat).rd (min m.rnd R.rnd),mt:=max (R.pr m.frm.toNat).mt (min m.idx L.last),nx:=max (R.pr m.frm.toNat).nx (max (R.pr m.frm.toNat).mt (min m.idx L.last)+1) }) (h.r) (o.r (o.rb.setP m.frm (by unfold Pr.ok;dsimp only;omega))) qo qo h0;exact ⟨ht.1,(St.r (St.refl R L)).trans ht.2⟩
  exact ⟨h.r,(St.refl R L).r⟩
 unfold Nd.appd2
 split
 ·obtain ⟨s1,s2,s3⟩:=tX (R.appd1 L m) L m.frm;exact ⟨h1.1.send (o1.rb.nz (by unfold ac;omega)) o1.rn.lb qo o1.cf hf (by rw[h1.2.nd];exact hne) h0,h1.2.r s1 s2⟩
 exact h1
theorem TI.chunked(h:TI R L)(o:NI c q z k R L D)(hc:c<=800000000)(hk:k<=800000)(m:aB)(ho:m.ok)(hkd:m.kind=6)(hto:m.to=R.nd)(h0:L.kt≠0):TI (R.chunked L m) L/\St R L (R.chunked L m) L:=by
 have hf:=gx ho;have hne:R.nd≠m.frm:=fun e=>ho.1.2.2.2.1 (by rw[hto,e]);have h1:=vu ho (.inr hkd);have hp:=o.rb.pr m.frm.toNat;unfold Nd.chunked
 split
 ·exact ⟨h,St.refl _ _⟩
 have nz:Nz (R.setP m.frm { R.p m.frm with ws:=false,of:=m.off }):=(o.rb.nz (by unfold ac;omega)).setP m.frm ⟨hp.1,hp.2.1,hp.2.2.1,h1⟩;obtain ⟨s1,s2,s3⟩:=tX (R.setP m.frm { R.p m.frm with ws:=false,of:=m.off }) L m.frm;exact ⟨TI.send (h.r) nz o.rn.lb qo o.cf hf hne h0,(St.refl R L).r s1 s2⟩
def tL(R:Nd)(m:aB):(R.piece m).nd=R.nd/\(R.piece m).com=R.com/\(R.piece m).out=R.out/\(R.piece m).role=R.role/\(R.piece m).ps.idx=m.idx:=by
 rw[zQ]
 have h:(R.freshP m).nd=R.nd/\(R.freshP m).com=R.com/\(R.freshP m).out=R.out/\(R.freshP m).role=R.role/\(R.freshP m).ps.idx=m.idx:=by
  unfold Nd.freshP
  grind
 split <;> exact h
theorem PI.inst(h:PI u (n+(4*z+3)) R L D)(o:NI c q z k R L D)(hu:u<=1000000)(m:aB)(hb:m.bd)(ho:m.ok)(hto:m.to=R.nd)(h0:L.kt≠0)(hi:R.ps.idx=m.idx)(hci:R.com<m.idx):
  PI (u+1) n (R.inst L D m).1 (R.inst L D m).2.1 (R.inst L D m).2.2.1/\St R L (R.inst L D m).1 (R.inst L D m).2.1:=by
 have hf:=gx ho;have hne:R.nd≠m.frm:=fun e=>ho.1.2.2.2.1 (by rw[hto,e]);have hp:=o.rb.ps;obtain ⟨h1,h2,h3,h4⟩:=h.sim.install R.ps (n:=n) (h.liv.mono qo) hp.1 hp.2.1 hu qo;obtain ⟨k1,k2,k3⟩:=xf L R.ps D;obtain ⟨p1,p2⟩:=FB L.rl R.ps R.com qo;have z1:=xy (r:=L.rl) (s:=R.ps);have hw:=Rl.wf.install h.ti.wf R.ps;rw[<-h4] at p1 p2 z1 hw;rw[<-h1] at p2 z1;have hkt:=o.rn.lb.kt;have hmx:=hb.idx;unfold Nd.inst;dsimp only;generalize L.install R.ps D=A at h1 h2 h3 h4 k1 k2 k3 p1 p2 z1 hw ⊢;obtain ⟨L1,D1,c1⟩:=A;dsimp only at h1 h2 h3 h4 k1 k2 k3 p1 p2 z1 hw ⊢
 have hbad:c1≠0->PI (u+1) n { R with pf:=0,ps:=aX.zero } L1 D1/\St R L { R with pf:=0,ps:=aX.zero } L1:=fun hc1=>by
  have e:L1.rl=L.rl:=by
   simp_all
  have e1:L1.sn=L.sn:=congrArg Rl.sn e;have e2:L1.l=L.l:=congrArg Rl.l e;have hl:L1.last=L.last:=by unfold Lg.last;rw[e1,e2]
  have ht:TI R L1:=h.ti.lg (aaP k1.symm) (by rw[e1];exact h.ti.com.1) (by rw[hl];exact h.ti.com.2) hw;exact ⟨⟨h3.up qo qo,h2,ht.r⟩,⟨aaP k1.symm,aac _,p1,I⟩⟩
 split
 ·grind
 split
 ·rename_i hc1;obtain ⟨b1,b2⟩:=hbad hc1;obtain ⟨d1,d2⟩:=kH { R with pf:=0,ps:=aX.zero } c1;exact ⟨b1.t (b1.ti.did _),b2.r d1 d2⟩
 rename_i hc1;obtain ⟨s1,s2⟩:=z1 (Decidable.not_not.1 hc1);have e1:L1.sn.idx=m.idx:=by rw[<-hi];exact congrArg aX.idx s1
 have e2:m.idx<=L1.last:=by rw[<-hi];exact s2
 have hm:fP R.nd L1.kt { aB.zero with kind:=4,frm:=R.nd,to:=m.frm,term:=L1.kt,good:=true,idx:=m.idx,rnd:=0 }:=sS o.rb.nd hf hne (by rw[k1];exact h0) qo hmx (aad _)
 have ht:TI { R with pf:=0,ps:=aX.zero,com:=max R.com m.idx } L1:=
  ⟨fun x hx=>(h.ti.out x hx).up (aaP k1.symm),fun hr=>by omega,⟨by show L1.sn.idx<=max R.com m.idx;omega,by show max R.com m.idx<=L1.last;omega⟩,hw⟩
 exact ⟨⟨h3.up qo qo,h2,ht.say (m:={ aB.zero with kind:=4,to:=m.frm,good:=true,idx:=m.idx }) hm⟩,⟨aaP k1.symm,by show R.com<=max R.com m.idx;omega,p1,rfl⟩⟩
theorem PI.chunk(h:PI u (n+(4*z+7)) R L D)(o:NI c q z k R L D)(hu:u<=1000000)(m:aB)(hb:m.bd)(ho:m.ok)(hk:m.kind=5)(hto:m.to=R.nd)(h0:L.kt≠0):
  PI (u+1) n (R.chunk L D m).1 (R.chunk L D m).2.1 (R.chunk L D m).2.2.1/\St R L (R.chunk L D m).1 (R.chunk L D m).2.1:=by
 have hf:=gx ho;have hne:R.nd≠m.frm:=fun e=>ho.1.2.2.2.1 (by rw[hto,e]);have hw:=Hr ho hk;have hkt:=o.rn.lb.kt;unfold Nd.chunk;dsimp only;have of:=o.rb.foll (x:=m.frm) qo;have hff:TI (R.foll m.frm) L:=h.ti.r rfl rfl rfl (.inr rfl);have sf:St R L (R.foll m.frm) L:=(St.refl R L).r
 split
 ·exact ⟨h.up qo qo,St.refl _ _⟩
 split
 ·have hm:fP R.nd L.kt { aB.zero with kind:=4,frm:=R.nd,to:=m.frm,term:=L.kt,good:=true,idx:=m.idx,rnd:=0 }:=sS o.rb.nd hf hne h0 hkt hb.idx (aad _);exact ⟨(h.t (hff.say (m:={ aB.zero with kind:=4,to:=m.frm,good:=true,idx:=m.idx }) hm)).up qo qo,sf.r⟩
 rename_i hci;obtain ⟨p1,p2,p3,p4,p5⟩:=tL (R.foll m.frm) m;have hpp:TI ((R.foll m.frm).piece m) L:=hff.r p3 p1 p2 (.inl p4);have sp:St R L ((R.foll m.frm).piece m) L:=sf.r p1 p2
 split
 ·rename_i hlt;have hm:fP R.nd L.kt { aB.zero with kind:=6,frm:=R.nd,to:=m.frm,term:=L.kt,idx:=m.idx,off:=eq ((R.foll m.frm).piece m).ps.data }:=MO o.rb.nd hf hne h0 hkt hb.idx qo;exact ⟨(h.t (hpp.say (m:={ aB.zero with kind:=6,to:=m.frm,idx:=m.idx,off:=eq ((R.foll m.frm).piece m).ps.data }) (by rw[p1];exact hm))).up qo qo,sp.r⟩
 obtain ⟨i1,i2⟩:=((h.t hpp).up (n':=n+(4*(z+1)+3)) (aac _) qo).inst (o.r (of.piece m hb ho hk)) hu m hb ho (by rw[p1];exact hto) h0 p5 (by rw[p2];exact Nat.lt_of_not_le hci);exact ⟨i1,sp.trans i2⟩
theorem PI.take3(h:PI u (n+(4*z+100)) R L D)(o:NI c q z k R L D)(hc:c<=499900000)(hk:k<=700000)(hu:u<=1000000)(m:aB)(hb:m.bd)(ho:m.ok)(hto:m.to=R.nd)(h0:L.kt≠0):
  PI (u+9) n (R.take3 L D m).1 (R.take3 L D m).2.1 (R.take3 L D m).2.2.1/\St R L (R.take3 L D m).1 (R.take3 L D m).2.1:=by
 unfold Nd.take3
 split
 ·obtain ⟨a,b⟩:=(h.up (n':=n+1) (aac _) qo).asked o hu m hb ho hto h0;exact ⟨a.up qo qo,b⟩
 split
 ·obtain ⟨a,b⟩:=(h.up (n':=n+11) (aac _) qo).voted o qo qo m h0;exact ⟨a.up qo qo,b⟩
 split
 ·rename_i h3;exact (h.up (n':=n+100) (aac _) qo).app o qo m hb ho h3 hto h0
 split
 ·obtain ⟨a,b⟩:=h.ti.appended o qo qo m hb ho hto h0;exact ⟨(h.t a).up qo qo,b⟩
 split
 ·rename_i h5;obtain ⟨a,b⟩:=(h.up (n':=n+(4*z+7)) (aac _) qo).chunk o hu m hb ho h5 hto h0;exact ⟨a.up qo qo,b⟩
 split
 ·rename_i h6;obtain ⟨a,b⟩:=h.ti.chunked o qo qo m ho h6 hto h0;exact ⟨(h.t a).up qo qo,b⟩
 exact ⟨h.up qo qo,St.refl _ _⟩
theorem PI.take(h:PI u (n+(4*z+101)) R L D)(o:NI c q z k R L D)(hc:c<=499800000)(hk:k<=700000)(hu:u<=900000)(m:aB)(hb:m.bd):
  PI (u+10) n (R.take L D m).1 (R.take L D m).2.1 (R.take L D m).2.2.1/\St R L (R.take L D m).1 (R.take L D m).2.1:=by
 unfold Nd.take
 split
 ·exact ⟨h.up qo qo,St.refl _ _⟩
 split
 ·exact ⟨h.up qo qo,St.refl _ _⟩
 rename_i hq
 split
 ·exact ⟨h.up qo qo,St.refl _ _⟩
 have ho:m.ok:=by
  simp_all [enc]
 have hto:m.to=R.nd:=Decidable.not_not.1 fun hx=>hq (.inr (.inl hx));have ht0:m.term≠0:=ho.1.2.2.2.2
 have h2:∀ {u' c' q':Nat} {R':Nd} {L':Lg} {D':Dk},PI u' (n+(4*z+100)) R' L' D'->NI c' q' z k R' L' D'->c'<=499900000->u'<=1000000->R'.nd=R.nd->m.term<=L'.kt->PI (u'+9) n (R'.take2 L' D' m).1 (R'.take2 L' D' m).2.1 (R'.take2 L' D' m).2.2.1/\St R' L' (R'.take2 L' D' m).1 (R'.take2 L' D' m).2.1:=by
  intro u' c' q' R' L' D' h' o' hc' hu' hnd hkt;unfold Nd.take2
  split
  ·rename_i hlt;obtain ⟨a,b⟩:=h'.ti.stale o' m ho qo hlt;exact ⟨(h'.t a).up qo qo,b⟩
  exact h'.take3 o' hc' hk hu' m hb ho qo qo
 unfold Nd.take1;dsimp only
 split
 ·obtain ⟨a1,a2,a3⟩:=(h.up (n':=n+(4*z+100)+1) (aac _) qo).raise qo m.term hb.term;have oa:=o.raise m.term hb.term
  split
  ·exact ⟨a1.up qo qo,a2⟩
  rename_i hz;obtain ⟨b1,b2⟩:=h2 a1 oa qo qo a2.nd (aaP (a3 (Decidable.not_not.1 hz)).symm);exact ⟨b1.up qo qo,a2.trans b2⟩
 rename_i hlt;obtain ⟨b1,b2⟩:=h2 (h.up (n':=n+(4*z+100)) (aac _) qo) o qo qo rfl qo;exact ⟨b1.up qo qo,b2⟩
def tS(h:R.leads=0):R.role=2:=by
 grind [Nd.leads]
theorem PI.call(h:PI u (n+(4*z+101)) R L D)(o:NI c q z k R L D)(hc:c<=499800000)(hk:k<=700000)(hu:u<=900000)(x:Cl)(hb:x.m.bd):
  PI (u+10) n (R.call L D x).1 (R.call L D x).2.1 (R.call L D x).2.2.1/\St R L (R.call L D x).1 (R.call L D x).2.1:=by
 unfold Nd.call
 split
 ·obtain ⟨a,b⟩:=(h.up (n':=n+12) (aac _) qo).tick o qo hk qo x.draw;exact ⟨a.up qo qo,b⟩
 split
 ·exact h.take o hc hk hu x.m hb
 split
 ·unfold Nd.propose
  split
  ·exact ⟨h.up qo qo,St.refl _ _⟩
  rename_i hl
  split
  ·exact ⟨h.up qo qo,St.refl _ _⟩
  have hr:=tS (Decidable.not_not.1 hl);obtain ⟨a,b⟩:=(h.up (n':=n+11) (aac _) qo).lay o qo qo (h.ti.role qo) 1 (ob (iH lK));exact ⟨a.up qo qo,b⟩
 split
 ·unfold Nd.change;dsimp only
  split
  ·exact ⟨h.up qo qo,St.refl _ _⟩
  rename_i hl;have hr:=tS (Decidable.not_not.1 hl)
  split
  ·exact ⟨h.up qo qo,St.refl _ _⟩
  generalize (if x.m.good=true then iz L.cfg.1 x.n else iW L.cfg.1 x.n)=r
  split
  ·exact ⟨h.up qo qo,St.refl _ _⟩
  have hlt:=o.last qo;obtain ⟨R1,hR1⟩:=be (if x.m.good=true then R.setP x.n (Pr.new (L.last+1)) else R);rw[<-hR1]
  have h1:TI R1 L/\St R L R1 L/\Rb z k R1:=by
   rw[hR1]
   split
   ·exact ⟨h.ti.r,(St.refl R L).r,o.rb.setP x.n (p:=Pr.new (L.last+1)) ⟨by unfold cM;exact (by decide:0+1<=4611686018427387904),hlt,by show 0<=ac;omega,aaC 0,by show (0:Int)<=2097152;omega⟩⟩
   exact ⟨h.ti,St.refl _ _,o.rb⟩
  obtain ⟨a,b⟩:=((h.t h1.1).up (n':=n+11) (aac _) qo).lay (o.r h1.2.2) qo qo (h.ti.role qo) 2 (ob (bU r.1));exact ⟨a.up qo qo,h1.2.1.trans b⟩
 split
 ·unfold Nd.read
  split
  ·exact ⟨h.up qo qo,St.refl _ _⟩
  rename_i hl;have hr:=tS (Decidable.not_not.1 hl)
  split
  ·exact ⟨h.up qo qo,St.refl _ _⟩
  obtain ⟨t1,t2,t3,t4⟩:=h.ti.tell o qo qo (h.ti.role qo) true;exact ⟨(h.t t1).up qo qo,⟨aac _,aaP t3.symm,Kp.refl _ _,t2⟩⟩
 split
 ·unfold Nd.save
  split
  ·exact ⟨h.up qo qo,St.refl _ _⟩
  split
  ·exact ⟨h.up qo qo,St.refl _ _⟩
  dsimp only;obtain ⟨s,hs⟩:∃ s:aX,s=⟨R.com,(L.trm R.com).1,(eg L.sn L.l R.com).1,[120]⟩:=⟨_,rfl⟩;rw[<-hs];have hsi:s.idx=R.com:=by rw[hs]
  obtain ⟨h1,h2,h3,h4⟩:=h.sim.save s (n:=n) (h.liv.mono (by simp_all)) (by rw[hsi];exact o.rb.com) (by rw[hs];exact L.trm_le o.rn.lb _) qo qo;obtain ⟨k1,k2,k3⟩:=tF L s D;obtain ⟨p1,p2,p3⟩:=uW L.rl s R.com;have hw:=Rl.wf.save h.ti.wf s;rw[<-h4] at p1 p2 p3 hw;generalize L.save s D=A at h1 h2 h3 h4 k1 k2 k3 p1 p2 p3 hw ⊢;obtain ⟨L1,D1,c1⟩:=A;dsimp only at h1 h2 h3 h4 k1 k2 k3 p1 p2 p3 hw ⊢
  have hsn:L1.sn.idx<=R.com:=by
   grind
  have ht:TI R L1:=h.ti.lg (aaP k1.symm) hsn (by rw[Lg.last_rl,p2];exact h.ti.com.2) hw;have hst:St R L R L1:=⟨aaP k1.symm,aac _,p1,rfl⟩;have hp:PI (u+10) n R L1 D1:=⟨h3.up qo qo,h2,ht⟩
  split
  ·exact ⟨hp,hst⟩
  obtain ⟨d1,d2⟩:=kH R c1;exact ⟨hp.t (ht.did _),hst.r d1 d2⟩
 exact ⟨h.up qo qo,St.refl _ _⟩
end
end
section
theorem NI.call{c q z k:Nat}{R:Nd}{L:Lg}{D:Dk}(o:NI c q z k R L D)(hc:c<=499800000)(x:Cl)(hb:x.m.bd):NI (c+(8*z+q+130)) (q+10) (z+1) (k+25) (R.call L D x).1 (R.call L D x).2.1 (R.call L D x).2.2.1:=by
 unfold Nd.call
 split
 ·exact (o.tick qo x.draw).upz qo qo qo qo
 split
 ·exact (o.take hc x.m hb).upz qo qo qo qo
 split
 ·exact (o.propose qo _).upz qo qo qo qo
 split
 ·exact (o.change qo _ _).upz qo qo qo qo
 split
 ·exact o.read.upz qo qo qo qo
 split
 ·exact (o.save qo R.com [120] 1 Nn).upz qo qo qo qo
 exact o.upz qo qo qo qo
structure LI (j:Nat) (R:Nd) (L:Lg) (D:Dk):Prop where
 ni:NI (6000*j) (10*j) j (25*j) R L D
 pi:PI (10*j) (16777216-1400*j) R L D
 nd:R.nd=0
theorem LI.call{j:Nat}{R:Nd}{L:Lg}{D:Dk}(o:LI j R L D)(hj:j<=300)(x:Cl)(hb:x.m.bd):LI (j+1) (R.call L D x).1 (R.call L D x).2.1 (R.call L D x).2.2.1/\St R L (R.call L D x).1 (R.call L D x).2.1:=by
 obtain ⟨a,b⟩:=(o.pi.up (n':=(16777216-1400*(j+1))+(4*j+101)) (aac _) qo).call o.ni qo qo qo x hb;exact ⟨⟨(o.ni.call qo x hb).up qo qo qo,a.up qo qo,b.nd.trans o.nd⟩,b⟩
def LI.cl{j:Nat}{R:Nd}{L:Lg}{D:Dk}(o:LI j R L D):LI j { R with out:=[] } L D:=
 ⟨o.ni.r { o.ni.rb with out:=aad _ },o.pi.t ⟨fun m hm=>(by cases hm),o.pi.ti.role,o.pi.ti.com,o.pi.ti.wf⟩,o.nd⟩
def MU:LI 0 (Nd.new 0 (eR 3)) (eR 3) (dT 16777216):=by
 have r:=wM (v:=3) qo;refine ⟨CG (i:=0) (v:=3) qo qo r,⟨⟨I,⟨I,fun o h=>(by cases h)⟩,aac _,aac _,aac _,aac _,aac _,I,I⟩,⟨I,I,by simp[dT]⟩,⟨fun m hm=>(by cases hm),fun hr=>absurd I hr,⟨aac _,aac _⟩,I⟩⟩,I⟩
def lk(K:PH)(cs:List Value)(x:Cl):Prop:=∃ p,cs=(ja x p).toList/\dr K x.m p
theorem lk.le{K K':PH}(l:Le K K'){cs:List Value}{x:Cl}(h:lk K cs x):lk K' cs x:=let ⟨p,h1,h2⟩:=h;⟨p,h1,h2.le l⟩
def HT{ao:Option Addr}{cap:Nat}{cs:List Cl}(hG:dn 17 (lk K) K ao (eq cs) cap cs){k:Nat}{x:Cl}(hk:cs[k]?=some x):
  ∃ a p,ao=some a/\dr K x.m p/\∀ (j:Nat) v,(ja x p).toList[j]?=some v->cC K ((a.add (k*17)).add j) v:=by
 have hkl:k<eq cs:=(aax.1 hk).1;obtain ⟨a,rfl⟩:=hG.addr qo Nn;obtain ⟨c,⟨p,rfl,x⟩,_,hc⟩:=hG.cells hk;exact ⟨a,p,I,x,hc⟩
def Hu{ao:Option Addr}{cap:Nat}{ms:List aB}(hG:dn 14 (kW K) K ao (eq ms) cap ms){k:Nat}{m:aB}(hk:ms[k]?=some m):
  ∃ a p,ao=some a/\dr K m p/\∀ (j:Nat) v,(mv m p).toList[j]?=some v->cC K ((a.add (k*14)).add j) v:=by
 have hkl:k<eq ms:=(aax.1 hk).1;obtain ⟨a,rfl⟩:=hG.addr qo Nn;obtain ⟨c,⟨p,rfl,x⟩,_,hc⟩:=hG.cells hk;exact ⟨a,p,I,x,hc⟩
structure wS where
 j:Nat
 K:PH
 R:Nd
 L:Lg
 D:Dk
 s:NS
 lh:PH
 g:PH
end
section
open Go.En Go.ChangeShapes Go.WideShapes Go.ChangeAt Go.RowKit Go.Deep
set_option maxRecDepth 100000
section opens
variable {H:Type} {enc:TypeId×Value->H} {W:World}
def wq(x:s7):aB:=match x with
 | ⟨k,f,t,te,i,l,c,r,g,e,o,w,vo,dd,u⟩=>⟨k,f,t,te.toNat,i.toNat,l.toNat,c.toNat,r.toNat,g,e.map iY,o,w,vo,jT dd⟩
def LE{cs:List Value}{x:s7}(hR:wT W cs x)(hm:sV x<=4194304):kW (hp W) cs (wq x)/\(wq x).bd:=by
 obtain ⟨k,f,t,te,i,l,c,r,g,e,o,w,vo,dd,u⟩:=x;obtain ⟨c1,r1,e1,h1,c2,r2,e2,h2,c3,r3,e3,h3,c4,r4,e4,h4,c5,r5,e5,h5,c6,r6,e6,h6,c7,r7,e7,h7,c8,r8,e8,h8,c9,r9,e9,h9,c10,r10,e10,h10,c11,r11,e11,h11,c12,r12,e12,h12,c13,r13,e13,h13,c14,r14,e14,h14,h15⟩:=hR;obtain ⟨rfl,_⟩:=kJ h1;obtain ⟨rfl,_⟩:=kJ h2;obtain ⟨rfl,_⟩:=kJ h3;obtain ⟨rfl,b4⟩:=lG h4;obtain ⟨rfl,b5⟩:=lG h5;obtain ⟨rfl,b6⟩:=lG h6;obtain ⟨rfl,b7⟩:=lG h7;obtain ⟨rfl,b8⟩:=lG h8;obtain rfl:c9=[.bool g]:=h9;obtain ⟨ae,ce,rfl,xE,bE⟩:=Hi h10;obtain ⟨rfl,b11⟩:=kJ h11;obtain ⟨rfl,b12⟩:=kJ h12;obtain ⟨av,cv,rfl,xV,bV⟩:=Hh h13;obtain ⟨ad,cd,rfl,xD⟩:=yS h14;obtain rfl:r14=[]:=h15;simp only[sV,mS,mP,mL,mU,mZ,Km] at hm;dsimp only at b4 b5 b6 b7 b8 b11 b12 bE bV xE xV xD hm e1 e2 e3 e4 e5 e6 e7 e8 e9 e10 e11 e12 e13 e14;have hge:=uF oP (fun _=>by simp only[oP];omega) e
 refine ⟨⟨⟨ae,ce,av,cv,ad,cd⟩,?_,xE,xV,xD⟩,?_⟩
 ·rw[e1,e2,e3,e4,e5,e6,e7,e8,e9,e10,e11,e12,e13,e14];rfl
 exact {
     term:=b4,idx:=b5,lt:=b6,com:=b7,rnd:=b8,off:=b11,whole:=b12
     ents:=fun x hx=>by
      obtain ⟨y,hy,rfl⟩:=aap.1 hx;have h1:=zD oP hy;simp only[oP,uu] at h1;refine ⟨(bE y hy).1,(bE y hy).2,?_⟩;show eq (jT _)<=_;rw[u7];omega
     entsL:=by show eq (e.map iY)<=_;rw[aaO];omega
     vot:=bV,votL:=by show eq vo<=_;omega,dataL:=by show eq (jT _)<=_;rw[u7];omega }
abbrev s9:Type:=Int×Int×Int×s7×Unit
abbrev sZ(W:World):=RP (RI .i64) (RP (RI .i64) (RP (RI .u64) (RP (wT W) R0)))
def mW:s9->Nat:=mS (mP mU (mP mU (mP mU (mP sV mZ))))
def JR:dV enc Tryz.prog W 36 17 (sZ W) mW:=by
 exact AZ Tryz.underlying36 qk<|gA (off:=0) (sz1:=1) (sz2:=16) I (iD Tryz.underlying3 qk) (gA (off:=1) (sz1:=1) (sz2:=15) I (iD Tryz.underlying3 qk)<|gA (off:=2) (sz1:=1) (sz2:=14) I (iD Tryz.underlying29 qk) (gA (off:=3) (sz1:=14) (sz2:=0) I IX Di))
def mH(x:s9):Cl:=⟨x.1,x.2.1,x.2.2.1.toNat,wq x.2.2.2.1⟩
def L0{cs:List Value}{x:s9}(hR:sZ W cs x)(hm:mW x<=1048576):lk (hp W) cs (mH x)/\(mH x).draw<18446744073709551616/\(mH x).m.bd:=by
 obtain ⟨k,n,d,m,u⟩:=x;obtain ⟨c1,r1,e1,h1,c2,r2,e2,h2,c3,r3,e3,h3,c4,r4,e4,h4,h5⟩:=hR;obtain ⟨rfl,_⟩:=kJ h1;obtain ⟨rfl,_⟩:=kJ h2;obtain ⟨rfl,b3⟩:=lG h3;obtain rfl:r4=[]:=h5;simp only[mW,mS,mP,mU,mZ] at hm;obtain ⟨⟨p,e5,hS⟩,hb⟩:=LE (x:=m) h4 qo;have hmx:ac=18446744073709551615:=rfl;dsimp only at e1 e2 e3 e4 e5 b3;refine ⟨⟨p,?_,hS⟩,by show d.toNat<_;omega,hb⟩;rw[e1,e2,e3,e4,e5,aar]
 rfl
theorem BT{α:Type}{R:List Value->α->Prop}:∀ {css:List (List Value)} {xs:List α},dP R css xs->dY R css xs
 | [],[],_=>trivial
 | _::_,_::_,g=>⟨g.1,BT g.2⟩
 | [],_::_,g=>g.elim
 | _::_,[],g=>g.elim
theorem yw{α:Type}{n:Nat}{R:List Value->α->Prop}(h:∀ c x,R c x->eq c=n):∀ {css:List (List Value)} {xs:List α},dP R css xs->∀ d∈css,eq d=n
 | [],[],_=>by simp
 | c::cs,x::xs,g=>by
  intro d hd;rcases aay.1 hd with rfl|hd
  ·exact h _ _ g.1
  exact yw h g.2 d hd
 | [],_::_,g=>g.elim
 | _::_,[],g=>g.elim
theorem AF:∀ {css:List (List Value)} {xs:List s9},dP (sZ W) css xs->eS mW xs<=1048576->dP (lk (hp W)) css (xs.map mH)/\∀ x∈xs.map mH,x.draw<18446744073709551616/\x.m.bd
 | [],[],_,_=>⟨trivial,Nm⟩
 | c::cs,x::xs,⟨h1,h2⟩,hB=>by
  simp only[eS] at hB;obtain ⟨g1,g2⟩:=L0 h1 qo;obtain ⟨k1,k2⟩:=AF h2 qo;refine ⟨⟨g1,k1⟩,fun y hy=>?_⟩;rw[aaq] at hy;rcases aay.1 hy with rfl|hy
  ·exact g2
  exact k2 y hy
 | [],_::_,g,_=>g.elim
 | _::_,[],g,_=>g.elim
def HS:dV enc Tryz.prog W 22 1 (kz W 17 (sZ W)) (mL mW):=rG Tryz.underlying22 qk JR
def Hq{base:Nat}{v:Value}{d:DataW H}{ps:List MemPlace}(hval:Value.okWide Tryz.prog W .any base 22 v)(h:DataW.Trod enc Tryz.prog W 0 (fun _=>true) true 22 v d ps)(hB:Rows.uptoBulk d<=1048576):
  ∃ ao cap,∃ cs:List Cl,v=.slice ao (eq cs) cap/\dn 17 (lk (hp W)) (hp W) ao (eq cs) cap cs/\(∀ x∈cs,x.draw<18446744073709551616/\x.m.bd)/\eq cs<1099511627776:=by
 obtain ⟨a0,len,cap0,rfl⟩:=okWide_slice Tryz.underlying22 hval;obtain ⟨xs,hR,hm⟩:=(HS (enc:=enc) (W:=W)).arg h;simp only[mL] at hm;have hge:=uF mW (fun _=>by simp only[mW,mS,mP,mU];omega) xs;obtain ⟨ao,cap,css,e,x,h2⟩:=hR;obtain ⟨g1,g2⟩:=AF h2 qo;simp[Value.cells] at e;obtain ⟨rfl,rfl,rfl⟩:=e;have el:eq xs=eq (xs.map mH):=by simp
 rw[el] at x ⊢;exact ⟨a0,cap0,xs.map mH,I,⟨css,I,x,BT g1,yw (fun c x hc=>by obtain ⟨_,rfl,_⟩:=hc;rfl) g1⟩,g2,qo⟩
end opens
end
section
open Go.En Go.ChangeShapes Go.WideShapes Go.ChangeAt Go.RowKit
section opens
variable {H:Type} {enc:TypeId×Value->H} {W:World}
theorem BR:∀ {css:List (List Value)} {xs:List Int},dP (RI .i64) css xs->css.flatten=iv xs/\∀ d∈xs,-9223372036854775808<=d/\d<=9223372036854775807
 | [],[],_=>⟨rfl,Nm⟩
 | c::cs,x::xs,⟨hc,g⟩=>by
  obtain ⟨rfl,hw⟩:=hc;obtain ⟨h1,h2⟩:=BR g;have hx : -9223372036854775808<=x/\x<=9223372036854775807:=by simp_all [Lit.wf,IntKind.min,IntKind.signed,IntKind.bits]
  refine ⟨by rw[abc,h1];simp[iv],?_⟩
  simp_all
 | [],_::_,g=>g.elim
 | _::_,[],g=>g.elim
theorem yI:∀ xs:List Int,eS (fun _=>1) xs=eq xs
 | []=>rfl
 | x::r=>by rw[eS,yI r,aan];omega
set_option maxRecDepth 100000 in
theorem IV{base:Nat}{v:Value}{d:DataW H}{ps:List MemPlace}(hval:Value.okWide Tryz.prog W .any base 31 v)(h:DataW.Trod enc Tryz.prog W 0 (fun _=>true) true 31 v d ps)(hB:Rows.uptoBulk d<=1048576):
  ∃ ao cap,∃ ds:List Int,v=.slice ao (eq ds) cap/\aw (hp W) ao (eq ds) cap 1 (iv ds)/\(∀ x∈ds,-9223372036854775808<=x/\x<=9223372036854775807)/\eq ds<1099511627776:=by
 obtain ⟨a0,len,cap0,rfl⟩:=okWide_slice Tryz.underlying31 hval;obtain ⟨xs,hR,hm⟩:=(dV.slice Tryz.underlying31 qk (dV.int (enc:=enc) (W:=W) Tryz.underlying3 qk)).arg h;obtain ⟨ao,cap,css,e,x,h2⟩:=hR;obtain ⟨g1,g2⟩:=BR h2;simp[Value.cells] at e;obtain ⟨rfl,rfl,rfl⟩:=e
 grind [yI]
end opens
end
section
def HM{ao:Option Addr}{cap:Nat}{es:List af}(hG:dn 4 (dB K) K ao (eq es) cap es){k:Nat}{e:af}(hk:es[k]?=some e):
  ∃ a ae ce,ao=some a/\aw K ae (eq e.data) ce 1 (bv e.data)/\∀ (j:Nat) v,(e.v ae ce).toList[j]?=some v->cC K ((a.add (k*4)).add j) v:=by
 have hkl:k<eq es:=(aax.1 hk).1;obtain ⟨a,rfl⟩:=hG.addr qo Nn;obtain ⟨c,⟨ae,ce,rfl,x⟩,_,hc⟩:=hG.cells hk;exact ⟨a,ae,ce,I,x,hc⟩
end
end Go.En
