/-
  Part 3 of what the proof needs (texts Tj Tk Tl Tm Tn To Tp Tq Tr Ts Kf Ek Wa Ua Ub Nl Uc Ud Wb Wc Wd We Wf Wg Wh Wi Wj).
-/
import Derived.Test.YtneeeblghijmgaaGreatZC2
set_option linter.unusedSectionVars false
set_option linter.unusedSimpArgs false
set_option linter.unusedVariables false
namespace Go.En
open Go.Proofs Go.Proofs.YtneeeblghijmgaaGreat
section
structure PrtI (P Q:Nat->Nat->Prop) (a b i j:Nat) (xs:List Nat):Prop where
 i1:a+1<=i
 ij:i<=j+1
 jb:j+1<=b
 lo:∀ p,a+1<=p->p<i->P (xs.getD p 0) (xs.getD a 0)
 hi:∀ p,j<p->p<b->Q (xs.getD p 0) (xs.getD a 0)
theorem PrtI.start(P Q:Nat->Nat->Prop){a b:Nat}{xs:List Nat}(h:a<b):PrtI P Q a b (a+1) (b-1) xs:=
 ⟨Nat.le_refl _,by omega,by omega,fun p h1 h2=>by omega,fun p h1 h2=>by omega⟩
theorem PrtI.up{P Q:Nat->Nat->Prop}{a b i j:Nat}{xs:List Nat}(h:PrtI P Q a b i j xs)(hij:i<=j)(hp:P (xs.getD i 0) (xs.getD a 0)):PrtI P Q a b (i+1) j xs:=
 ⟨by have:=h.i1;omega,by omega,h.jb,fun p h1 h2=>by
  by_cases e:p=i
  ·rw[e];exact hp
  ·exact h.lo p h1 qo,h.hi⟩
theorem PrtI.down{P Q:Nat->Nat->Prop}{a b i j:Nat}{xs:List Nat}(h:PrtI P Q a b i j xs)(hij:i<=j)(hq:Q (xs.getD j 0) (xs.getD a 0)):PrtI P Q a b i (j-1) xs:=
 ⟨h.i1,by omega,by have:=h.jb;omega,h.lo,fun p h1 h2=>by
  by_cases e:p=j
  ·rw[e];exact hq
  ·exact h.hi p (by have:=h.i1;omega) h2⟩
theorem PrtI.swap{P Q:Nat->Nat->Prop}{a b i j:Nat}{xs:List Nat}(h:PrtI P Q a b i j xs)(hij:i<j)(hl:b<=xs.length)(hp:P (xs.getD j 0) (xs.getD a 0))(hq:Q (xs.getD i 0) (xs.getD a 0)):PrtI P Q a b (i+1) (j-1) (swp i j xs):=by
 have h1:=h.i1;have h2:=h.jb;have hg:∀ k,(swp i j xs).getD k 0=if k=j then xs.getD i 0 else if k=i then xs.getD j 0 else xs.getD k 0:=swp_getD qo qo;have ha:(swp i j xs).getD a 0=xs.getD a 0:=by rw[hg,if_neg qo,if_neg qo]
 refine ⟨by omega,by omega,by omega,fun p h3 h4=>?_,fun p h3 h4=>?_⟩
 ·rw[ha,hg,if_neg qo]
  by_cases e:p=i
  ·rw[if_pos e];exact hp
  ·rw[if_neg e];exact h.lo p h3 qo
 ·rw[ha,hg]
  by_cases e:p=j
  ·rw[if_pos e];exact hq
  ·rw[if_neg e,if_neg qo];exact h.hi p qo h4
theorem PrtI.last{P Q:Nat->Nat->Prop}{a b j:Nat}{xs:List Nat}(h:PrtI P Q a b (j+1) j xs)(hl:b<=xs.length):
  (∀ p,a<=p->p<j->P ((swp j a xs).getD p 0) ((swp j a xs).getD j 0))/\∀ p,j<p->p<b->Q ((swp j a xs).getD p 0) ((swp j a xs).getD j 0):=by
 have h1:=h.i1;have h2:=h.jb;have hg:∀ k,(swp j a xs).getD k 0=if k=a then xs.getD j 0 else if k=j then xs.getD a 0 else xs.getD k 0:=swp_getD qo qo
 have hj:(swp j a xs).getD j 0=xs.getD a 0:=by
  rw[hg]
  by_cases e:j=a
  ·rw[if_pos e,e]
  ·rw[if_neg e,if_pos rfl]
 refine ⟨fun p h3 h4=>?_,fun p h3 h4=>?_⟩
 ·rw[hj,hg]
  by_cases e:p=a
  ·rw[if_pos e];exact h.lo j qo qo
  ·rw[if_neg e,if_neg qo];exact h.lo p qo qo
 ·rw[hj,hg,if_neg qo,if_neg qo];exact h.hi p h3 h4
theorem Srt.join{a b m:Nat}{xs:List Nat}(h1:Srt a m xs)(h2:Srt (m+1) b xs)(hlo:∀ p,a<=p->p<m->xs.getD p 0<=xs.getD m 0)(hhi:∀ p,m<p->p<b->xs.getD m 0<=xs.getD p 0):Srt a b xs:=fun i j g1 g2 g3=>by
 by_cases e1:j<m
 ·exact h1 i j g1 g2 e1
 ·by_cases e2:j=m
  ·subst e2;exact hlo i g1 g2
  ·by_cases e3:i=m
   ·subst e3;exact hhi j qo g3
   ·by_cases e4:i<m
    ·exact Nat.le_trans (hlo i g1 e4)<|hhi j qo g3
    ·exact h2 i j qo g2 g3
end
section
attribute [local irreducible] Code.wp wpList Calls
theorem parEC(kd:Bool){w0:World}{K:PH}{hs:List PH}(g cap:Nat)(pre post:List Value)(xs:List Nat)(a b pv:Nat)(hab:a<b)(hpv:a<=pv/\pv<b)(hb:b<=xs.length)(hc:xs.length<=cap)(hl:xs.length<=1099511627776):
  Ct Tryz.prog w0 (sf kd 175 159) [.slice (some ⟨g,pre.length,none⟩) xs.length cap,.int .i64 (a:Nat),.int .i64 (b:Nat),.int .i64 (pv:Nat)] K (pt g (kA kd pre xs post) (sf kd 23 3)::hs)
   (fun v K' hs'=>K'=K/\∃ ys,∃ i:Nat,hs'=pt g (kA kd pre ys post) (sf kd 23 3)::hs/\v=.int .i64 (i:Nat)/\SegP a b xs ys/\a+1<=i/\i<=b/\(∀ p,a+1<=p->p<i->ys.getD p 0<=ys.getD a 0)/\(∀ p,i<=p->p<b->ys.getD a 0<ys.getD p 0)/\ys.getD a 0=xs.getD pv 0):=by
 cases kd
 let kd:Bool:=false
 rewrite [show sf false=sf kd from rfl]
 try rewrite [show kA false=kA kd from rfl]
 refine enter Tryz.func159 qk I I I ?_
 rotate_left
 let kd:Bool:=true
 rewrite [show sf true=sf kd from rfl]
 try rewrite [show kA true=kA kd from rfl]
 refine enter Tryz.func175 qk I I I ?_
 rotate_left
 all_goals
  refine sq (rg ?_);have hgi:(kA kd pre xs post)[pre.length+a]?=some (.int (kI kd) ((xs.getD a 0:Nat):Int)):=kA_get qo;have hgj:(kA kd pre xs post)[pre.length+pv]?=some (.int (kI kd) ((xs.getD pv 0:Nat):Int)):=kA_get qo;have hgj2:(kA kd pre (xs.set a (xs.getD pv 0)) post)[pre.length+pv]?=some (.int (kI kd) (((xs.set a (xs.getD pv 0)).getD pv 0:Nat):Int)):=kA_get (by rw[List.length_set];omega);refine fin hT 1 I (th (sq (rga [pt g (kA kd pre xs post) (sf kd 23 3)] 13 [0,2,4,6,8,10,12,14,16,18,20,22,24,27,28,31] (by simp) qk qk (dixs hT qk 6 pv I I qo ?_))));simp only[add_mk,Nat.mul_one];refine dldpw hT qk 0 0 I qk I hgj (dixs hT qk 2 a I I qo ?_);simp only[add_mk,Nat.mul_one];refine dldpw hT qk 0 0 I qk I hgi (dixs hT qk 0 a I I qo ?_);simp only[add_mk,Nat.mul_one]
  refine dact hT qk 0 I (stp hT 0 0 I I hgi I (dnext (.inl qk) (dixs hT qk 0 pv I I qo ?_)));simp only[add_mk,Nat.mul_one];refine dact hT qk 0 I (WL.hs (pt g (kA kd pre (xs.set a (xs.getD pv 0)) post) (sf kd 23 3)::hs) (congrArg (fun z=>pt g z (sf kd 23 3)::hs) (kA_set qo)) (stp hT 0 0 I I hgj2 I (WL.hs (pt g (kA kd pre (swp a pv xs) post) (sf kd 23 3)::hs) (congrArg (fun z=>pt g z (sf kd 23 3)::hs) (kA_set (by rw[List.length_set];omega))) (dnext (.inl qk) (dend hT qk 0 rfl (th (sq (rg ?_))))))));have hswl:=swp_len a pv xs
  have hva:(swp a pv xs).getD a 0=xs.getD pv 0:=by
   rw[swp_getD qo qo]
   by_cases e:a=pv
   ·rw[if_pos e,e]
   ·rw[if_neg e,if_pos rfl]
  refine ar hT 1 I (i64w (x:=((a+1:Nat):Int)) qo) (ar hT 1 I (v':=.int .i64 (b-1:Nat)) (by rw[show ((b:Nat):Int)-1=((b-1:Nat):Int) from by omega];exact i64w qo) (fin hT 2 I (th (sq (bk ?_)))))
  refine loop (σ:=Nat×Nat×List Nat) (fun s=>[(0,.slice (some ⟨g,pre.length,none⟩) xs.length cap),(1,.int .i64 (a:Nat)),(9,.int .i64 s.1),(10,.int .i64 s.2.1)]) (fun _=>K) (fun s=>pt g (kA kd pre s.2.2 post) (sf kd 23 3)::hs)
   (fun s=>SegP a b xs s.2.2/\PrtI (fun x y=>x<=y) (fun x y=>y<x) a b s.1 s.2.1 s.2.2/\s.2.2.getD a 0=xs.getD pv 0) (fun s=>s.2.1+1-s.1) (a+1,b-1,swp a pv xs) ⟨SegP.swp ⟨by omega,by omega⟩ ⟨by omega,by omega⟩ hb,PrtI.start _ _ hab,hva⟩ ⟨rfl,rfl,rfl,rfl,trivial⟩ rfl rfl ?_
  rintro ⟨i0,j0,ys⟩ ⟨hP,hI0,hv0⟩;dsimp only at *;have hyl:ys.length=xs.length:=hP.len;refine bk (jn (σ:=Nat) (fun i=>[(0,.slice (some ⟨g,pre.length,none⟩) xs.length cap),(1,.int .i64 (a:Nat)),(9,.int .i64 (i:Nat)),(10,.int .i64 (j0:Nat))]) (fun _=>pt g (kA kd pre ys post) (sf kd 23 3)::hs) (fun i=>i0<=i/\PrtI (fun x y=>x<=y) (fun x y=>y<x) a b i j0 ys/\(i<=j0->ys.getD a 0<ys.getD i 0)) ?_ ?_)
  ·refine bk (loop (σ:=Nat) (fun i=>[(0,.slice (some ⟨g,pre.length,none⟩) xs.length cap),(1,.int .i64 (a:Nat)),(9,.int .i64 (i:Nat)),(10,.int .i64 (j0:Nat))]) (fun _=>K) (fun _=>pt g (kA kd pre ys post) (sf kd 23 3)::hs) (fun i=>i0<=i/\PrtI (fun x y=>x<=y) (fun x y=>y<x) a b i j0 ys) (fun i=>j0+1-i) i0 ⟨Nat.le_refl _,hI0⟩ ⟨I,I,I,I,trivial⟩ I I ?_);rintro i ⟨hi0,hI⟩;have q1:=hI.i1;have q2:=hI.ij;have q3:=hI.jb;refine sq (sq (rga [pt g (kA kd pre ys post) (sf kd 23 3)] 15 [0,2,4,6,8,10,12,14,16,18,20,22,25,26,28] (by simp) qk qk (dcmp hT qk 2 (i<=j0) I (by simp) (fun h1=>?_) (fun h1=>?_))))
   ·refine dixs hT qk 3 a I I qo ?_;simp only[add_mk,Nat.mul_one];refine dldp hT qk 0 0 I I (kA_get qo) (dixs hT qk 2 i I I qo ?_);simp only[add_mk,Nat.mul_one];refine dldp hT qk 0 0 I I (kA_get qo) (dact hT qk 0 I (cl hT 0 I (lessC kd (ys.getD a 0) (ys.getD i 0)) ?_));rintro v41 K41 hs41 ⟨rfl,rfl,rfl⟩;refine dnex [pt g (kA kd pre ys post) (sf kd 23 3)] (by simp) (by simp) I ?_
    by_cases hlt:ys.getD a 0<ys.getD i 0
    ·rw[decide_eq_true hlt];exact dend hT qk 2 I (th (ifF I (ex (xt (xt (xb (jx i ⟨hi0,hI,fun _=>hlt⟩ ⟨I,I,I,I,trivial⟩ I I)))))))
    ·rw[decide_eq_false hlt];exact dend hT qk 2 I (th (ifT I (sk (th (bk (rg (ar hT 1 I (i64w (x:=((i+1:Nat):Int)) qo) (fin hT 1 I (bl (again (x:=i) (i+1) ⟨I,I,I,I,trivial⟩ I I ⟨by omega,hI.up h1 (Nat.le_of_not_lt hlt)⟩ qo))))))))))
   ·exact dact hT qk 9 I<|WL.pures hT 1 I (dnex [pt g (kA kd pre ys post) (sf kd 23 3)] (by simp) (by simp) I<|dend hT qk 2 I (th<|ifF I (ex<|xt (xt<|xb (jx i ⟨hi0,hI,fun h=>absurd h h1⟩ ⟨I,I,I,I,trivial⟩ I I)))))
  ·rintro i ⟨hi0,hI,hq⟩;refine jn (σ:=Nat) (fun j=>[(0,.slice (some ⟨g,pre.length,none⟩) xs.length cap),(1,.int .i64 (a:Nat)),(9,.int .i64 (i:Nat)),(10,.int .i64 (j:Nat))]) (fun _=>pt g (kA kd pre ys post) (sf kd 23 3)::hs) (fun j=>j<=j0/\PrtI (fun x y=>x<=y) (fun x y=>y<x) a b i j ys/\(i<=j->ys.getD a 0<ys.getD i 0)/\(i<=j->ys.getD j 0<=ys.getD a 0)) ?_ ?_
   ·refine bk (loop (σ:=Nat) (fun j=>[(0,.slice (some ⟨g,pre.length,none⟩) xs.length cap),(1,.int .i64 (a:Nat)),(9,.int .i64 (i:Nat)),(10,.int .i64 (j:Nat))]) (fun _=>K) (fun _=>pt g (kA kd pre ys post) (sf kd 23 3)::hs) (fun j=>j<=j0/\PrtI (fun x y=>x<=y) (fun x y=>y<x) a b i j ys) (fun j=>j+1-i) j0 ⟨Nat.le_refl _,hI⟩ ⟨I,I,I,I,trivial⟩ I I ?_);rintro j ⟨hj0,hJ⟩;have q1:=hJ.i1;have q2:=hJ.ij;have q3:=hJ.jb;refine sq (sq (rga [pt g (kA kd pre ys post) (sf kd 23 3)] 14 [0,2,4,6,8,10,12,14,16,18,20,22,25,26] (by simp) qk qk (dcmp hT qk 2 (i<=j) I (by simp) (fun h1=>?_) (fun h1=>?_))))
    ·refine dixs hT qk 3 a I I qo ?_;simp only[add_mk,Nat.mul_one];refine dldp hT qk 0 0 I I (kA_get qo) (dixs hT qk 2 j I I qo ?_);simp only[add_mk,Nat.mul_one];refine dldp hT qk 0 0 I I (kA_get qo) (dact hT qk 0 I (cl hT 0 I (lessC kd (ys.getD a 0) (ys.getD j 0)) ?_));rintro v58 K58 hs58 ⟨rfl,rfl,rfl⟩;refine dnex [pt g (kA kd pre ys post) (sf kd 23 3)] (by simp) (by simp) I ?_
     by_cases hlt:ys.getD a 0<ys.getD j 0
     ·rw[decide_eq_true hlt];exact dend hT qk 1 I (th (ifT I (sk (th (bk (rg (ar hT 1 I (v':=.int .i64 (j-1:Nat)) (by rw[show ((j:Nat):Int)-1=((j-1:Nat):Int) from by omega];exact i64w qo) (fin hT 1 I (bl (again (x:=j) (j-1) ⟨I,I,I,I,trivial⟩ I I ⟨by omega,hJ.down h1 hlt⟩ qo))))))))))
     ·rw[decide_eq_false hlt];exact dend hT qk 1 I (th (ifF I (ex (xt (xt (xb (jx j ⟨hj0,hJ,fun h=>hq qo,fun _=>Nat.le_of_not_lt hlt⟩ ⟨I,I,I,I,trivial⟩ I I)))))))
    ·exact dact hT qk 9 I<|WL.pures hT 1 I (dnex [pt g (kA kd pre ys post) (sf kd 23 3)] (by simp) (by simp) I<|dend hT qk 1 I (th<|ifF I (ex<|xt (xt<|xb (jx j ⟨hj0,hJ,fun h=>absurd h h1,fun h=>absurd h h1⟩ ⟨I,I,I,I,trivial⟩ I I)))))
   ·rintro j ⟨hj0,hJ,hqi,hqj⟩;have q1:=hJ.i1;have q2:=hJ.ij;have q3:=hJ.jb;refine sq (sq (rg (cmpS hT 2 I fun b64 h64=>fin hT 0 I (th (ifP h64 I (fun e6=>?_) (fun e6=>?_))))))
    ·obtain rfl:i=j+1:=by omega
     exact ex<|xt (xn I<|xt (xb<|th (sq<|rg (fin hT 2 I<|th (rt<|ret1 I I ⟨I,ys,j+1,I,I,hP,by omega,by omega,hJ.lo,fun p g1 g2=>hJ.hi p qo g2,hv0⟩)))))
    ·have hij:i<j:=by
      rcases Nat.lt_or_ge i j with h|h
      ·exact h
      ·have h1:=hqi qo;have h2:=hqj qo;have:i=j:=by omega
       subst this;omega
     have hgi:(kA kd pre ys post)[pre.length+i]?=some (.int (kI kd) ((ys.getD i 0:Nat):Int)):=kA_get qo;have hgj:(kA kd pre ys post)[pre.length+j]?=some (.int (kI kd) ((ys.getD j 0:Nat):Int)):=kA_get qo;have hgj2:(kA kd pre (ys.set i (ys.getD j 0)) post)[pre.length+j]?=some (.int (kI kd) (((ys.set i (ys.getD j 0)).getD j 0:Nat):Int)):=kA_get (by rw[List.length_set];omega);refine sk (th (sq (rga [pt g (kA kd pre ys post) (sf kd 23 3)] 13 [0,2,4,6,8,10,12,14,16,18,20,22,24,27,28,31] (by simp) qk qk (dixs hT qk 6 j I I qo ?_))));simp only[add_mk,Nat.mul_one];refine dldpw hT qk 0 0 I qk I hgj (dixs hT qk 2 i I I qo ?_);simp only[add_mk,Nat.mul_one];refine dldpw hT qk 0 0 I qk I hgi (dixs hT qk 0 i I I qo ?_);simp only[add_mk,Nat.mul_one];refine dact hT qk 0 I (stp hT 0 0 I I hgi I (dnext (.inl qk) (dixs hT qk 0 j I I qo ?_)))
     simp only[add_mk,Nat.mul_one];exact dact hT qk 0 I (WL.hs (pt g (kA kd pre (ys.set i (ys.getD j 0)) post) (sf kd 23 3)::hs) (congrArg (fun z=>pt g z (sf kd 23 3)::hs) (kA_set qo)) (stp hT 0 0 I I hgj2 I (WL.hs (pt g (kA kd pre (swp i j ys) post) (sf kd 23 3)::hs) (congrArg (fun z=>pt g z (sf kd 23 3)::hs) (kA_set (by rw[List.length_set];omega))) (dnext (.inl qk) (dend hT qk 0 rfl (th (sq (rg (ar hT 1 rfl (i64w (x:=((i+1:Nat):Int)) qo) (fin hT 1 rfl (th (rg (ar hT 1 rfl (v':=.int .i64 (j-1:Nat)) (by rw[show ((j:Nat):Int)-1=((j-1:Nat):Int) from by omega];exact i64w qo) (fin hT 1 I (bl (again (x:=(i0,j0,ys)) (i+1,j-1,swp i j ys) ⟨I,I,I,I,trivial⟩ I I ⟨hP.trans (SegP.swp ⟨by omega,by omega⟩ ⟨by omega,by omega⟩ qo),hJ.swap hij qo (hqj qo) (hqi qo),by rw[swp_getD qo qo,if_neg qo,if_neg qo];exact hv0⟩ (by dsimp only;omega)))))))))))))))))
end
section
def LoB(a b:Nat)(xs:List Nat):Prop:=∀ p q,p<a->a<=q->q<b->xs.getD p 0<=xs.getD q 0
theorem SegP.outD{a b:Nat}{xs ys:List Nat}(h:SegP a b xs ys){i:Nat}(hi:i<a\/b<=i):ys.getD i 0=xs.getD i 0:=by
 rw[List.getD_eq_getElem?_getD,h.out i hi,List.getD_eq_getElem?_getD]
theorem LoB.zero(b:Nat)(xs:List Nat):LoB 0 b xs:=fun p q h=>by omega
theorem LoB.perm{a b:Nat}{xs ys:List Nat}(h:LoB a b xs)(hP:SegP a b xs ys)(hb:b<=xs.length):LoB a b ys:=fun p q h1 h2 h3=>by
 obtain ⟨r,r1,r2,r3⟩:=hP.mem hb h2 h3;rw[hP.outD (.inl h1),r3];exact h p r h1 r1 r2
theorem LoB.cut{a b m:Nat}{xs:List Nat}(h:LoB a b xs)(hm:m<=b):LoB a m xs:=fun p q h1 h2 h3=>h p q h1 h2 qo
theorem Srt.same{a b:Nat}{xs ys:List Nat}(h:Srt a b xs)(he:∀ p,a<=p->p<b->ys.getD p 0=xs.getD p 0):Srt a b ys:=fun i j h1 h2 h3=>by
 rw[he i h1 qo,he j qo h3];exact h i j h1 h2 h3
def Rst(a b c d:Nat)(xs:List Nat):Prop:=∀ zs,SegP c d xs zs->Srt c d zs->Srt a b zs
theorem Rst.self(a b:Nat)(xs:List Nat):Rst a b a b xs:=fun _ _ h=>h
theorem Rst.step{a b c d:Nat}{xs ys:List Nat}(h:Rst a b c d xs)(hP:SegP c d xs ys):Rst a b c d ys:=fun zs h1 h2=>h zs (hP.trans h1) h2
structure PtA (c d m:Nat) (ys:List Nat):Prop where
 m1:c<=m
 m2:m<d
 lo:∀ p,c<=p->p<m->ys.getD p 0<=ys.getD m 0
 hi:∀ p,m<p->p<d->ys.getD m 0<=ys.getD p 0
theorem PtA.left{c d m:Nat}{ys zs:List Nat}(h:PtA c d m ys)(hP:SegP c m ys zs)(hd:d<=ys.length):PtA c d m zs:=by
 have h2:=h.m2;refine ⟨h.m1,h.m2,fun p p1 p2=>?_,fun p p1 p2=>?_⟩
 ·obtain ⟨q,q1,q2,q3⟩:=hP.mem qo p1 p2;rw[q3,hP.outD (.inr (Nat.le_refl _))];exact h.lo q q1 q2
 ·rw[hP.outD (.inr (Nat.le_refl _)),hP.outD (i:=p) (.inr qo)];exact h.hi p p1 p2
theorem PtA.right{c d m:Nat}{ys zs:List Nat}(h:PtA c d m ys)(hP:SegP (m+1) d ys zs)(hd:d<=ys.length):PtA c d m zs:=by
 have h2:=h.m2;refine ⟨h.m1,h.m2,fun p p1 p2=>?_,fun p p1 p2=>?_⟩
 ·rw[hP.outD (i:=p) (.inl qo),hP.outD (.inl (Nat.lt_succ_self _))];exact h.lo p p1 p2
 ·obtain ⟨q,q1,q2,q3⟩:=hP.mem hd qo p2;rw[q3,hP.outD (.inl (Nat.lt_succ_self _))];exact h.hi q qo q2
theorem PtA.loB{c d m:Nat}{ys:List Nat}(h:PtA c d m ys)(hl:LoB c d ys):LoB (m+1) d ys:=fun p q h1 h2 h3=>by
 have g1:=h.m1
 by_cases e:p<c
 ·exact hl p q e qo h3
 ·by_cases e2:p=m
  ·rw[e2];exact h.hi q qo h3
  ·exact Nat.le_trans (h.lo p qo qo)<|h.hi q qo h3
theorem Rst.left{a b c d m:Nat}{ys zs:List Nat}(h:Rst a b c d ys)(hA:PtA c d m ys)(hd:d<=ys.length)(hP:SegP c m ys zs)(hS:Srt c m zs):Rst a b (m+1) d zs:=fun us h1 h2=>by
 have g1:=hA.m1;have g2:=hA.m2;have hA2:=(hA.left hP hd).right h1 (by rw[hP.len];exact hd);refine h us ((hP.wide (Nat.le_refl _) qo).trans (h1.wide qo (Nat.le_refl _))) (Srt.join (m:=m) (hS.same fun p p1 p2=>h1.outD (.inl qo)) h2 hA2.lo hA2.hi)
theorem Rst.right{a b c d m:Nat}{ys zs:List Nat}(h:Rst a b c d ys)(hA:PtA c d m ys)(hd:d<=ys.length)(hP:SegP (m+1) d ys zs)(hS:Srt (m+1) d zs):Rst a b c m zs:=fun us h1 h2=>by
 have g1:=hA.m1;have g2:=hA.m2;have hA2:=(hA.right hP hd).left h1 (by rw[hP.len];exact hd);refine h us ((hP.wide qo (Nat.le_refl _)).trans (h1.wide (Nat.le_refl _) qo)) (Srt.join (m:=m) h2 (hS.same fun p p1 p2=>h1.outD (.inr qo)) hA2.lo hA2.hi)
theorem Rst.equal{a b c d i:Nat}{ys:List Nat}(h:Rst a b c d ys)(hc:0<c)(hci:c+1<=i)(hid:i<=d)(hd:d<=ys.length)(hl:LoB c d ys)(hle:ys.getD c 0<=ys.getD (c-1) 0)(h1:∀ p,c+1<=p->p<i->ys.getD p 0<=ys.getD c 0)(h2:∀ p,i<=p->p<d->ys.getD c 0<ys.getD p 0):
  Rst a b i d ys/\LoB i d ys:=by
 have heq:∀ p,c<=p->p<i->ys.getD p 0=ys.getD c 0:=fun p p1 p2=>by
  by_cases e:p=c
  ·rw[e]
  ·have:=h1 p qo p2;have:=hl (c-1) p qo p1 qo;omega
 refine ⟨fun us g1 g2=>h us (g1.wide qo<|Nat.le_refl _) fun p q q1 q2 q3=>?_,fun p q q1 q2 q3=>?_⟩
 ·by_cases e1:q<i
  ·rw[g1.outD (i:=p) (.inl qo),g1.outD (i:=q) (.inl qo),heq p q1 qo,heq q qo e1];exact Nat.le_refl _
  ·by_cases e2:p<i
   ·obtain ⟨r,r1,r2,r3⟩:=g1.mem hd (by omega:i<=q) q3;rw[g1.outD (i:=p) (.inl e2),heq p q1 e2,r3];exact Nat.le_of_lt (h2 r r1 r2)
   ·exact g2 p q qo q2 q3
 ·by_cases e:p<c
  ·exact hl p q e qo q3
  ·rw[heq p qo q1];exact Nat.le_of_lt (h2 q q2 q3)
theorem Srt.one{a b:Nat}{xs:List Nat}(h:b<=a+1):Srt a b xs:=fun i j h1 h2 h3=>by omega
theorem Srt.snoc{a b:Nat}{xs:List Nat}(h:Srt a b xs)(hab:a<b)(hle:xs.getD (b-1) 0<=xs.getD b 0):Srt a (b+1) xs:=fun i j h1 h2 h3=>by
 by_cases e:j=b
 ·rw[e]
  by_cases e2:i=b-1
  ·rw[e2];exact hle
  ·exact Nat.le_trans (h i (b-1) h1 qo qo) hle
 ·exact h i j h1 h2 qo
end
section
attribute [local irreducible] Code.wp wpList Calls
theorem parC(kd:Bool){w0:World}{K:PH}{hs:List PH}(g cap:Nat)(pre post:List Value)(xs:List Nat)(a b pv:Nat)(hab:a<b)(hpv:a<=pv/\pv<b)(hb:b<=xs.length)(hc:xs.length<=cap)(hl:xs.length<=1099511627776):
  Ct Tryz.prog w0 (sf kd 176 160) [.slice (some ⟨g,pre.length,none⟩) xs.length cap,.int .i64 (a:Nat),.int .i64 (b:Nat),.int .i64 (pv:Nat)] K (pt g (kA kd pre xs post) (sf kd 23 3)::hs)
   (fun v K' hs'=>K'=K/\∃ ys,∃ m:Nat,∃ t:Bool,hs'=pt g (kA kd pre ys post) (sf kd 23 3)::hs/\v=.tuple #[.int .i64 (m:Nat),.bool t]/\SegP a b xs ys/\PtA a b m ys):=by
 cases kd
 let kd:Bool:=false
 rewrite [show sf false=sf kd from rfl]
 try rewrite [show kA false=kA kd from rfl]
 refine enter Tryz.func160 qk I I I ?_
 rotate_left
 let kd:Bool:=true
 rewrite [show sf true=sf kd from rfl]
 try rewrite [show kA true=kA kd from rfl]
 refine enter Tryz.func176 qk I I I ?_
 rotate_left
 all_goals
  refine sq (rg (fin hT 2 I (th (sq ?_))));have hgi:(kA kd pre xs post)[pre.length+a]?=some (.int (kI kd) ((xs.getD a 0:Nat):Int)):=kA_get qo;have hgj:(kA kd pre xs post)[pre.length+pv]?=some (.int (kI kd) ((xs.getD pv 0:Nat):Int)):=kA_get qo;have hgj2:(kA kd pre (xs.set a (xs.getD pv 0)) post)[pre.length+pv]?=some (.int (kI kd) (((xs.set a (xs.getD pv 0)).getD pv 0:Nat):Int)):=kA_get (by rw[List.length_set];omega);refine rga [pt g (kA kd pre xs post) (sf kd 23 3)] 13 [0,2,4,6,8,10,12,14,16,18,20,22,24,27,28,31] (by simp) qk qk (dixs hT qk 6 pv I I qo ?_);simp only[add_mk,Nat.mul_one];refine dldpw hT qk 0 0 I qk I hgj (dixs hT qk 2 a I I qo ?_);simp only[add_mk,Nat.mul_one];refine dldpw hT qk 0 0 I qk I hgi (dixs hT qk 0 a I I qo ?_);simp only[add_mk,Nat.mul_one]
  refine dact hT qk 0 I (stp hT 0 0 I I hgi I (dnext (.inl qk) (dixs hT qk 0 pv I I qo ?_)));simp only[add_mk,Nat.mul_one];refine dact hT qk 0 I (WL.hs (pt g (kA kd pre (xs.set a (xs.getD pv 0)) post) (sf kd 23 3)::hs) (congrArg (fun z=>pt g z (sf kd 23 3)::hs) (kA_set qo)) (stp hT 0 0 I I hgj2 I (WL.hs (pt g (kA kd pre (swp a pv xs) post) (sf kd 23 3)::hs) (congrArg (fun z=>pt g z (sf kd 23 3)::hs) (kA_set (by rw[List.length_set];omega))) (dnext (.inl qk) (dend hT qk 0 rfl (th (sq (rg ?_))))))));have hswl:=swp_len a pv xs;have hP0:SegP a b xs (swp a pv xs):=SegP.swp ⟨by omega,by omega⟩ ⟨by omega,by omega⟩ hb;refine ar hT 1 I (i64w (x:=((a+1:Nat):Int)) qo) (ar hT 1 I (v':=.int .i64 (b-1:Nat)) (by rw[show ((b:Nat):Int)-1=((b-1:Nat):Int) from by omega];exact i64w qo) ?_);obtain ⟨ys,hys⟩:∃ ys,ys=swp a pv xs:=⟨_,rfl⟩
  rw[<-hys] at hswl hP0 ⊢;clear hys;have hyl:ys.length=xs.length:=hswl;refine fin hT 2 I (th (jn (σ:=Nat) (fun i=>[(0,.slice (some ⟨g,pre.length,none⟩) xs.length cap),(1,.int .i64 (a:Nat)),(10,.int .i64 (i:Nat)),(11,.int .i64 (((b-1):Nat):Int))]) (fun _=>pt g (kA kd pre ys post) (sf kd 23 3)::hs) (fun i=>(a+1)<=i/\PrtI (fun x y=>x<y) (fun x y=>y<=x) a b i (b-1) ys/\(i<=(b-1)->ys.getD a 0<=ys.getD i 0)) ?_ ?_))
  ·refine bk (loop (σ:=Nat) (fun i=>[(0,.slice (some ⟨g,pre.length,none⟩) xs.length cap),(1,.int .i64 (a:Nat)),(10,.int .i64 (i:Nat)),(11,.int .i64 (((b-1):Nat):Int))]) (fun _=>K) (fun _=>pt g (kA kd pre ys post) (sf kd 23 3)::hs) (fun i=>(a+1)<=i/\PrtI (fun x y=>x<y) (fun x y=>y<=x) a b i (b-1) ys) (fun i=>(b-1)+1-i) (a+1) ⟨Nat.le_refl _,PrtI.start _ _ hab⟩ ⟨I,I,I,I,trivial⟩ I I ?_);rintro i ⟨hi0,hI⟩;have q1:=hI.i1;have q2:=hI.ij;have q3:=hI.jb;refine sq (sq (rga [pt g (kA kd pre ys post) (sf kd 23 3)] 14 [0,2,4,6,8,10,12,14,16,18,20,22,25,26] (by simp) qk qk (dcmp hT qk 2 (i<=(b-1)) I (by simp) (fun h1=>?_) (fun h1=>?_))))
   ·refine dixs hT qk 3 i I I qo ?_;simp only[add_mk,Nat.mul_one];refine dldp hT qk 0 0 I I (kA_get qo) (dixs hT qk 2 a I I qo ?_);simp only[add_mk,Nat.mul_one];refine dldp hT qk 0 0 I I (kA_get qo) (dact hT qk 0 I (cl hT 0 I (lessC kd (ys.getD i 0) (ys.getD a 0)) ?_));rintro v41 K41 hs41 ⟨rfl,rfl,rfl⟩;refine dnex [pt g (kA kd pre ys post) (sf kd 23 3)] (by simp) (by simp) I ?_
    by_cases hlt:ys.getD i 0<ys.getD a 0
    ·rw[decide_eq_true hlt];exact dend hT qk 1 I (th (ifT I (sk (th (bk (rg (ar hT 1 I (i64w (x:=((i+1:Nat):Int)) qo) (fin hT 1 I (bl (again (x:=i) (i+1) ⟨I,I,I,I,trivial⟩ I I ⟨by omega,hI.up h1 hlt⟩ qo))))))))))
    ·rw[decide_eq_false hlt];exact dend hT qk 1 I (th (ifF I (ex (xt (xt (xb (jx i ⟨hi0,hI,fun _=>Nat.le_of_not_lt hlt⟩ ⟨I,I,I,I,trivial⟩ I I)))))))
   ·exact dact hT qk 9 I<|WL.pures hT 1 I (dnex [pt g (kA kd pre ys post) (sf kd 23 3)] (by simp) (by simp) I<|dend hT qk 1 I (th<|ifF I (ex<|xt (xt<|xb (jx i ⟨hi0,hI,fun h=>absurd h h1⟩ ⟨I,I,I,I,trivial⟩ I I)))))
  ·rintro i ⟨hi0,hI,hq⟩;refine jn (σ:=Nat) (fun j=>[(0,.slice (some ⟨g,pre.length,none⟩) xs.length cap),(1,.int .i64 (a:Nat)),(10,.int .i64 (i:Nat)),(11,.int .i64 (j:Nat))]) (fun _=>pt g (kA kd pre ys post) (sf kd 23 3)::hs) (fun j=>j<=(b-1)/\PrtI (fun x y=>x<y) (fun x y=>y<=x) a b i j ys/\(i<=j->ys.getD a 0<=ys.getD i 0)/\(i<=j->ys.getD j 0<ys.getD a 0)) ?_ ?_
   ·refine bk (loop (σ:=Nat) (fun j=>[(0,.slice (some ⟨g,pre.length,none⟩) xs.length cap),(1,.int .i64 (a:Nat)),(10,.int .i64 (i:Nat)),(11,.int .i64 (j:Nat))]) (fun _=>K) (fun _=>pt g (kA kd pre ys post) (sf kd 23 3)::hs) (fun j=>j<=(b-1)/\PrtI (fun x y=>x<y) (fun x y=>y<=x) a b i j ys) (fun j=>j+1-i) ((b-1)) ⟨Nat.le_refl _,hI⟩ ⟨I,I,I,I,trivial⟩ I I ?_);rintro j ⟨hj0,hJ⟩;have q1:=hJ.i1;have q2:=hJ.ij;have q3:=hJ.jb;refine sq (sq (rga [pt g (kA kd pre ys post) (sf kd 23 3)] 15 [0,2,4,6,8,10,12,14,16,18,20,22,25,26,28] (by simp) qk qk (dcmp hT qk 2 (i<=j) I (by simp) (fun h1=>?_) (fun h1=>?_))))
    ·refine dixs hT qk 3 j I I qo ?_;simp only[add_mk,Nat.mul_one];refine dldp hT qk 0 0 I I (kA_get qo) (dixs hT qk 2 a I I qo ?_);simp only[add_mk,Nat.mul_one];refine dldp hT qk 0 0 I I (kA_get qo) (dact hT qk 0 I (cl hT 0 I (lessC kd (ys.getD j 0) (ys.getD a 0)) ?_));rintro v58 K58 hs58 ⟨rfl,rfl,rfl⟩;refine dnex [pt g (kA kd pre ys post) (sf kd 23 3)] (by simp) (by simp) I ?_
     by_cases hlt:ys.getD j 0<ys.getD a 0
     ·rw[decide_eq_true hlt];exact dend hT qk 2 I (th (ifF I (ex (xt (xt (xb (jx j ⟨hj0,hJ,fun h=>hq qo,fun _=>hlt⟩ ⟨I,I,I,I,trivial⟩ I I)))))))
     ·rw[decide_eq_false hlt];exact dend hT qk 2 I (th (ifT I (sk (th (bk (rg (ar hT 1 I (v':=.int .i64 (j-1:Nat)) (by rw[show ((j:Nat):Int)-1=((j-1:Nat):Int) from by omega];exact i64w qo) (fin hT 1 I (bl (again (x:=j) (j-1) ⟨I,I,I,I,trivial⟩ I I ⟨by omega,hJ.down h1 (Nat.le_of_not_lt hlt)⟩ qo))))))))))
    ·exact dact hT qk 9 I<|WL.pures hT 1 I (dnex [pt g (kA kd pre ys post) (sf kd 23 3)] (by simp) (by simp) I<|dend hT qk 2 I (th<|ifF I (ex<|xt (xt<|xb (jx j ⟨hj0,hJ,fun h=>absurd h h1,fun h=>absurd h h1⟩ ⟨I,I,I,I,trivial⟩ I I)))))
   ·rintro j ⟨hj0,hJ,hqi,hqj⟩;have q1:=hJ.i1;have q2:=hJ.ij;have q3:=hJ.jb;refine sq (sq (rg (cmpS hT 2 I fun b65 h65=>fin hT 0 I (th (ifP h65 I (fun e6=>?_) (fun e6=>?_))))))
    ·obtain rfl:i=j+1:=by omega
     have hgi:(kA kd pre ys post)[pre.length+j]?=some (.int (kI kd) ((ys.getD j 0:Nat):Int)):=kA_get qo;have hgj:(kA kd pre ys post)[pre.length+a]?=some (.int (kI kd) ((ys.getD a 0:Nat):Int)):=kA_get qo;have hgj2:(kA kd pre (ys.set j (ys.getD a 0)) post)[pre.length+a]?=some (.int (kI kd) (((ys.set j (ys.getD a 0)).getD a 0:Nat):Int)):=kA_get (by rw[List.length_set];omega);refine sq (rga [pt g (kA kd pre ys post) (sf kd 23 3)] 13 [0,2,4,6,8,10,12,14,16,18,20,22,24,27,28,31] (by simp) qk qk (dixs hT qk 6 a I I qo ?_));simp only[add_mk,Nat.mul_one];refine dldpw hT qk 0 0 I qk I hgj (dixs hT qk 2 j I I qo ?_);simp only[add_mk,Nat.mul_one];refine dldpw hT qk 0 0 I qk I hgi (dixs hT qk 0 j I I qo ?_);simp only[add_mk,Nat.mul_one];refine dact hT qk 0 I (stp hT 0 0 I I hgi I (dnext (.inl qk) (dixs hT qk 0 a I I qo ?_)))
     simp only[add_mk,Nat.mul_one];refine dact hT qk 0 I (WL.hs (pt g (kA kd pre (ys.set j (ys.getD a 0)) post) (sf kd 23 3)::hs) (congrArg (fun z=>pt g z (sf kd 23 3)::hs) (kA_set qo)) (stp hT 0 0 I I hgj2 I (WL.hs (pt g (kA kd pre (swp j a ys) post) (sf kd 23 3)::hs) (congrArg (fun z=>pt g z (sf kd 23 3)::hs) (kA_set (by rw[List.length_set];omega))) (dnext (.inl qk) (dend hT qk 0 rfl (th (sq (rg (fin hT 3 rfl (th (rt ?_)))))))))));have hA:=hJ.last qo;exact ret2 I I I ⟨I,swp j a ys,j,true,I,I,hP0.trans (SegP.swp ⟨by omega,by omega⟩ ⟨by omega,by omega⟩ qo),⟨by omega,by omega,fun p p1 p2=>Nat.le_of_lt (hA.1 p p1 p2),hA.2⟩⟩
    ·have hij:i<j:=by
      rcases Nat.lt_or_ge i j with h|h
      ·exact h
      ·have h1:=hqi qo;have h2:=hqj qo;have:i=j:=by omega
       subst this;omega
     have hgi:(kA kd pre ys post)[pre.length+i]?=some (.int (kI kd) ((ys.getD i 0:Nat):Int)):=kA_get qo;have hgj:(kA kd pre ys post)[pre.length+j]?=some (.int (kI kd) ((ys.getD j 0:Nat):Int)):=kA_get qo;have hgj2:(kA kd pre (ys.set i (ys.getD j 0)) post)[pre.length+j]?=some (.int (kI kd) (((ys.set i (ys.getD j 0)).getD j 0:Nat):Int)):=kA_get (by rw[List.length_set];omega);refine sk (th (sq (rga [pt g (kA kd pre ys post) (sf kd 23 3)] 13 [0,2,4,6,8,10,12,14,16,18,20,22,24,27,28,31] (by simp) qk qk (dixs hT qk 6 j I I qo ?_))));simp only[add_mk,Nat.mul_one];refine dldpw hT qk 0 0 I qk I hgj (dixs hT qk 2 i I I qo ?_);simp only[add_mk,Nat.mul_one];refine dldpw hT qk 0 0 I qk I hgi (dixs hT qk 0 i I I qo ?_);simp only[add_mk,Nat.mul_one];refine dact hT qk 0 I (stp hT 0 0 I I hgi I (dnext (.inl qk) (dixs hT qk 0 j I I qo ?_)))
     simp only[add_mk,Nat.mul_one];refine dact hT qk 0 I (WL.hs (pt g (kA kd pre (ys.set i (ys.getD j 0)) post) (sf kd 23 3)::hs) (congrArg (fun z=>pt g z (sf kd 23 3)::hs) (kA_set qo)) (stp hT 0 0 I I hgj2 I (WL.hs (pt g (kA kd pre (swp i j ys) post) (sf kd 23 3)::hs) (congrArg (fun z=>pt g z (sf kd 23 3)::hs) (kA_set (by rw[List.length_set];omega))) (dnext (.inl qk) (dend hT qk 0 rfl (th (sq (rg (ar hT 1 rfl (i64w (x:=((i+1:Nat):Int)) qo) (fin hT 1 rfl (th (sq (rg (ar hT 1 rfl (v':=.int .i64 (j-1:Nat)) (by rw[show ((j:Nat):Int)-1=((j-1:Nat):Int) from by omega];exact i64w qo) ?_))))))))))))));have hJ2:=hJ.swap hij qo (hqj qo) (hqi qo);have hP2:SegP a b xs (swp i j ys):=hP0.trans (SegP.swp ⟨by omega,by omega⟩ ⟨by omega,by omega⟩ qo);refine fin hT 1 I (th (jn (σ:=Nat×List Nat) (fun s=>[(0,.slice (some ⟨g,pre.length,none⟩) xs.length cap),(1,.int .i64 (a:Nat)),(10,.int .i64 (s.1+1:Nat)),(11,.int .i64 s.1)]) (fun s=>pt g (kA kd pre s.2 post) (sf kd 23 3)::hs) (fun s=>SegP a b xs s.2/\PrtI (fun x y=>x<y) (fun x y=>y<=x) a b (s.1+1) s.1 s.2) ?_ ?_))
     ·refine bk ?_
      refine loop (σ:=Nat×Nat×List Nat) (fun s=>[(0,.slice (some ⟨g,pre.length,none⟩) xs.length cap),(1,.int .i64 (a:Nat)),(10,.int .i64 s.1),(11,.int .i64 s.2.1)]) (fun _=>K) (fun s=>pt g (kA kd pre s.2.2 post) (sf kd 23 3)::hs)
       (fun s=>SegP a b xs s.2.2/\PrtI (fun x y=>x<y) (fun x y=>y<=x) a b s.1 s.2.1 s.2.2) (fun s=>s.2.1+1-s.1) (i+1,j-1,swp i j ys) ⟨hP2,hJ2⟩ ⟨rfl,rfl,rfl,rfl,trivial⟩ rfl rfl ?_
      clear hJ2 hP2 hij hgj2 hgj hgi e6 hqj hqi q3 q2 q1 hJ hj0 hq hI hi0;clear h65 b65 j i hyl hP0 hswl ys;rintro ⟨i0,j0,ys⟩ ⟨hP,hI0⟩;dsimp only at *;have hyl:ys.length=xs.length:=hP.len;refine bk (jn (σ:=Nat) (fun i=>[(0,.slice (some ⟨g,pre.length,none⟩) xs.length cap),(1,.int .i64 (a:Nat)),(10,.int .i64 (i:Nat)),(11,.int .i64 (j0:Nat))]) (fun _=>pt g (kA kd pre ys post) (sf kd 23 3)::hs) (fun i=>i0<=i/\PrtI (fun x y=>x<y) (fun x y=>y<=x) a b i j0 ys/\(i<=j0->ys.getD a 0<=ys.getD i 0)) ?_ ?_)
      ·refine bk (loop (σ:=Nat) (fun i=>[(0,.slice (some ⟨g,pre.length,none⟩) xs.length cap),(1,.int .i64 (a:Nat)),(10,.int .i64 (i:Nat)),(11,.int .i64 (j0:Nat))]) (fun _=>K) (fun _=>pt g (kA kd pre ys post) (sf kd 23 3)::hs) (fun i=>i0<=i/\PrtI (fun x y=>x<y) (fun x y=>y<=x) a b i j0 ys) (fun i=>j0+1-i) i0 ⟨Nat.le_refl _,hI0⟩ ⟨I,I,I,I,trivial⟩ I I ?_);rintro i ⟨hi0,hI⟩;have q1:=hI.i1;have q2:=hI.ij;have q3:=hI.jb;refine sq (sq (rga [pt g (kA kd pre ys post) (sf kd 23 3)] 14 [0,2,4,6,8,10,12,14,16,18,20,22,25,26] (by simp) qk qk (dcmp hT qk 2 (i<=j0) I (by simp) (fun h1=>?_) (fun h1=>?_))))
       ·refine dixs hT qk 3 i I I qo ?_;simp only[add_mk,Nat.mul_one];refine dldp hT qk 0 0 I I (kA_get qo) (dixs hT qk 2 a I I qo ?_);simp only[add_mk,Nat.mul_one];refine dldp hT qk 0 0 I I (kA_get qo) (dact hT qk 0 I (cl hT 0 I (lessC kd (ys.getD i 0) (ys.getD a 0)) ?_));rintro v41 K41 hs41 ⟨rfl,rfl,rfl⟩;refine dnex [pt g (kA kd pre ys post) (sf kd 23 3)] (by simp) (by simp) I ?_
        by_cases hlt:ys.getD i 0<ys.getD a 0
        ·rw[decide_eq_true hlt];exact dend hT qk 1 I (th (ifT I (sk (th (bk (rg (ar hT 1 I (i64w (x:=((i+1:Nat):Int)) qo) (fin hT 1 I (bl (again (x:=i) (i+1) ⟨I,I,I,I,trivial⟩ I I ⟨by omega,hI.up h1 hlt⟩ qo))))))))))
        ·rw[decide_eq_false hlt];exact dend hT qk 1 I (th (ifF I (ex (xt (xt (xb (jx i ⟨hi0,hI,fun _=>Nat.le_of_not_lt hlt⟩ ⟨I,I,I,I,trivial⟩ I I)))))))
       ·exact dact hT qk 9 I<|WL.pures hT 1 I (dnex [pt g (kA kd pre ys post) (sf kd 23 3)] (by simp) (by simp) I<|dend hT qk 1 I (th<|ifF I (ex<|xt (xt<|xb (jx i ⟨hi0,hI,fun h=>absurd h h1⟩ ⟨I,I,I,I,trivial⟩ I I)))))
      ·rintro i ⟨hi0,hI,hq⟩;refine jn (σ:=Nat) (fun j=>[(0,.slice (some ⟨g,pre.length,none⟩) xs.length cap),(1,.int .i64 (a:Nat)),(10,.int .i64 (i:Nat)),(11,.int .i64 (j:Nat))]) (fun _=>pt g (kA kd pre ys post) (sf kd 23 3)::hs) (fun j=>j<=j0/\PrtI (fun x y=>x<y) (fun x y=>y<=x) a b i j ys/\(i<=j->ys.getD a 0<=ys.getD i 0)/\(i<=j->ys.getD j 0<ys.getD a 0)) ?_ ?_
       ·refine bk (loop (σ:=Nat) (fun j=>[(0,.slice (some ⟨g,pre.length,none⟩) xs.length cap),(1,.int .i64 (a:Nat)),(10,.int .i64 (i:Nat)),(11,.int .i64 (j:Nat))]) (fun _=>K) (fun _=>pt g (kA kd pre ys post) (sf kd 23 3)::hs) (fun j=>j<=j0/\PrtI (fun x y=>x<y) (fun x y=>y<=x) a b i j ys) (fun j=>j+1-i) (j0) ⟨Nat.le_refl _,hI⟩ ⟨I,I,I,I,trivial⟩ I I ?_);rintro j ⟨hj0,hJ⟩;have q1:=hJ.i1;have q2:=hJ.ij;have q3:=hJ.jb;refine sq (sq (rga [pt g (kA kd pre ys post) (sf kd 23 3)] 15 [0,2,4,6,8,10,12,14,16,18,20,22,25,26,28] (by simp) qk qk (dcmp hT qk 2 (i<=j) I (by simp) (fun h1=>?_) (fun h1=>?_))))
        ·refine dixs hT qk 3 j I I qo ?_;simp only[add_mk,Nat.mul_one];refine dldp hT qk 0 0 I I (kA_get qo) (dixs hT qk 2 a I I qo ?_);simp only[add_mk,Nat.mul_one];refine dldp hT qk 0 0 I I (kA_get qo) (dact hT qk 0 I (cl hT 0 I (lessC kd (ys.getD j 0) (ys.getD a 0)) ?_));rintro v58 K58 hs58 ⟨rfl,rfl,rfl⟩;refine dnex [pt g (kA kd pre ys post) (sf kd 23 3)] (by simp) (by simp) I ?_
         by_cases hlt:ys.getD j 0<ys.getD a 0
         ·rw[decide_eq_true hlt];exact dend hT qk 2 I (th (ifF I (ex (xt (xt (xb (jx j ⟨hj0,hJ,fun h=>hq qo,fun _=>hlt⟩ ⟨I,I,I,I,trivial⟩ I I)))))))
         ·rw[decide_eq_false hlt];exact dend hT qk 2 I (th (ifT I (sk (th (bk (rg (ar hT 1 I (v':=.int .i64 (j-1:Nat)) (by rw[show ((j:Nat):Int)-1=((j-1:Nat):Int) from by omega];exact i64w qo) (fin hT 1 I (bl (again (x:=j) (j-1) ⟨I,I,I,I,trivial⟩ I I ⟨by omega,hJ.down h1 (Nat.le_of_not_lt hlt)⟩ qo))))))))))
        ·exact dact hT qk 9 I<|WL.pures hT 1 I (dnex [pt g (kA kd pre ys post) (sf kd 23 3)] (by simp) (by simp) I<|dend hT qk 2 I (th<|ifF I (ex<|xt (xt<|xb (jx j ⟨hj0,hJ,fun h=>absurd h h1,fun h=>absurd h h1⟩ ⟨I,I,I,I,trivial⟩ I I)))))
       ·rintro j ⟨hj0,hJ,hqi,hqj⟩;have q1:=hJ.i1;have q2:=hJ.ij;have q3:=hJ.jb;refine sq (sq (rg (cmpS hT 2 I fun b134 h134=>fin hT 0 I (th (ifP h134 I (fun e6=>?_) (fun e6=>?_))))))
        ·obtain rfl:i=j+1:=by omega
         exact ex<|xt (xn I<|xt (xb<|jx (j,ys) ⟨hP,hJ⟩ ⟨I,I,I,I,trivial⟩ I I))
        ·have hij:i<j:=by
          rcases Nat.lt_or_ge i j with h|h
          ·exact h
          ·have h1:=hqi qo;have h2:=hqj qo;have:i=j:=by omega
           subst this;omega
         have hgi:(kA kd pre ys post)[pre.length+i]?=some (.int (kI kd) ((ys.getD i 0:Nat):Int)):=kA_get qo;have hgj:(kA kd pre ys post)[pre.length+j]?=some (.int (kI kd) ((ys.getD j 0:Nat):Int)):=kA_get qo;have hgj2:(kA kd pre (ys.set i (ys.getD j 0)) post)[pre.length+j]?=some (.int (kI kd) (((ys.set i (ys.getD j 0)).getD j 0:Nat):Int)):=kA_get (by rw[List.length_set];omega);refine sk (th (sq (rga [pt g (kA kd pre ys post) (sf kd 23 3)] 13 [0,2,4,6,8,10,12,14,16,18,20,22,24,27,28,31] (by simp) qk qk (dixs hT qk 6 j I I qo ?_))));simp only[add_mk,Nat.mul_one];refine dldpw hT qk 0 0 I qk I hgj (dixs hT qk 2 i I I qo ?_);simp only[add_mk,Nat.mul_one];refine dldpw hT qk 0 0 I qk I hgi (dixs hT qk 0 i I I qo ?_);simp only[add_mk,Nat.mul_one];refine dact hT qk 0 I (stp hT 0 0 I I hgi I (dnext (.inl qk) (dixs hT qk 0 j I I qo ?_)))
         simp only[add_mk,Nat.mul_one];exact dact hT qk 0 I (WL.hs (pt g (kA kd pre (ys.set i (ys.getD j 0)) post) (sf kd 23 3)::hs) (congrArg (fun z=>pt g z (sf kd 23 3)::hs) (kA_set qo)) (stp hT 0 0 I I hgj2 I (WL.hs (pt g (kA kd pre (swp i j ys) post) (sf kd 23 3)::hs) (congrArg (fun z=>pt g z (sf kd 23 3)::hs) (kA_set (by rw[List.length_set];omega))) (dnext (.inl qk) (dend hT qk 0 rfl (th (sq (rg (ar hT 1 rfl (i64w (x:=((i+1:Nat):Int)) qo) (fin hT 1 rfl (th (rg (ar hT 1 rfl (v':=.int .i64 (j-1:Nat)) (by rw[show ((j:Nat):Int)-1=((j-1:Nat):Int) from by omega];exact i64w qo) (fin hT 1 I (bl (again (x:=(i0,j0,ys)) (i+1,j-1,swp i j ys) ⟨I,I,I,I,trivial⟩ I I ⟨hP.trans (SegP.swp ⟨by omega,by omega⟩ ⟨by omega,by omega⟩ qo),hJ.swap hij qo (hqj qo) (hqi qo)⟩ (by dsimp only;omega)))))))))))))))))
     ·rintro ⟨j,ys⟩ ⟨hP,hJ⟩;dsimp only at *;have hyl:ys.length=xs.length:=hP.len;have q1:=hJ.i1;have q2:=hJ.ij;have q3:=hJ.jb;have hgi:(kA kd pre ys post)[pre.length+j]?=some (.int (kI kd) ((ys.getD j 0:Nat):Int)):=kA_get qo;have hgj:(kA kd pre ys post)[pre.length+a]?=some (.int (kI kd) ((ys.getD a 0:Nat):Int)):=kA_get qo;have hgj2:(kA kd pre (ys.set j (ys.getD a 0)) post)[pre.length+a]?=some (.int (kI kd) (((ys.set j (ys.getD a 0)).getD a 0:Nat):Int)):=kA_get (by rw[List.length_set];omega);refine sq (rga [pt g (kA kd pre ys post) (sf kd 23 3)] 13 [0,2,4,6,8,10,12,14,16,18,20,22,24,27,28,31] (by simp) qk qk (dixs hT qk 6 a I I qo ?_));simp only[add_mk,Nat.mul_one];refine dldpw hT qk 0 0 I qk I hgj (dixs hT qk 2 j I I qo ?_);simp only[add_mk,Nat.mul_one];refine dldpw hT qk 0 0 I qk I hgi (dixs hT qk 0 j I I qo ?_)
      simp only[add_mk,Nat.mul_one];refine dact hT qk 0 I (stp hT 0 0 I I hgi I (dnext (.inl qk) (dixs hT qk 0 a I I qo ?_)));simp only[add_mk,Nat.mul_one];refine dact hT qk 0 I (WL.hs (pt g (kA kd pre (ys.set j (ys.getD a 0)) post) (sf kd 23 3)::hs) (congrArg (fun z=>pt g z (sf kd 23 3)::hs) (kA_set qo)) (stp hT 0 0 I I hgj2 I (WL.hs (pt g (kA kd pre (swp j a ys) post) (sf kd 23 3)::hs) (congrArg (fun z=>pt g z (sf kd 23 3)::hs) (kA_set (by rw[List.length_set];omega))) (dnext (.inl qk) (dend hT qk 0 rfl (th (sq (rg (fin hT 3 rfl (th (rt ?_)))))))))));have hA:=hJ.last qo;exact ret2 I I I ⟨I,swp j a ys,j,false,I,I,hP.trans (SegP.swp ⟨by omega,by omega⟩ ⟨by omega,by omega⟩ qo),⟨by omega,by omega,fun p p1 p2=>Nat.le_of_lt (hA.1 p p1 p2),hA.2⟩⟩
end
section
attribute [local irreducible] Code.wp wpList Calls
theorem pisC(kd:Bool){w0:World}{K:PH}{hs:List PH}(g cap:Nat)(pre post:List Value)(xs:List Nat)(a b:Nat)(hab:a<b)(hb:b<=xs.length)(hc:xs.length<=cap)(hl:xs.length<=1099511627776)(hlo:LoB a b xs):
  Ct Tryz.prog w0 (sf kd 173 157) [.slice (some ⟨g,pre.length,none⟩) xs.length cap,.int .i64 (a:Nat),.int .i64 (b:Nat)] K (pt g (kA kd pre xs post) (sf kd 23 3)::hs)
   (fun v K' hs'=>K'=K/\∃ ys,∃ t:Bool,hs'=pt g (kA kd pre ys post) (sf kd 23 3)::hs/\v=.bool t/\SegP a b xs ys/\(t=true->Srt a b ys)):=by
 cases kd
 let kd:Bool:=false
 rewrite [show sf false=sf kd from rfl]
 try rewrite [show kA false=kA kd from rfl]
 refine enter Tryz.func157 qk I I I ?_
 rotate_left
 let kd:Bool:=true
 rewrite [show sf true=sf kd from rfl]
 try rewrite [show kA true=kA kd from rfl]
 refine enter Tryz.func173 qk I I I ?_
 rotate_left
 all_goals
  refine sq<|rg (fin hT 1 I<|th (sq<|rg (ar hT 1 I (i64w (x:=((a+1:Nat):Int)) qo)<|fin hT 1 I (th<|sq (sq<|rg (fin hT 1 I<|th (bk ?_)))))))
  refine loop (σ:=Nat×Nat×List Nat) (fun s=>[(0,.slice (some ⟨g,pre.length,none⟩) xs.length cap),(1,.int .i64 (a:Nat)),(2,.int .i64 (b:Nat)),(7,.int .i64 s.2.1),(8,.int .i64 s.1)]) (fun _=>K) (fun s=>pt g (kA kd pre s.2.2 post) (sf kd 23 3)::hs)
   (fun s=>s.1<=5/\a+1<=s.2.1/\s.2.1<=b/\SegP a b xs s.2.2/\Srt a s.2.1 s.2.2) (fun s=>5-s.1) (0,a+1,xs) ⟨by omega,Nat.le_refl _,by dsimp only;omega,SegP.refl _ _ _,Srt.zero _ _⟩ ⟨rfl,rfl,rfl,rfl,rfl,trivial⟩ rfl rfl ?_
  rintro ⟨k,i0,ys⟩ ⟨hk,hi0,hi0b,hP,hS0⟩;dsimp only at *;have hyl:ys.length=xs.length:=hP.len;refine sq (sq (rg (cmpS hT 1 I fun b14 h14=>fin hT 0 I (th (ifP h14 I (fun e2=>?_) (fun e2=>?_))))))
  ·refine sk<|th (sq<|bk (jn (σ:=Nat) (fun i=>[(0,.slice (some ⟨g,pre.length,none⟩) xs.length cap),(1,.int .i64 (a:Nat)),(2,.int .i64 (b:Nat)),(7,.int .i64 (i:Nat)),(8,.int .i64 (k:Nat))]) (fun _=>pt g (kA kd pre ys post) (sf kd 23 3)::hs) (fun i=>a+1<=i/\i<=b/\Srt a i ys) ?_ ?_))
   ·refine bk (loop (σ:=Nat) (fun i=>[(0,.slice (some ⟨g,pre.length,none⟩) xs.length cap),(1,.int .i64 (a:Nat)),(2,.int .i64 (b:Nat)),(7,.int .i64 (i:Nat)),(8,.int .i64 (k:Nat))]) (fun _=>K) (fun _=>pt g (kA kd pre ys post) (sf kd 23 3)::hs) (fun i=>a+1<=i/\i<=b/\Srt a i ys) (fun i=>b-i) i0 ⟨hi0,hi0b,hS0⟩ ⟨I,I,I,I,I,trivial⟩ I I ?_);rintro i ⟨hi1,hi2,hS⟩;refine sq (sq (rga [pt g (kA kd pre ys post) (sf kd 23 3)] 16 [0,2,4,6,8,10,12,14,16,18,20,22,24,27,28,30] (by simp) qk qk (dcmp hT qk 2 (i<b) I (by simp) (fun h3=>?_) (fun h3=>?_))))
    ·refine dixs hT qk 3 i I I qo ?_;simp only[add_mk,Nat.mul_one];refine dldp hT qk 0 0 I I (kA_get qo) (dar hT qk 2 I (v':=.int .i64 (i-1:Nat)) (by rw[show ((i:Nat):Int)-1=((i-1:Nat):Int) from by omega];exact i64w qo) (dixs hT qk 0 (i-1) I I qo ?_));simp only[add_mk,Nat.mul_one];refine dldp hT qk 0 0 I I (kA_get qo) (dact hT qk 0 I (cl hT 0 I (lessC kd (ys.getD i 0) (ys.getD (i-1) 0)) ?_));rintro v30 K30 hs30 ⟨rfl,rfl,rfl⟩;refine dnex [pt g (kA kd pre ys post) (sf kd 23 3)] (by simp) (by simp) I ?_
     by_cases hlt:ys.getD i 0<ys.getD (i-1) 0
     ·rw[decide_eq_true hlt];exact dend hT qk 2 I (th (ifF I (ex (xt (xt (xb (jx i ⟨hi1,hi2,hS⟩ ⟨I,I,I,I,I,trivial⟩ I I)))))))
     ·rw[decide_eq_false hlt];exact dend hT qk 2 I (th (ifT I (sk (th (bk (rg (ar hT 1 I (i64w (x:=((i+1:Nat):Int)) qo) (fin hT 1 I (bl (again (x:=i) (i+1) ⟨I,I,I,I,I,trivial⟩ I I ⟨by omega,by omega,hS.snoc qo (Nat.le_of_not_lt hlt)⟩ qo))))))))))
    ·exact dact hT qk 10 I<|WL.pures hT 1 I (dnex [pt g (kA kd pre ys post) (sf kd 23 3)] (by simp) (by simp) I<|dend hT qk 2 I (th<|ifF I (ex<|xt (xt<|xb (jx i ⟨hi1,hi2,hS⟩ ⟨I,I,I,I,I,trivial⟩ I I)))))
   ·rintro i ⟨hi1,hi2,hS⟩;refine sq (sq (rg (cmpS hT 2 I fun b37 h37=>fin hT 0 I (th (ifP h37 I (fun e6=>?_) (fun e6=>?_))))))
    ·obtain rfl:i=b:=by omega
     exact sq<|rg (fin hT 1 I<|th (rt<|rT (rB<|rT (rT<|rB (rT<|ret1 I I ⟨I,ys,true,I,I,hP,fun _=>hS⟩)))))
    ·refine sk<|th (sq<|sq (rg<|ar hT 2 I (i64w qo) (cmpS hT 0 I fun b41 h41=>fin hT 0 I<|th (ifP h41 I (fun e8=>?_) (fun e8=>?_)))))
     ·exact sq<|rg (fin hT 1 I<|th (rt<|rT (rB<|rT (rT<|rB (rT<|ret1 I I ⟨I,ys,false,I,I,hP,fun h=>by cases h⟩)))))
     ·have hib:i<b:=by omega
      have hgj:(kA kd pre ys post)[pre.length+i]?=some (.int (kI kd) ((ys.getD i 0:Nat):Int)):=kA_get qo;have hgj1:(kA kd pre ys post)[pre.length+(i-1)]?=some (.int (kI kd) ((ys.getD (i-1) 0:Nat):Int)):=kA_get qo;have hgj2:(kA kd pre (ys.set i (ys.getD (i-1) 0)) post)[pre.length+(i-1)]?=some (.int (kI kd) (((ys.set i (ys.getD (i-1) 0)).getD (i-1) 0:Nat):Int)):=kA_get (by rw[List.length_set];omega);refine sk (th (sq (rga [pt g (kA kd pre ys post) (sf kd 23 3)] 15 [0,2,4,6,8,10,12,14,16,18,20,22,24,26,28,31,32,35] (by simp) qk qk (dar hT qk 4 I (v':=.int .i64 (i-1:Nat)) (by rw[show ((i:Nat):Int)-1=((i-1:Nat):Int) from by omega];exact i64w qo) (dar hT qk 2 I (v':=.int .i64 (i-1:Nat)) (by rw[show ((i:Nat):Int)-1=((i-1:Nat):Int) from by omega];exact i64w qo) (dixs hT qk 0 (i-1) I I qo ?_))))))
      simp only[add_mk,Nat.mul_one];refine dldpw hT qk 0 0 I qk I hgj1 (dixs hT qk 2 i I I qo ?_);simp only[add_mk,Nat.mul_one];refine dldpw hT qk 0 0 I qk I hgj (dixs hT qk 0 i I I qo ?_);simp only[add_mk,Nat.mul_one];refine dact hT qk 0 I (stp hT 0 0 I I hgj I (dnext (.inl qk) (dixs hT qk 0 (i-1) I I qo ?_)));simp only[add_mk,Nat.mul_one];refine dact hT qk 0 I (WL.hs (pt g (kA kd pre (ys.set i (ys.getD (i-1) 0)) post) (sf kd 23 3)::hs) (congrArg (fun z=>pt g z (sf kd 23 3)::hs) (kA_set qo)) (stp hT 0 0 I I hgj2 I (WL.hs (pt g (kA kd pre (swp i (i-1) ys) post) (sf kd 23 3)::hs) (congrArg (fun z=>pt g z (sf kd 23 3)::hs) (kA_set (by rw[List.length_set];omega))) (dnext (.inl qk) ?_))));have hP1:SegP a b xs (swp i (i-1) ys):=hP.trans (SegP.swp ⟨by omega,by omega⟩ ⟨by omega,by omega⟩ qo)
      have hS1:Srt a (i-1) (swp i (i-1) ys):=Srt.same (xs:=ys) (fun p q p1 p2 p3=>hS p q p1 p2 qo) fun p p1 p2=>by rw[swp_getD qo qo,if_neg qo,if_neg qo]
      refine dend hT qk 0 I<|th (jn (σ:=List Nat) (fun _=>[(0,.slice (some ⟨g,pre.length,none⟩) xs.length cap),(1,.int .i64 (a:Nat)),(2,.int .i64 (b:Nat)),(7,.int .i64 (i:Nat)),(8,.int .i64 (k:Nat))]) (fun zs=>pt g (kA kd pre zs post) (sf kd 23 3)::hs) (fun zs=>SegP a b xs zs/\Srt a i zs) ?_ ?_)
      ·refine sq<|rg (ar hT 2 I (i64w qo) (cmpS hT 0 I fun b61 h61=>fin hT 0 I<|th (ifP h61 I (fun e10=>?_) (fun e10=>?_))))
       ·refine sq (rg (ar hT 1 I (v':=.int .i64 (i-1:Nat)) (by rw[show ((i:Nat):Int)-1=((i-1:Nat):Int) from by omega];exact i64w qo) (fin hT 1 I (th (bk ?_)))))
        refine loop (σ:=Nat×List Nat) (fun s=>[(0,.slice (some ⟨g,pre.length,none⟩) xs.length cap),(1,.int .i64 (a:Nat)),(2,.int .i64 (b:Nat)),(7,.int .i64 (i:Nat)),(8,.int .i64 (k:Nat)),(9,.int .i64 s.1)]) (fun _=>K) (fun s=>pt g (kA kd pre s.2 post) (sf kd 23 3)::hs)
         (fun s=>a<=s.1/\s.1<=i-1/\SegP a b xs s.2/\InvI a (i-1) s.1 s.2) (fun s=>s.1) (i-1,swp i (i-1) ys) ⟨by dsimp only;omega,Nat.le_refl _,hP1,InvI.start hS1⟩ ⟨rfl,rfl,rfl,rfl,rfl,rfl,trivial⟩ rfl rfl ?_
        rintro ⟨j,zs⟩ ⟨hj1,hj2,hQ,hV⟩;dsimp only at *;have hzl:zs.length=xs.length:=hQ.len;have hlz:=hlo.perm hQ hb;refine sq (sq (rg (cmpS hT 1 I fun b65 h65=>fin hT 0 I (th (ifP h65 I (fun e12=>?_) (fun e12=>?_))))))
        ·refine sk (th (sq (bk (sq (sq (rga [pt g (kA kd pre zs post) (sf kd 23 3)] 11 [0,2,4,6,8,10,12,14,16,19,20] (by simp) qk qk (dixs hT qk 2 j I I qo ?_)))))));simp only[add_mk,Nat.mul_one];refine dldp hT qk 0 0 I I (kA_get qo) (dar hT qk 2 I (v':=.int .i64 (j-1:Nat)) (by rw[show ((j:Nat):Int)-1=((j-1:Nat):Int) from by omega];exact i64w qo) (dixs hT qk 0 (j-1) I I qo ?_));simp only[add_mk,Nat.mul_one];refine dldp hT qk 0 0 I I (kA_get qo) (dact hT qk 0 I (cl hT 0 I (lessC kd (zs.getD j 0) (zs.getD (j-1) 0)) ?_));rintro v30 K30 hs30 ⟨rfl,rfl,rfl⟩;refine dnex [pt g (kA kd pre zs post) (sf kd 23 3)] (by simp) (by simp) I ?_
         by_cases hlt:zs.getD j 0<zs.getD (j-1) 0
         ·have hja:a<j:=by
           rcases Nat.lt_or_ge a j with h|h
           ·exact h
           ·obtain rfl:j=a:=by omega
            have:=hlz (j-1) j qo (Nat.le_refl _) qo;omega
          rw[decide_eq_true hlt];refine dend hT qk 1 I (th (ifF I ?_));have hgj:(kA kd pre zs post)[pre.length+j]?=some (.int (kI kd) ((zs.getD j 0:Nat):Int)):=kA_get qo;have hgj1:(kA kd pre zs post)[pre.length+(j-1)]?=some (.int (kI kd) ((zs.getD (j-1) 0:Nat):Int)):=kA_get qo;have hgj2:(kA kd pre (zs.set j (zs.getD (j-1) 0)) post)[pre.length+(j-1)]?=some (.int (kI kd) (((zs.set j (zs.getD (j-1) 0)).getD (j-1) 0:Nat):Int)):=kA_get (by rw[List.length_set];omega);refine sk (th (rga [pt g (kA kd pre zs post) (sf kd 23 3)] 15 [0,2,4,6,8,10,12,14,16,18,20,22,24,26,28,31,32,35] (by simp) qk qk (dar hT qk 4 I (v':=.int .i64 (j-1:Nat)) (by rw[show ((j:Nat):Int)-1=((j-1:Nat):Int) from by omega];exact i64w qo) (dar hT qk 2 I (v':=.int .i64 (j-1:Nat)) (by rw[show ((j:Nat):Int)-1=((j-1:Nat):Int) from by omega];exact i64w qo) (dixs hT qk 0 (j-1) I I qo ?_)))))
          simp only[add_mk,Nat.mul_one];refine dldpw hT qk 0 0 I qk I hgj1 (dixs hT qk 2 j I I qo ?_);simp only[add_mk,Nat.mul_one];refine dldpw hT qk 0 0 I qk I hgj (dixs hT qk 0 j I I qo ?_);simp only[add_mk,Nat.mul_one];refine dact hT qk 0 I (stp hT 0 0 I I hgj I (dnext (.inl qk) (dixs hT qk 0 (j-1) I I qo ?_)));simp only[add_mk,Nat.mul_one];exact dact hT qk 0 I (WL.hs (pt g (kA kd pre (zs.set j (zs.getD (j-1) 0)) post) (sf kd 23 3)::hs) (congrArg (fun z=>pt g z (sf kd 23 3)::hs) (kA_set qo)) (stp hT 0 0 I I hgj2 I (WL.hs (pt g (kA kd pre (swp j (j-1) zs) post) (sf kd 23 3)::hs) (congrArg (fun z=>pt g z (sf kd 23 3)::hs) (kA_set (by rw[List.length_set];omega))) (dnext (.inl qk) (dend hT qk 0 rfl (bl (th (rg (ar hT 1 rfl (v':=.int .i64 (j-1:Nat)) (by rw[show ((j:Nat):Int)-1=((j-1:Nat):Int) from by omega];exact i64w qo) (fin hT 1 I (again (x:=(j,zs)) (j-1,swp j (j-1) zs) ⟨I,I,I,I,I,I,trivial⟩ I I ⟨by dsimp only;omega,by dsimp only;omega,hQ.trans (SegP.swp ⟨by omega,by omega⟩ ⟨by omega,by omega⟩ qo),hV.swap hja hj2 qo hlt⟩ (by dsimp only;omega))))))))))))
         ·have hdone:Srt a i zs:=by
           rw[show i=i-1+1 from by omega];rcases Nat.lt_or_ge a j with h|h
           ·exact hV.stop h qo
           ·obtain rfl:j=a:=by omega
            exact hV.done
          rw[decide_eq_false hlt];exact dend hT qk 1 I (th (ifT I (ex (xt (xn I (xt (xt (xb (jx zs ⟨hQ,hdone⟩ ⟨I,I,I,I,I,trivial⟩ I I)))))))))
        ·have hdone:Srt a i zs:=by
          rw[show i=i-1+1 from by omega];obtain rfl:j=a:=by omega
          exact hV.done
         exact ex<|xt (xt<|xb (jx zs ⟨hQ,hdone⟩ ⟨I,I,I,I,I,trivial⟩ I I))
       ·exact sk<|jx _ ⟨hP1,Srt.one qo⟩ ⟨I,I,I,I,I,trivial⟩ I I
      ·rintro zs ⟨hQ,hSz⟩;have hzl0:zs.length=xs.length:=hQ.len;clear hS1 hP1 hgj2 hgj1 hgj hS hS0 hP hyl;refine sq (rg (ar hT 2 I (i64w qo) (cmpS hT 0 I fun b98 h98=>fin hT 0 I (th (ifP h98 I (fun e15=>?_) (fun e15=>?_))))))
       ·refine sq<|rg (ar hT 1 I (i64w (x:=((i+1:Nat):Int)) qo)<|fin hT 1 I (th<|bk ?_))
        refine loop (σ:=Nat×List Nat) (fun s=>[(0,.slice (some ⟨g,pre.length,none⟩) xs.length cap),(1,.int .i64 (a:Nat)),(2,.int .i64 (b:Nat)),(7,.int .i64 (i:Nat)),(8,.int .i64 (k:Nat)),(10,.int .i64 s.1)]) (fun _=>K) (fun s=>pt g (kA kd pre s.2 post) (sf kd 23 3)::hs)
         (fun s=>i+1<=s.1/\s.1<=b/\SegP a b xs s.2/\Srt a i s.2) (fun s=>b-s.1) (i+1,zs) ⟨Nat.le_refl _,by dsimp only;omega,hQ,hSz⟩ ⟨rfl,rfl,rfl,rfl,rfl,rfl,trivial⟩ rfl rfl ?_
        clear hQ hSz hzl0;rintro ⟨j,us⟩ ⟨hj1,hj2,hQ,hSz⟩;dsimp only at *;have hul:us.length=xs.length:=hQ.len;refine sq (sq (rg (cmpS hT 2 I fun b103 h103=>fin hT 0 I (th (ifP h103 I (fun e17=>?_) (fun e17=>?_))))))
        ·refine sk (th (sq (bk (sq (sq (rga [pt g (kA kd pre us post) (sf kd 23 3)] 11 [0,2,4,6,8,10,12,14,16,19,20] (by simp) qk qk (dixs hT qk 2 j I I qo ?_)))))));simp only[add_mk,Nat.mul_one];refine dldp hT qk 0 0 I I (kA_get qo) (dar hT qk 2 I (v':=.int .i64 (j-1:Nat)) (by rw[show ((j:Nat):Int)-1=((j-1:Nat):Int) from by omega];exact i64w qo) (dixs hT qk 0 (j-1) I I qo ?_));simp only[add_mk,Nat.mul_one];refine dldp hT qk 0 0 I I (kA_get qo) (dact hT qk 0 I (cl hT 0 I (lessC kd (us.getD j 0) (us.getD (j-1) 0)) ?_));rintro v30 K30 hs30 ⟨rfl,rfl,rfl⟩;refine dnex [pt g (kA kd pre us post) (sf kd 23 3)] (by simp) (by simp) I ?_
         by_cases hlt:us.getD j 0<us.getD (j-1) 0
         ·rw[decide_eq_true hlt];refine dend hT qk 1 I (th (ifF I ?_));have hgj:(kA kd pre us post)[pre.length+j]?=some (.int (kI kd) ((us.getD j 0:Nat):Int)):=kA_get qo;have hgj1:(kA kd pre us post)[pre.length+(j-1)]?=some (.int (kI kd) ((us.getD (j-1) 0:Nat):Int)):=kA_get qo;have hgj2:(kA kd pre (us.set j (us.getD (j-1) 0)) post)[pre.length+(j-1)]?=some (.int (kI kd) (((us.set j (us.getD (j-1) 0)).getD (j-1) 0:Nat):Int)):=kA_get (by rw[List.length_set];omega);refine sk (th (rga [pt g (kA kd pre us post) (sf kd 23 3)] 15 [0,2,4,6,8,10,12,14,16,18,20,22,24,26,28,31,32,35] (by simp) qk qk (dar hT qk 4 I (v':=.int .i64 (j-1:Nat)) (by rw[show ((j:Nat):Int)-1=((j-1:Nat):Int) from by omega];exact i64w qo) (dar hT qk 2 I (v':=.int .i64 (j-1:Nat)) (by rw[show ((j:Nat):Int)-1=((j-1:Nat):Int) from by omega];exact i64w qo) (dixs hT qk 0 (j-1) I I qo ?_)))))
          simp only[add_mk,Nat.mul_one];refine dldpw hT qk 0 0 I qk I hgj1 (dixs hT qk 2 j I I qo ?_);simp only[add_mk,Nat.mul_one];refine dldpw hT qk 0 0 I qk I hgj (dixs hT qk 0 j I I qo ?_);simp only[add_mk,Nat.mul_one];refine dact hT qk 0 I (stp hT 0 0 I I hgj I (dnext (.inl qk) (dixs hT qk 0 (j-1) I I qo ?_)));simp only[add_mk,Nat.mul_one];exact dact hT qk 0 I (WL.hs (pt g (kA kd pre (us.set j (us.getD (j-1) 0)) post) (sf kd 23 3)::hs) (congrArg (fun z=>pt g z (sf kd 23 3)::hs) (kA_set qo)) (stp hT 0 0 I I hgj2 I (WL.hs (pt g (kA kd pre (swp j (j-1) us) post) (sf kd 23 3)::hs) (congrArg (fun z=>pt g z (sf kd 23 3)::hs) (kA_set (by rw[List.length_set];omega))) (dnext (.inl qk) (dend hT qk 0 rfl (bl (th (rg (ar hT 1 rfl (i64w (x:=((j+1:Nat):Int)) qo) (fin hT 1 rfl (again (x:=(j,us)) (j+1,swp j (j-1) us) ⟨rfl,rfl,rfl,rfl,rfl,rfl,trivial⟩ rfl rfl ⟨by dsimp only;omega,by dsimp only;omega,hQ.trans (SegP.swp ⟨by omega,by omega⟩ ⟨by omega,by omega⟩ qo),hSz.same fun p p1 p2=>by rw[swp_getD qo qo,if_neg qo,if_neg qo]⟩ (by dsimp only;omega))))))))))))
         ·rw[decide_eq_false hlt];exact dend hT qk 1 I (th (ifT I (ex (xt (xn I (xt (xt (xb (bl (th (rg (ar hT 1 I (i64w (x:=((k+1:Nat):Int)) qo) (fin hT 1 I (again (x:=(k,i0,ys)) (k+1,i,us) ⟨I,I,I,I,I,trivial⟩ I I ⟨by dsimp only;omega,hi1,hi2,hQ,hSz⟩ (by dsimp only;omega)))))))))))))))
        ·exact ex (xt (xt (xb (bl (th (rg (ar hT 1 I (i64w (x:=((k+1:Nat):Int)) qo) (fin hT 1 I (again (x:=(k,i0,ys)) (k+1,i,us) ⟨I,I,I,I,I,trivial⟩ I I ⟨by dsimp only;omega,hi1,hi2,hQ,hSz⟩ (by dsimp only;omega))))))))))
       ·exact sk (bl (th (rg (ar hT 1 I (i64w (x:=((k+1:Nat):Int)) qo) (fin hT 1 I (again (x:=(k,i0,ys)) (k+1,i,zs) ⟨I,I,I,I,I,trivial⟩ I I ⟨by dsimp only;omega,hi1,hi2,hQ,hSz⟩ (by dsimp only;omega)))))))
  ·exact ex<|xt (xt<|xb (th<|sq (rg<|fin hT 1 I (th<|rt (ret1 I I ⟨I,ys,false,I,I,hP,fun h=>by cases h⟩)))))
end
section
theorem u64shr(m:Nat)(b:Int)(k:Nat)(hb:b=((k:Nat):Int))(hk:k<=64):Value.int .u64 (((m:Nat):Int).fdiv (2 ^ (min b.toNat IntKind.u64.bits)))=.int .u64 (m / 2 ^ k:Nat):=by
 have e:min b.toNat IntKind.u64.bits=k:=by
  have:IntKind.u64.bits=64:=rfl;omega
 rw[e];have h2:((2:Int) ^ k)=((2 ^ k:Nat):Int):=by push_cast;rfl
 rw[h2,Int.fdiv_eq_ediv_of_nonneg _ (Int.natCast_nonneg _)]
 rfl
theorem u64any(x:Int):∃ m:Nat,m<18446744073709551616/\Value.int .u64 (IntKind.u64.wrap x)=.int .u64 (m:Nat):=by
 have e:IntKind.u64.wrap x=x % 18446744073709551616:=by simp[IntKind.wrap,IntKind.bits,IntKind.signed]
 refine ⟨(x % 18446744073709551616).toNat,by omega,?_⟩;rw[e,Int.toNat_of_nonneg qo]
theorem u64andM(m n:Nat)(hm:m<18446744073709551616)(hn:n<=63):
  Value.int .u64 (IntKind.u64.wrap (BitVec.ofInt 64 ((m:Nat):Int) &&& BitVec.ofInt 64 ((2 ^ n-1:Nat):Int)).toNat)=.int .u64 (m % 2 ^ n:Nat):=by
 have hp:2 ^ n<18446744073709551616:=Nat.lt_of_le_of_lt (Nat.pow_le_pow_right (by decide) hn) (by decide);have h1:m % 2 ^ n<=m:=Nat.mod_le _ _;rw[BitVec.toNat_and,BitVec.ofInt_natCast,BitVec.ofInt_natCast,BitVec.toNat_ofNat,BitVec.toNat_ofNat,Nat.mod_eq_of_lt (a:=m) qo,Nat.mod_eq_of_lt (a:=2 ^ n-1) qo,Nat.and_two_pow_sub_one_eq_mod,u64m,Nat.mod_eq_of_lt qo]
def L8:List UInt8:=(List.range 256).map fun b=>if b=0 then 0 else UInt8.ofNat (Nat.log2 b+1)
theorem L8_get(b:Nat)(h:b<256):∃ c:UInt8,L8[b]?=some c/\c.toNat<=8/\b<2 ^ c.toNat/\(0<b->2 ^ c.toNat<=2*b):=by
 have hd:∀ b:Fin 256,((L8[b.1]?).map fun c=>decide (c.toNat<=8/\b.1<2 ^ c.toNat/\(0<b.1->2 ^ c.toNat<=2*b.1)))=some true:=by decide +kernel
 have:=hd ⟨b,h⟩;cases hc:L8[b]? with
 | none=>rw[hc] at this;cases this
 | some c=>
  rw[hc] at this;simp only[Option.map_some,Option.some.injEq] at this;exact ⟨c,I,of_decide_eq_true this⟩
def LenI(x n y:Nat):Prop:=y*2 ^ n<=x/\x<(y+1)*2 ^ n/\(0<x->0<y)
theorem LenI.start(x:Nat):LenI x 0 x:=⟨by simp,by simp,id⟩
theorem LenI.up{x n y k:Nat}(h:LenI x n y)(hy:2 ^ k<=y):LenI x (n+k) (y / 2 ^ k):=by
 have hp:0<2 ^ k:=Nat.pow_pos (by decide);obtain ⟨h1,h2,h3⟩:=h;have e:2 ^ (n+k)=2 ^ k*2 ^ n:=by rw[Nat.pow_add,Nat.mul_comm]
 refine ⟨?_,?_,fun _=>Nat.div_pos hy hp⟩
 ·rw[e,<-Nat.mul_assoc];exact Nat.le_trans (Nat.mul_le_mul_right _ (Nat.div_mul_le_self y _)) h1
 ·rw[e,<-Nat.mul_assoc];refine Nat.lt_of_lt_of_le h2 (Nat.mul_le_mul_right _ ?_);have:=Nat.lt_div_mul_add (a:=y) hp;rw[Nat.add_mul,Nat.one_mul];omega
theorem LenI.done{x n y c:Nat}(h:LenI x n y)(h1:y<2 ^ c)(h2:0<y->2 ^ c<=2*y):x<2 ^ (n+c)/\(0<x->2 ^ (n+c)<=2*x):=by
 obtain ⟨g1,g2,g3⟩:=h;have e:2 ^ (n+c)=2 ^ c*2 ^ n:=by rw[Nat.pow_add,Nat.mul_comm]
 refine ⟨?_,fun hx=>?_⟩
 ·rw[e];exact Nat.lt_of_lt_of_le g2 (Nat.mul_le_mul_right _ h1)
 ·rw[e];refine Nat.le_trans (Nat.mul_le_mul_right _ (h2 (g3 hx))) ?_;rw[Nat.mul_assoc];exact Nat.mul_le_mul_left _ g1
attribute [local irreducible] Code.wp wpList Calls
theorem len64C{w0:World}{K:PH}{hs:List PH}(x:Nat)(hx:x<18446744073709551616):Ct Tryz.prog w0 162 [.int .u64 (x:Nat)] K hs
  (fun v K' hs'=>K'=K/\hs'=hs/\∃ n:Nat,v=.int .i64 (n:Nat)/\n<=64/\x<2 ^ n/\(0<x->2 ^ n<=2*x)):=by
 refine enter Tryz.func162 qk I I I<|sq (rg<|fin hT 1 I (th<|jn (σ:=Nat×Nat) (fun s=>[(0,.int .u64 s.1),(2,.int .i64 s.2)]) (fun _=>hs) (fun s=>LenI x s.2 s.1/\s.1<4294967296/\s.2<=32) ?_ ?_))
 ·refine sq<|rg (cmpS hT 1 I fun b4 h4=>fin hT 0 I<|th (ifP h4 I (fun e2=>?_) (fun e2=>?_)))
  ·exact sq (rg (ar hT 1 I (u64shr x _ 32 I qo) (fin hT 1 I (th (rg (fin hT 1 I (jx (x / 2 ^ 32,32) ⟨by simpa using (LenI.start x).up (k:=32) qo,by dsimp only;omega,Nat.le_refl _⟩ ⟨rfl,rfl,trivial⟩ rfl rfl)))))))
  ·exact sk (jx (x,0) ⟨LenI.start x,by dsimp only;omega,by dsimp only;omega⟩ ⟨rfl,rfl,trivial⟩ rfl rfl)
 ·rintro ⟨y,n⟩ ⟨hL,hy,hn⟩;dsimp only at *;refine jn (σ:=Nat×Nat) (fun s=>[(0,.int .u64 s.1),(2,.int .i64 s.2)]) (fun _=>hs) (fun s=>LenI x s.2 s.1/\s.1<65536/\s.2<=48) ?_ ?_
  ·refine sq<|rg (cmpS hT 1 I fun b8 h8=>fin hT 0 I<|th (ifP h8 I (fun e4=>?_) (fun e4=>?_)))
   ·exact sq (rg (ar hT 1 I (u64shr y _ 16 I qo) (fin hT 1 I (th (rg (ar hT 1 I (i64w (x:=((n+16:Nat):Int)) qo) (fin hT 1 I (jx (y / 2 ^ 16,n+16) ⟨hL.up qo,by dsimp only;omega,by dsimp only;omega⟩ ⟨rfl,rfl,trivial⟩ rfl rfl))))))))
   ·exact sk (jx (y,n) ⟨hL,by dsimp only;omega,by dsimp only;omega⟩ ⟨rfl,rfl,trivial⟩ rfl rfl)
  ·clear hL hy hn;rintro ⟨y,n⟩ ⟨hL,hy,hn⟩;dsimp only at *;refine jn (σ:=Nat×Nat) (fun s=>[(0,.int .u64 s.1),(2,.int .i64 s.2)]) (fun _=>hs) (fun s=>LenI x s.2 s.1/\s.1<256/\s.2<=56) ?_ ?_
   ·refine sq<|rg (cmpS hT 1 I fun b14 h14=>fin hT 0 I<|th (ifP h14 I (fun e6=>?_) (fun e6=>?_)))
    ·exact sq (rg (ar hT 1 I (u64shr y _ 8 I qo) (fin hT 1 I (th (rg (ar hT 1 I (i64w (x:=((n+8:Nat):Int)) qo) (fin hT 1 I (jx (y / 2 ^ 8,n+8) ⟨hL.up qo,by dsimp only;omega,by dsimp only;omega⟩ ⟨rfl,rfl,trivial⟩ rfl rfl))))))))
    ·exact sk (jx (y,n) ⟨hL,by dsimp only;omega,by dsimp only;omega⟩ ⟨rfl,rfl,trivial⟩ rfl rfl)
   ·clear hL hy hn;rintro ⟨y,n⟩ ⟨hL,hy,hn⟩;dsimp only at *;obtain ⟨c,hc,hc8,hc1,hc2⟩:=L8_get y hy;exact sq (rg (ar hT 2 I (u8w qo) (six hT 0 L8 y I qk I hc (ar hT 0 I (i64w qo) (ar hT 0 I (i64w (x:=((n+c.toNat:Nat):Int)) qo) (fin hT 1 I (th (rt (ret1 I I ⟨I,I,n+c.toNat,I,by omega,hL.done hc1 hc2⟩)))))))))
theorem lenC{w0:World}{K:PH}{hs:List PH}(x:Nat)(hx:x<18446744073709551616):Ct Tryz.prog w0 136 [.int .u64 (x:Nat)] K hs
  (fun v K' hs'=>K'=K/\hs'=hs/\∃ n:Nat,v=.int .i64 (n:Nat)/\n<=64/\x<2 ^ n/\(0<x->2 ^ n<=2*x)):=by
 refine enter Tryz.func136 qk I I I (sq (rg (fin hT 1 I (th (sq (ifF I (sk (th (sq (rg (cl hT 1 I (len64C x hx) ?_)))))))))));rintro v7 K7 hs7 ⟨rfl,rfl,n,rfl,h1,h2,h3⟩;exact fin hT 1 I (th (rt (ret1 I I ⟨I,I,n,I,h1,h2,h3⟩)))
theorem npC{w0:World}{K:PH}{hs:List PH}(x:Nat)(hx:0<x/\x<=1099511627776):Ct Tryz.prog w0 178 [.int .i64 (x:Nat)] K hs
  (fun v K' hs'=>K'=K/\hs'=hs/\∃ n:Nat,v=.int .u64 (2 ^ n:Nat)/\n<=41/\2 ^ n<=2*x):=by
 refine enter Tryz.func178 qk I I I (sq (rg (fin hT 1 I (th (sq (rg (ar hT 1 I (u64w qo) (cl hT 0 I (lenC x qo) ?_))))))));rintro v5 K5 hs5 ⟨rfl,rfl,n,rfl,h1,h2,h3⟩;have h4:=h3 hx.1
 have h5:n<=41:=by
  rcases Nat.lt_or_ge 41 n with h|h
  ·have:2 ^ 42<=2 ^ n:=Nat.pow_le_pow_right (by decide) h;omega
  ·exact h
 refine shf hT 0 I qo (.inl ⟨I,(show Value.int .u64 (IntKind.u64.wrap ((1:Int)*2 ^ (min ((n:Nat):Int).toNat IntKind.u64.bits)))=.int .u64 (2 ^ n:Nat) from by
  have e:min ((n:Nat):Int).toNat IntKind.u64.bits=n:=by
   have:IntKind.u64.bits=64:=rfl;omega
  rw[e,Int.one_mul,show ((2:Int) ^ n)=((2 ^ n:Nat):Int) from by push_cast;rfl];exact u64w qo)⟩) ?_
 exact fin hT 1 I<|th (rt<|ret1 I I ⟨I,I,n,I,h5,h4⟩)
theorem xorC{w0:World}{K:PH}{hs:List PH}(r:Nat)(x:Int):Ct Tryz.prog w0 179 [.pointer (some ⟨r,0,none⟩)] K (pt r #[.int .u64 x] 241::hs)
  (fun v K' hs'=>K'=K/\∃ m:Nat,m<18446744073709551616/\hs'=pt r #[.int .u64 (m:Nat)] 241::hs/\v=.int .u64 (m:Nat)):=by
 refine enter Tryz.func179 qk I I I (sq (rg (fin hT 1 I (th (sq (rga [pt r #[.int .u64 x] 241] 9 [0,2,4,6,8,10,12,14,16,19] (by simp) qk qk (dldpw hT qk 2 0 I qk I I (dldpw hT qk 2 0 I qk I I (dar hT qk 0 I I (dar hT qk 0 I I (dact hT qk 1 I (stp hT 0 0 I I I I (dnext (.inl qk) ?_)))))))))))));obtain ⟨x1,hx1⟩:∃ x1,x1=(IntKind.u64.wrap (BitVec.ofInt 64 x ^^^ BitVec.ofInt 64 (IntKind.u64.wrap (x*2 ^ (min (13:Int).toNat IntKind.u64.bits)))).toNat:Int):=⟨_,rfl⟩;refine dend hT qk 0 I (th (sq (WC.perm (hs':=pt r #[.int .u64 x1] 241::hs) (by rw[hx1];exact List.Perm.refl _) (rga [pt r #[.int .u64 x1] 241] 9 [0,2,4,6,8,10,12,14,16,19] (by simp) qk qk (dldpw hT qk 2 0 I qk I I (dldpw hT qk 2 0 I qk I I (dar hT qk 0 I I (dar hT qk 0 I I (dact hT qk 1 I (stp hT 0 0 I I I I (dnext (.inl qk) ?_)))))))))))
 obtain ⟨x2,hx2⟩:∃ x2,x2=(IntKind.u64.wrap (BitVec.ofInt 64 x1 ^^^ BitVec.ofInt 64 (x1.fdiv (2 ^ (min (7:Int).toNat IntKind.u64.bits)))).toNat:Int):=⟨_,rfl⟩;refine dend hT qk 0 I (th (sq (WC.perm (hs':=pt r #[.int .u64 x2] 241::hs) (by rw[hx2];exact List.Perm.refl _) (rga [pt r #[.int .u64 x2] 241] 9 [0,2,4,6,8,10,12,14,16,19] (by simp) qk qk (dldpw hT qk 2 0 I qk I I (dldpw hT qk 2 0 I qk I I (dar hT qk 0 I I ?_)))))));obtain ⟨m,hm,he⟩:=u64any (BitVec.ofInt 64 x2 ^^^ BitVec.ofInt 64 (IntKind.u64.wrap (x2*2 ^ (min (17:Int).toNat IntKind.u64.bits)))).toNat;exact dar hT qk 0 I he (dact hT qk 1 I (stp hT 0 0 I I I I (dnext (.inl qk) (dend hT qk 0 I (th (sq (rg (ldp hT 2 0 I I I (fin hT 1 I (th (rt (ret1 I I ⟨I,m,hm,I,I⟩))))))))))))
end
section
attribute [local irreducible] Code.wp wpList Calls
theorem brkC(kd:Bool){w0:World}{K:PH}{hs:List PH}(g cap:Nat)(pre post:List Value)(xs:List Nat)(a b:Nat)(hab:a+8<=b)(hb:b<=xs.length)(hc:xs.length<=cap)(hl:xs.length<=1099511627776):
  Ct Tryz.prog w0 (sf kd 170 154) [.slice (some ⟨g,pre.length,none⟩) xs.length cap,.int .i64 (a:Nat),.int .i64 (b:Nat)] K (pt g (kA kd pre xs post) (sf kd 23 3)::hs)
   (fun v K' hs'=>K'=K/\∃ ys,hs'=pt g (kA kd pre ys post) (sf kd 23 3)::hs/\SegP a b xs ys):=by
 cases kd
 let kd:Bool:=false
 rewrite [show sf false=sf kd from rfl]
 try rewrite [show kA false=kA kd from rfl]
 rotate_left
 let kd:Bool:=true
 rewrite [show sf true=sf kd from rfl]
 try rewrite [show kA true=kA kd from rfl]
 rotate_left
 all_goals
  obtain ⟨n,hn⟩:∃ n,n=b-a:=⟨_,rfl⟩
 refine enter Tryz.func154 qk I I I ?_
 rotate_left
 refine enter Tryz.func170 qk I I I ?_
 rotate_left
 all_goals
  refine sq (rg (ar hT 2 I (v':=.int .i64 (n:Nat)) (by rw[show ((b:Nat):Int)-((a:Nat):Int)=((n:Nat):Int) from by omega];exact i64w qo) (fin hT 1 I (th (sq (rg (cmpS hT 1 I fun b15 h15=>fin hT 0 I (th (ifPT h15 qo I (sq (rg (ar hT 1 I (u64w qo) (al hT 0 (.int .u64 0) I qk fun r=>stp hT 0 0 I I I I (fin hT 0 I (th (sq (rg (cl hT 1 I (npC n qo) ?_))))))))))))))))));rintro v19 K19 hs19 ⟨rfl,rfl,w,rfl,hw,hw2⟩;have hq1:n / 4*2+1<n:=by omega
  have hq2:2<=n / 4:=by omega
  refine fin hT 1 I (th (sq (rg (ar hT 2 I (quoN n 4 qo) (ar hT 0 I (i64w (x:=((n / 4*2:Nat):Int)) qo) (ar hT 0 I (i64w (x:=((a+n / 4*2:Nat):Int)) qo) (ar hT 0 I (v':=.int .i64 (a+n / 4*2-1:Nat)) (by rw[show ((a+n / 4*2:Nat):Int)-1=((a+n / 4*2-1:Nat):Int) from by omega];exact i64w qo) (fin hT 1 I (th (bk ?_))))))))))
  refine loop (σ:=Nat×Nat×List Nat) (fun s=>[(0,.slice (some ⟨g,pre.length,none⟩) xs.length cap),(1,.int .i64 (a:Nat)),(6,.int .i64 (n:Nat)),(7,.pointer (some ⟨r,0,none⟩)),(8,.int .u64 (2 ^ w:Nat)),(9,.int .i64 s.1)]) (fun _=>K19) (fun s=>pt r #[.int .u64 s.2.1] 241::pt g (kA kd pre s.2.2 post) (sf kd 23 3)::hs)
   (fun s=>a<=s.1/\s.1<=a+n / 4*2+2/\SegP a b xs s.2.2) (fun s=>b-s.1) (a+n / 4*2-1,n,xs) ⟨by dsimp only;omega,by dsimp only;omega,SegP.refl _ _ _⟩ ⟨rfl,rfl,rfl,rfl,rfl,rfl,trivial⟩ rfl rfl ?_
  rintro ⟨i,m0,ys⟩ ⟨hi1,hi2,hP⟩;dsimp only at *;have hyl:ys.length=xs.length:=hP.len;refine sq (sq (rg (ar hT 3 I (quoN n 4 qo) (ar hT 0 I (i64w (x:=((n / 4*2:Nat):Int)) qo) (ar hT 0 I (i64w (x:=((a+n / 4*2:Nat):Int)) qo) (ar hT 0 I (i64w (x:=((a+n / 4*2+1:Nat):Int)) qo) (cmpS hT 0 I fun b33 h33=>fin hT 0 I (th (ifP h33 I (fun e4=>?_) (fun e4=>?_))))))))))
  ·refine sk (th (sq (bk (sq (rg (cl hT 0 I (xorC r ((m0:Nat):Int)) ?_))))));rintro v36 K36 hs36 ⟨rfl,m,hm,rfl,rfl⟩;have hwp:0<2 ^ w:=Nat.pow_pos (by decide);refine ar hT 1 I (v':=.int .u64 (2 ^ w-1:Nat)) (by rw[show ((2 ^ w:Nat):Int)-1=((2 ^ w-1:Nat):Int) from by omega];exact u64w qo) (ar hT 0 I (u64andM m w hm qo) ?_);have hmm:m % 2 ^ w<2 ^ w:=Nat.mod_lt _ hwp;obtain ⟨o,ho⟩:∃ o,o=m % 2 ^ w:=⟨_,rfl⟩;rw[<-ho] at hmm ⊢;refine ar hT 0 I (i64w (x:=((o:Nat):Int)) qo) (fin hT 1 I (th (jn (σ:=Nat) (fun o=>[(0,.slice (some ⟨g,pre.length,none⟩) xs.length cap),(1,.int .i64 (a:Nat)),(6,.int .i64 (n:Nat)),(7,.pointer (some ⟨r,0,none⟩)),(8,.int .u64 (2 ^ w:Nat)),(9,.int .i64 (i:Nat)),(10,.int .i64 (o:Nat))]) (fun _=>pt r #[.int .u64 (m:Nat)] 241::pt g (kA kd pre ys post) (sf kd 23 3)::hs) (fun o=>o<n) ?_ ?_)))
   ·refine sq<|rg (cmpS hT 2 I fun b43 h43=>fin hT 0 I<|th (ifP h43 I (fun e6=>?_) (fun e6=>?_)))
    ·exact rg (ar hT 2 I (v':=.int .i64 (o-n:Nat)) (by rw[show ((o:Nat):Int)-((n:Nat):Int)=((o-n:Nat):Int) from by omega];exact i64w qo) (fin hT 1 I (jx (o-n) qo ⟨I,I,I,I,I,I,I,trivial⟩ I I)))
    ·exact sk<|jx o qo ⟨I,I,I,I,I,I,I,trivial⟩ I I
   ·clear ho hmm o;intro o ho;have hgi:(kA kd pre ys post)[pre.length+i]?=some (.int (kI kd) ((ys.getD i 0:Nat):Int)):=kA_get qo;have hgo:(kA kd pre ys post)[pre.length+(a+o)]?=some (.int (kI kd) ((ys.getD (a+o) 0:Nat):Int)):=kA_get qo;have hgo2:(kA kd pre (ys.set i (ys.getD (a+o) 0)) post)[pre.length+(a+o)]?=some (.int (kI kd) (((ys.set i (ys.getD (a+o) 0)).getD (a+o) 0:Nat):Int)):=kA_get (by rw[List.length_set];omega);refine rga [pt g (kA kd pre ys post) (sf kd 23 3)] 17 [0,2,4,6,8,10,12,14,16,18,20,22,24,26,28,30,32,35,36,39] (by simp) qk qk (dar hT qk 5 I (i64w (x:=((a+o:Nat):Int)) qo) (dar hT qk 3 I (i64w (x:=((a+o:Nat):Int)) qo) (dixs hT qk 0 (a+o) I I qo ?_)));simp only[add_mk,Nat.mul_one];refine dldpw hT qk 0 0 I qk I hgo (dixs hT qk 2 i I I qo ?_)
    simp only[add_mk,Nat.mul_one];refine dldpw hT qk 0 0 I qk I hgi (dixs hT qk 0 i I I qo ?_);simp only[add_mk,Nat.mul_one];refine dact hT qk 0 I (stp hT 0 1 I I hgi I (dnext (.inl qk) (dixs hT qk 0 (a+o) I I qo ?_)));simp only[add_mk,Nat.mul_one];exact dact hT qk 0 I (WL.hs (pt r #[.int .u64 (m:Nat)] 241::pt g (kA kd pre (ys.set i (ys.getD (a+o) 0)) post) (sf kd 23 3)::hs) (congrArg (fun z=>pt r #[.int .u64 (m:Nat)] 241::pt g z (sf kd 23 3)::hs) (kA_set qo)) (stp hT 0 1 I I hgo2 I (WL.hs (pt r #[.int .u64 (m:Nat)] 241::pt g (kA kd pre (swp i (a+o) ys) post) (sf kd 23 3)::hs) (congrArg (fun z=>pt r #[.int .u64 (m:Nat)] 241::pt g z (sf kd 23 3)::hs) (kA_set (by rw[List.length_set];omega))) (dnext (.inl qk) (dend hT qk 0 rfl (bl (th (rg (ar hT 1 rfl (i64w (x:=((i+1:Nat):Int)) qo) (fin hT 1 rfl (again (x:=(i,m0,ys)) (i+1,m,swp i (a+o) ys) ⟨rfl,rfl,rfl,rfl,rfl,rfl,trivial⟩ rfl rfl ⟨by dsimp only;omega,by dsimp only;omega,hP.trans (SegP.swp ⟨by omega,by omega⟩ ⟨by omega,by omega⟩ qo)⟩ (by dsimp only;omega))))))))))))
  ·exact ex<|xt (xt<|xb (WQ.drop<|end0 I ⟨I,ys,I,hP⟩))
end
section
attribute [local irreducible] Code.wp wpList Calls
theorem pdqC(kd:Bool)(n:Nat):∀ {w0:World} {K:PH} {hs:List PH} (g cap:Nat) (pre post:List Value) (xs:List Nat) (a b lim:Nat) (hab:a<=b) (hb:b<=xs.length) (hc:xs.length<=cap) (hl:xs.length<=1099511627776) (hlim:lim<=64) (hlo:LoB a b xs) (hn:b-a<=n),
  Ct Tryz.prog w0 (sf kd 151 135) [.slice (some ⟨g,pre.length,none⟩) xs.length cap,.int .i64 (a:Nat),.int .i64 (b:Nat),.int .i64 (lim:Nat)] K (pt g (kA kd pre xs post) (sf kd 23 3)::hs)
   (fun v K' hs'=>K'=K/\∃ ys,hs'=pt g (kA kd pre ys post) (sf kd 23 3)::hs/\SegP a b xs ys/\Srt a b ys):=by
 cases kd
 let kd:Bool:=false
 rewrite [show sf false=sf kd from rfl]
 try rewrite [show kA false=kA kd from rfl]
 rotate_left
 let kd:Bool:=true
 rewrite [show sf true=sf kd from rfl]
 try rewrite [show kA true=kA kd from rfl]
 rotate_left
 all_goals
  induction n using Nat.strongRecOn
  rename_i n ih;intro w0 K hs g cap pre post xs a b lim hab hb hc hl hlim hlo hn
 refine enter Tryz.func135 qk I I I ?_
 rotate_left
 refine enter Tryz.func151 qk I I I ?_
 rotate_left
 all_goals
  refine sq<|rg (fin hT 1 I<|th (sq<|rg (fin hT 1 I<|th (bk ?_))))
  refine loop (σ:=(Nat×Nat×Nat)×(Bool×Bool)×List Nat) (fun s=>[(0,.slice (some ⟨g,pre.length,none⟩) xs.length cap),(1,.int .i64 s.1.1),(2,.int .i64 s.1.2.1),(3,.int .i64 s.1.2.2),(8,.bool s.2.1.1),(9,.bool s.2.1.2)]) (fun _=>K) (fun s=>pt g (kA kd pre s.2.2 post) (sf kd 23 3)::hs)
   (fun s=>s.1.2.2<=64/\a<=s.1.1/\s.1.2.1<=b/\s.1.1<=s.1.2.1/\SegP a b xs s.2.2/\Rst a b s.1.1 s.1.2.1 s.2.2/\LoB s.1.1 s.1.2.1 s.2.2) (fun s=>s.1.2.1-s.1.1) ((a,b,lim),(true,true),xs) ⟨hlim,Nat.le_refl _,Nat.le_refl _,hab,SegP.refl _ _ _,Rst.self _ _ _,hlo⟩ ⟨rfl,rfl,rfl,rfl,rfl,rfl,trivial⟩ rfl rfl ?_
  rintro ⟨⟨c,d,lm⟩,⟨wb,wp⟩,ys⟩ ⟨hlm,hac,hdb,hcd,hP,hR,hL⟩;dsimp only at *;have hyl:ys.length=xs.length:=hP.len;obtain ⟨n1,hn1⟩:∃ n1,n1=d-c:=⟨_,rfl⟩;refine bk (sq (rg (ar hT 2 I (v':=.int .i64 (n1:Nat)) (by rw[show ((d:Nat):Int)-((c:Nat):Int)=((n1:Nat):Int) from by omega];exact i64w qo) (fin hT 1 I (th (sq (sq (rg (cmpS hT 1 I fun b23 h23=>fin hT 0 I (th (ifP h23 I (fun e2=>?_) (fun e2=>?_))))))))))))
  ·refine sq (rg ?_);have hs1:=insC kd (w0:=w0) (K:=K) (hs:=hs) g cap pre post ys c d hcd qo qo qo;rw[hyl] at hs1;refine cl hT 3 I hs1 ?_;rintro v27 K27 hs27 ⟨rfl,zs,rfl,hQ,hS⟩;exact fin hT 0 I (th (rt (rT (rB (rT (rB (ret0 I ⟨I,zs,I,hP.trans (hQ.wide hac hdb),hR zs hQ hS⟩)))))))
  ·refine sk<|th (sq<|sq (rg (cmpS hT 1 I fun b29 h29=>fin hT 0 I<|th (ifP h29 I (fun e4=>?_) (fun e4=>?_)))))
   ·refine sq (rg ?_);have hs1:=heapC kd (w0:=w0) (K:=K) (hs:=hs) g cap pre post ys c d qo qo qo qo;rw[hyl] at hs1;refine cl hT 3 I hs1 ?_;rintro v33 K33 hs33 ⟨rfl,zs,rfl,hQ,hS⟩;exact fin hT 0 I (th (rt (rT (rB (rT (rB (ret0 I ⟨I,zs,I,hP.trans (hQ.wide hac hdb),hR zs hQ hS⟩)))))))
   ·refine sk<|th (jn (σ:=Nat×List Nat) (fun s=>[(0,.slice (some ⟨g,pre.length,none⟩) xs.length cap),(1,.int .i64 (c:Nat)),(2,.int .i64 (d:Nat)),(3,.int .i64 s.1),(8,.bool wb),(9,.bool wp),(10,.int .i64 (n1:Nat))]) (fun s=>pt g (kA kd pre s.2 post) (sf kd 23 3)::hs) (fun s=>s.1<=64/\a<=c/\d<=b/\c<=d/\SegP a b xs s.2/\Rst a b c d s.2/\LoB c d s.2) ?_ ?_)
    ·refine sq (rg ?_);cases wb with
     | false=>
      refine fin hT 2 I (th (ifT I (sq (rg ?_))));have hs1:=brkC kd (w0:=w0) (K:=K) (hs:=hs) g cap pre post ys c d qo qo qo qo;rw[hyl] at hs1;refine cl hT 3 I hs1 ?_;rintro v39 K39 hs39 ⟨rfl,zs,rfl,hQ⟩;exact fin hT 0 I (th (rg (ar hT 1 I (v':=.int .i64 (lm-1:Nat)) (by rw[show ((lm:Nat):Int)-1=((lm-1:Nat):Int) from by omega];exact i64w qo) (fin hT 1 I (jx (lm-1,zs) ⟨by dsimp only;omega,hac,hdb,hcd,hP.trans (hQ.wide hac hdb),hR.step hQ,hL.perm hQ qo⟩ ⟨rfl,rfl,rfl,rfl,rfl,rfl,rfl,trivial⟩ rfl rfl)))))
     | true=>
      exact fin hT 2 I<|th (ifF I<|sk (jx (lm,ys) ⟨hlm,hac,hdb,hcd,hP,hR,hL⟩ ⟨I,I,I,I,I,I,I,trivial⟩ I I))
    ·clear hP hR hL hyl;clear ys hlm e4 h29 b29;clear lm;rintro ⟨lm,ys⟩ ⟨hlm,-,-,-,hP,hR,hL⟩;dsimp only at *;have hyl:ys.length=xs.length:=hP.len;refine sq (rg ?_);have hs1:=pivC kd (w0:=w0) (K:=K) (hs:=hs) g cap pre post ys c d qo qo qo qo;rw[hyl] at hs1;refine cl hT 3 I hs1 ?_;rintro v46 K46 hs46 ⟨rfl,rfl,pv,h,rfl,hpv,hh⟩;refine fin hT 5 I (th (jn (σ:=(Nat×Nat)×List Nat) (fun s=>[(0,.slice (some ⟨g,pre.length,none⟩) xs.length cap),(1,.int .i64 (c:Nat)),(2,.int .i64 (d:Nat)),(3,.int .i64 (lm:Nat)),(8,.bool wb),(9,.bool wp),(10,.int .i64 (n1:Nat)),(11,.int .i64 s.1.1),(12,.int .i64 s.1.2)]) (fun s=>pt g (kA kd pre s.2 post) (sf kd 23 3)::hs) (fun s=>(c<=s.1.1/\s.1.1<d)/\a<=c/\d<=b/\c<=d/\SegP a b xs s.2/\Rst a b c d s.2/\LoB c d s.2) ?_ ?_))
     ·refine sq<|rg (cmpS hT 1 I fun b50 h50=>fin hT 0 I<|th (ifP h50 I (fun e7=>?_) (fun e7=>?_)))
      ·refine sq (rg ?_);have hs1:=revRC kd (w0:=w0) (K:=K46) (hs:=hs) g cap pre post ys c d qo qo qo qo;rw[hyl] at hs1;refine cl hT 3 I hs1 ?_;rintro v54 K54 hs54 ⟨rfl,zs,rfl,hQ⟩;exact fin hT 0 I (th (sq (rg (ar hT 1 I (i64w qo) (ar hT 2 I (i64w qo) (ar hT 0 I (v':=.int .i64 ((d-1-(pv-c):Nat):Int)) (by rw[show ((d:Nat):Int)-1-(((pv:Nat):Int)-((c:Nat):Int))=((d-1-(pv-c):Nat):Int) from by omega];exact i64w qo) (fin hT 1 I (th (rg (fin hT 1 I (jx ((d-1-(pv-c),1),zs) ⟨by dsimp only;omega,hac,hdb,hcd,hP.trans (hQ.wide hac hdb),hR.step hQ,hL.perm hQ qo⟩ ⟨rfl,rfl,rfl,rfl,rfl,rfl,rfl,rfl,rfl,trivial⟩ rfl rfl)))))))))))
      ·exact sk<|jx ((pv,h),ys) ⟨hpv,hac,hdb,hcd,hP,hR,hL⟩ ⟨I,I,I,I,I,I,I,I,I,trivial⟩ I I
     ·clear hs1 hP hR hL hyl hpv hh;clear ys;clear pv h;rintro ⟨⟨pv,h⟩,ys⟩ ⟨hpv,-,-,-,hP,hR,hL⟩;dsimp only at *;have hyl:ys.length=xs.length:=hP.len;refine jn (σ:=List Nat) (fun s=>[(0,.slice (some ⟨g,pre.length,none⟩) xs.length cap),(1,.int .i64 (c:Nat)),(2,.int .i64 (d:Nat)),(3,.int .i64 (lm:Nat)),(8,.bool wb),(9,.bool wp),(10,.int .i64 (n1:Nat)),(11,.int .i64 (pv:Nat))]) (fun s=>pt g (kA kd pre s post) (sf kd 23 3)::hs) (fun s=>a<=c/\d<=b/\c<=d/\SegP a b xs s/\Rst a b c d s/\LoB c d s) ?_ ?_
      ·refine sq (rg ?_);cases wb with
       | false=>
        exact fin hT 8 I<|th (ifF I<|sk (jx ys ⟨hac,hdb,hcd,hP,hR,hL⟩ ⟨I,I,I,I,I,I,I,I,trivial⟩ I I))
       | true=>
       cases wp with
       | false=>
        exact fin hT 8 I<|th (ifF I<|sk (jx ys ⟨hac,hdb,hcd,hP,hR,hL⟩ ⟨I,I,I,I,I,I,I,I,trivial⟩ I I))
       | true=>
        refine cmpS hT 6 I fun b67 h67=>fin hT 1 I<|th (ifP h67 I (fun h9=>?_) (fun h9=>?_))
        ·refine sq (rg ?_);have hs1:=pisC kd (w0:=w0) (K:=K46) (hs:=hs) g cap pre post ys c d qo qo qo qo hL;rw[hyl] at hs1;refine cl hT 3 I hs1 ?_;rintro v72 K72 hs72 ⟨rfl,zs,t,rfl,rfl,hQ,hS⟩;refine fin hT 0 I (th (ifB I (fun e10=>?_) (fun e10=>?_)))
         ·exact rt<|jr (rB<|rT (rB<|ret0 I ⟨I,zs,I,hP.trans (hQ.wide hac hdb),hR zs hQ (hS e10)⟩))
         ·exact sk<|jx zs ⟨hac,hdb,hcd,hP.trans (hQ.wide hac hdb),hR.step hQ,hL.perm hQ qo⟩ ⟨I,I,I,I,I,I,I,I,trivial⟩ I I
        ·exact sk<|jx ys ⟨hac,hdb,hcd,hP,hR,hL⟩ ⟨I,I,I,I,I,I,I,I,trivial⟩ I I
      ·clear hP hR hL hyl;clear ys;rintro ys ⟨-,-,-,hP,hR,hL⟩;have hyl:ys.length=xs.length:=hP.len;refine jn (σ:=Unit) (fun _=>[(0,.slice (some ⟨g,pre.length,none⟩) xs.length cap),(1,.int .i64 (c:Nat)),(2,.int .i64 (d:Nat)),(3,.int .i64 (lm:Nat)),(8,.bool wb),(9,.bool wp),(10,.int .i64 (n1:Nat)),(11,.int .i64 (pv:Nat))]) (fun _=>pt g (kA kd pre ys post) (sf kd 23 3)::hs) (fun _=>True) ?_ ?_
       ·refine sq<|rga [pt g (kA kd pre ys post) (sf kd 23 3)] 15 [0,2,4,6,8,10,12,14,16,18,20,22,25,26,28] (by simp) qk qk (dcmp hT qk 1 (0<c) I (by simp) (fun h11=>?_) (fun h11=>?_))
        ·refine dar hT qk 3 I (v':=.int .i64 (c-1:Nat)) (by rw[show ((c:Nat):Int)-1=((c-1:Nat):Int) from by omega];exact i64w qo) (dixs hT qk 0 (c-1) I I qo ?_);simp only[add_mk,Nat.mul_one];refine dldp hT qk 0 0 I I (kA_get qo) (dixs hT qk 2 pv I I qo ?_);simp only[add_mk,Nat.mul_one];refine dldp hT qk 0 0 I I (kA_get qo) (dact hT qk 0 I (cl hT 0 I (lessC kd (ys.getD (c-1) 0) (ys.getD pv 0)) ?_));rintro v85 K85 hs85 ⟨rfl,rfl,rfl⟩;refine dnex [pt g (kA kd pre ys post) (sf kd 23 3)] (by simp) (by simp) I ?_
         by_cases hlt:ys.getD (c-1) 0<ys.getD pv 0
         ·rw[decide_eq_true hlt];exact dend hT qk 2 I (th (ifF I (sk (jx () trivial ⟨I,I,I,I,I,I,I,I,trivial⟩ I I))))
         ·rw[decide_eq_false hlt];refine dend hT qk 2 I (th (ifT I (sq (rg ?_))));have hs1:=parEC kd (w0:=w0) (K:=K85) (hs:=hs) g cap pre post ys c d pv qo hpv qo qo qo;rw[hyl] at hs1;refine cl hT 4 I hs1 ?_;rintro v92 K92 hs92 ⟨rfl,zs,i,rfl,rfl,hQ,hi1,hi2,hz1,hz2,hz3⟩;have hzl:zs.length=ys.length:=hQ.len;obtain ⟨hR2,hL2⟩:=(hR.step hQ).equal h11 hi1 hi2 qo (hL.perm hQ qo) (by rw[hQ.outD (i:=c-1) (.inl qo),hz3];exact Nat.le_of_not_lt hlt) hz1 hz2;exact fin hT 1 I (th (sq (rg (fin hT 2 I (th (ex (je (xb (again (x:=((c,d,lm),(wb,wp),zs)) ((i,d,lm),(wb,wp),zs) ⟨I,I,I,I,I,I,trivial⟩ I I ⟨hlm,by dsimp only;omega,hdb,hi2,hP.trans (hQ.wide hac hdb),hR2,hL2⟩ (by dsimp only;omega))))))))))
        ·exact dact hT qk 10 I<|WL.pures hT 1 I (dnex [pt g (kA kd pre ys post) (sf kd 23 3)] (by simp) (by simp) I<|dend hT qk 2 I (th<|ifF I (sk<|jx () trivial ⟨I,I,I,I,I,I,I,I,trivial⟩ I I)))
       ·rintro - -;refine sq (rg ?_);have hs1:=parC kd (w0:=w0) (K:=K46) (hs:=hs) g cap pre post ys c d pv qo hpv qo qo qo;rw[hyl] at hs1;refine cl hT 4 I hs1 ?_;rintro v99 K99 hs99 ⟨rfl,zs,m,t,rfl,rfl,hQ,hA⟩;have hm1:=hA.m1;have hm2:=hA.m2;have hzl:zs.length=xs.length:=hQ.len.trans hyl;have hLz:=hL.perm hQ qo;have hPz:=hP.trans (hQ.wide hac hdb);refine fin hT 5 I (th (sq (rg (fin hT 2 I (th (sq (rg (ar hT 2 I (v':=.int .i64 (m-c:Nat)) (by rw[show ((m:Nat):Int)-((c:Nat):Int)=((m-c:Nat):Int) from by omega];exact i64w qo) (ar hT 2 I (v':=.int .i64 (d-m:Nat)) (by rw[show ((d:Nat):Int)-((m:Nat):Int)=((d-m:Nat):Int) from by omega];exact i64w qo) (fin hT 2 I (th (sq (rg (ar hT 1 I (quoN n1 8 qo) (fin hT 1 I (th (sq (rg (cmpS hT 2 I fun b113 h113=>fin hT 0 I (th (ifP h113 I (fun e14=>?_) (fun e14=>?_))))))))))))))))))))))
        ·refine sq (rg (cmpS hT 2 I fun b116 h116=>fin hT 1 I (th (sq (rg ?_)))));have hs1:=ih (n-1) qo (w0:=w0) (K:=K99) (hs:=hs) g cap pre post zs c m lm hm1 qo qo qo hlm (hLz.cut qo) qo;rw[hzl] at hs1;refine cl hT 4 I hs1 ?_;rintro v121 K121 hs121 ⟨rfl,us,rfl,hU,hS⟩;have hul:us.length=xs.length:=hU.len.trans hzl;exact fin hT 0 I (th (rg (ar hT 1 I (i64w (x:=((m+1:Nat):Int)) qo) (fin hT 1 I (bl (again (x:=((c,d,lm),(wb,wp),zs)) ((m+1,d,lm),(b116,t),us) ⟨I,I,I,I,I,I,trivial⟩ I I ⟨hlm,by dsimp only;omega,hdb,hm2,hPz.trans (hU.wide hac qo),(hR.step hQ).left hA qo hU hS,(hA.left hU qo).loB (hLz.perm (hU.wide (Nat.le_refl _) qo) qo)⟩ (by dsimp only;omega)))))))
        ·refine sq (rg (cmpS hT 2 I fun b126 h126=>fin hT 1 I (th (sq (rg (ar hT 2 I (i64w (x:=((m+1:Nat):Int)) qo) ?_))))));have hs1:=ih (n-1) qo (w0:=w0) (K:=K99) (hs:=hs) g cap pre post zs (m+1) d lm hm2 qo qo qo hlm (hA.loB hLz) qo;rw[hzl] at hs1;refine cl hT 2 I hs1 ?_;rintro v132 K132 hs132 ⟨rfl,us,rfl,hU,hS⟩;have hul:us.length=xs.length:=hU.len.trans hzl;exact fin hT 0 I (th (rg (fin hT 2 I (bl (again (x:=((c,d,lm),(wb,wp),zs)) ((c,m,lm),(b126,t),us) ⟨I,I,I,I,I,I,trivial⟩ I I ⟨hlm,hac,by dsimp only;omega,hm1,hPz.trans (hU.wide qo hdb),(hR.step hQ).right hA qo hU hS,(hLz.perm (hU.wide qo (Nat.le_refl _)) qo).cut (by dsimp only;omega)⟩ (by dsimp only;omega))))))
end
section
attribute [local irreducible] Code.wp wpList Calls
def todoL(l:List Int)(ks:List Int):Nat:=(l.filter fun x=>decide (x∉ks)).length
theorem todoL_lt{ks:List Int}{k:Int}(hk:k∉ks):∀ {l:List Int},k∈l->todoL l (ks++[k])<todoL l ks:=by
 have hle:∀ l:List Int,todoL l (ks++[k])<=todoL l ks:=fun l=>by
  unfold todoL;rw[<-List.countP_eq_length_filter,<-List.countP_eq_length_filter];exact List.countP_mono_left fun x _ hx=>by simp at hx ⊢;exact hx.1
 intro l
 induction l with
 | nil=>intro h;simp at h
 | cons x l ih=>
  intro h
  by_cases e:x=k
  ·subst e;have:=hle l;unfold todoL at this ⊢;rw[List.filter_cons_of_neg (by simp),List.filter_cons_of_pos (by simp[hk])];simp only[List.length_cons];omega
  ·have:=ih (by rcases List.mem_cons.1 h with h|h;exact absurd h.symm e;exact h);unfold todoL at this ⊢
   by_cases hx:x∈ks
   ·rw[List.filter_cons_of_neg (by simp[hx]),List.filter_cons_of_neg (by simp[hx])];exact this
   ·rw[List.filter_cons_of_pos (by simp[hx,e]),List.filter_cons_of_pos (by simp[hx])];simp only[List.length_cons];omega
abbrev KsOf{ν:Type}(m:List (Int×ν)):={l:List Int // l.Nodup/\∀ k∈l,k∈m.map (·.1)}
def KsOf.add{ν:Type}{m:List (Int×ν)}(s:KsOf m)(k:Int)(h1:k∈m.map (·.1))(h2:k∉s.1):KsOf m:=⟨s.1++[k],by
 refine List.nodup_append.2 ⟨s.2.1,by simp,?_⟩;intro a ha b hb;simp only[List.mem_singleton] at hb;subst hb;intro e;subst e;exact h2 ha,fun j hj=>by
 rcases List.mem_append.1 hj with hj|hj
 ·exact s.2.2 j hj
 ·simp only[List.mem_singleton] at hj;rw[hj];exact h1⟩
theorem KsOf.len{ν:Type}{m:List (Int×ν)}(s:KsOf m):s.1.length<=m.length:=by
 have h:=s.2.1.length_le_of_subset (l₂:=m.map (·.1)) (fun k hk=>s.2.2 k hk);simpa using h
def stepN{ν:Type}(enc:Int->Value)(m:List (Int×ν))(s:KsOf m)(vs:List Value)(s':KsOf m):Prop:=∃ k h1 h2,vs=[enc k]/\s'=s.add k h1 h2
def KsOf.nil{ν:Type}(m:List (Int×ν)):KsOf m:=⟨[],by simp,by simp⟩
def overN{ν:Type}(m:List (Int×ν))(s:KsOf m):Prop:=∀ k∈m.map (·.1),k∈s.1
def KeyRd(hm:PH)(b1 bo:Nat)(K:PH)(hs:List PH):Prop:=(∃ h,In K hs h/\Cell h ⟨b1,0,none⟩ (.map (some bo)))/\In K hs hm
theorem KsOf.perm{ν:Type}{m:List (Int×ν)}(hnd:(m.map (·.1)).Nodup)(s:KsOf m)(h:overN m s):s.1.Perm (m.map (·.1)):=
 (List.perm_ext_iff_of_nodup s.2.1 hnd).2 fun k=>⟨s.2.2 k,h k⟩
def ivu(ks:List Int):List Value:=ks.map fun k=>Value.int .u64 k
def ivk(kd:Bool)(ks:List Int):List Value:=ks.map fun k=>Value.int (kI kd) k
theorem keyUT(kd:Bool):Tryz.prog.underlying (sf kd 106 113)=some (.map (sf kd 23 3) (sf kd 113 120)):=by
 cases kd
 ·exact Tryz.underlying113
 ·exact Tryz.underlying106
theorem keysC(kd:Bool){w0:World}{K:PH}{hs:List PH}(bo:Nat):Ct Tryz.prog w0 (sf kd 89 54) [.map (some bo)] K hs
  (fun v K' hs'=>K'=K/\∃ b,hs'=pt b #[.map (some bo)] (sf kd 106 113)::hs/\v=.func (.func (sf kd 133 92)) #[] #[.pointer (some ⟨b,0,none⟩)]):=by
 cases kd
 let kd:Bool:=false
 rewrite [show sf false=sf kd from rfl]
 refine enter Tryz.func54 qk I I I ?_
 rotate_left
 let kd:Bool:=true
 rewrite [show sf true=sf kd from rfl]
 refine enter Tryz.func89 qk I I I ?_
 rotate_left
 all_goals
  exact sq<|rg (bx hT 0 I fun b1=>fin hT 1 I<|th (sq<|rg (fin hT 2 I<|th (rt<|ret1 I I ⟨I,b1,I,I⟩))))
theorem keysI(kd:Bool){w0:World}{ν:Type}(encv:ν->Value)(hm:PH)(b1 bo:Nat)(m:List (Int×ν))(hnd:(m.map (·.1)).Nodup)(hO:MpO (encK kd) encv hm bo m):
  ItG Tryz.prog w0 (sf kd 133 92) [.pointer (some ⟨b1,0,none⟩)] (stepN (encK kd) m) (overN m) (KsOf.nil m) (KeyRd hm b1 bo):=by
 cases kd
 let kd:Bool:=false
 rewrite [show sf false=sf kd from rfl]
 try rewrite [show encK false=encK kd from rfl]
 rotate_left
 let kd:Bool:=true
 rewrite [show sf true=sf kd from rfl]
 try rewrite [show encK true=encK kd from rfl]
 rotate_left
 all_goals
  intro L St Sp hRd hY K hs h0
 refine enterX Tryz.func92 qk I I I ?_
 rotate_left
 refine enterX Tryz.func133 qk I I I ?_
 rotate_left
 all_goals
  obtain ⟨⟨h1,m1,c1⟩,m2⟩:=hRd _ K hs h0;refine sqX (rgX (ld hT 0 I m1 c1 (mrg hT 0 I (keyUT kd) m2 hO fun r hi hI0=>fin hT 0 I (nxX (thX (bkX ?_))))))
  refine loopX (σ:=PH×KsOf m×PH×List PH) (fun _=>[(0,.func (.yield L) #[] #[]),(1,.pointer (some ⟨b1,0,none⟩)),(5,.pointer (some ⟨r,0,none⟩))]) (fun s=>s.2.2.1) (fun s=>s.1::s.2.2.2)
   (fun s=>MpI (encK kd) encv hm s.1 bo r m s.2.1.1/\St s.2.1 s.2.2.1 s.2.2.2) (fun s=>todoL (m.map (·.1)) s.2.1.1) (hi,KsOf.nil m,K,hs) ⟨hI0,h0⟩ ⟨rfl,rfl,rfl,trivial⟩ rfl rfl ?_
  rintro ⟨hi,ks,K,hs⟩ ⟨hI,hst⟩;dsimp only at *;obtain ⟨_,m2⟩:=hRd ks K hs hst;refine sqX (rgX (mnx hT 0 0 I m2.cons I hI hnd (fun k v hi' hmem hnk hS=>?_) (fun hall=>?_)))
  ·have hkm:k∈m.map (·.1):=List.mem_map.2 ⟨_,hmem,rfl⟩;refine fin hT 1 I (nxX (thX (sqX (ifTX I (skX (thX (bkX (sqX (rgX (men hT 0 I m2.cons (.inr ⟨0,I⟩) hS (fin hT 2 I (nxX (thX (sqX (rgI (WLI.cut 2 (fin hT 2 I (cutX (yld I ((hY ks [(encK kd) k] (ks.add k hkm hnk) K hs [hi'] ⟨k,hkm,hnk,I,I⟩ hst).perm (List.perm_append_singleton hi' hs).symm) ?_)))))))))))))))))));rintro v12 K12 hs12 ⟨hs1,rfl,⟨rfl,hn⟩|⟨rfl,hp⟩⟩
   ·exact WLI.fin<|fin hT 1 I (nxX<|thX (ifFX I<|skX (blX<|WQX.perm (List.perm_append_singleton hi' hs1) (againX (x:=(hi,ks,K,hs)) (hi',ks.add k hkm hnk,K12,hs1) ⟨I,I,I,trivial⟩ I I ⟨hS.1,hn⟩<|todoL_lt hnk hkm))))
   ·exact WLI.fin<|fin hT 1 I (nxX<|thX (ifTX I<|rtX (rBX<|rTX (rBX<|WQX.perm (List.perm_append_singleton hi' hs1) (WQX.drop<|ret0X I (.inr hp))))))
  ·exact fin hT 1 I (nxX (thX (sqX (ifFX I (exX (xtX (xtX (xbX (WQX.drop (end0X I (.inl ⟨ks,fun k hk=>by obtain ⟨x,hx,rfl⟩:=List.mem_map.1 hk;exact hall x hx,hst⟩)))))))))))
theorem appSeqC(kd:Bool){w0:World}{ν:Type}{K:PH}{hs:List PH}(f:Nat)(cap:List Value)(m:List (Int×ν))(Rd:PH->List PH->Prop)(it:ItG Tryz.prog w0 f cap (stepN (encK kd) m) (overN m) (KsOf.nil m) Rd)(hcal:callable Tryz.prog f=true)
  (hl:m.length<=1000000000) (hR:∀ x y fr,Rd K (x::y::(hs++fr))):
  Ct Tryz.prog w0 (sf kd 150 134) [.slice none 0 0,.func (.func f) #[] cap.toArray] K hs
   (fun v K' hs'=>K'=K/\∃ (s:KsOf m) (ao:Option Addr) (c:Nat) (g:PH),overN m s/\hs'=g::hs/\v=.slice ao s.1.length c/\Own g ao s.1.length c (sf kd 23 3) 1 (ivk kd s.1)):=by
 cases kd
 let kd:Bool:=false
 rewrite [show sf false=sf kd from rfl]
 try rewrite [show ivk false=ivk kd from rfl]
 try rewrite [show encK false=encK kd from rfl]
 refine enterX Tryz.func134 qk I I I ?_
 rotate_left
 let kd:Bool:=true
 rewrite [show sf true=sf kd from rfl]
 try rewrite [show ivk true=ivk kd from rfl]
 try rewrite [show encK true=encK kd from rfl]
 refine enterX Tryz.func150 qk I I I ?_
 rotate_left
 all_goals
  refine sqX<|rgX (bx hT 0 I fun b2=>fin hT 1 I<|nxX (thX<|sqX (sqX<|rgX (fin hT 1 I<|nxX (thX<|bkX (WX.em<|WX.perm (List.Perm.swap _ _ _) ?_))))))
  refine rgG cap (stepN (encK kd) m) (overN m) (KsOf.nil m) Rd I it hcal (fun s vs s' h=>by obtain ⟨k,_,_,rfl,_⟩:=h;rfl) rfl
   (fun s K' hs'=>K'=K/\∃ ao c g,hs'=pt b2 #[.slice ao s.1.length c] (sf kd 111 27)::g::hs/\Own g ao s.1.length c (sf kd 23 3) 1 (ivk kd s.1))
   (fun _ _ _=>False) ⟨rfl,none,0,em,rfl,Own.nil _ _⟩ (fun s K' hs' t u h=>by obtain ⟨rfl,ao,c,g,rfl,_⟩:=h;exact hR _ _ _) ?_ ?_ ?_
  ·rintro L s vs s' K' hs' fr t u ⟨k,hk,hnk,rfl,rfl⟩ ⟨rfl,ao,c,g,rfl,o⟩;have hlen:=(s.add k hk hnk).len;have hlen2:(s.add k hk hnk).1.length=s.1.length+1:=by simp[KsOf.add]
   refine rgX (fin hT 1 I (nxX (asgX (hs':=pt b2 #[.slice ao s.1.length c] (sf kd 111 27)::g::(hs++fr)) (by simp) fun u=>bkX (rgX (ldp hT 0 0 I I I (lit hT 1 #[(encK kd) k] I (by decide) qk fun b10=>app hT 0 2 I I o (.inr ⟨0,I⟩) (Own.ofPt I (by decide)).isS I (by decide) (by simp[encK,Value.oneCell']) (by show (s.1.length+1)*8<=_;omega) (by simp only[maxLen];omega) fun ao11 c11 g11 o11=>stp hT 0 1 rfl rfl rfl rfl (fin hT 0 rfl (nxX (blX (WQX.drop (rndX (hs':=pt b2 #[.slice ao11 (s.1.length+1) c11] (sf kd 111 27)::g11::(hs++fr)) rfl (⟨pt b2 #[.slice ao11 (s.1.length+1) c11] (sf kd 111 27)::g11::hs,rfl,rfl,ao11,c11,g11,by rw[hlen2],?_⟩))))))))))));rw[hlen2];have:ivk kd (s.add k hk hnk).1=ivk kd s.1++[(encK kd) k]:=by simp[KsOf.add,ivk,encK]
   rw[this];exact o11
  ·rintro D s K' hs' hov ⟨rfl,ao,c,g,rfl,o⟩;exact id (blX (thX (sqX (rgX (ldp hT 0 0 I I I (fin hT 1 I (nxX (thX (rtX (WQX.drop (ret1M D (hs':=g::hs) I I I ⟨I,s,ao,c,g,hov,I,I,o⟩)))))))))))
  ·rintro D c K hs hj;exact hj.elim
end
section
def insI(x:Int):List Int->List Int
 | []=>[x]
 | y::l=>if x<=y then x::y::l else y::insI x l
def srtI:List Int->List Int
 | []=>[]
 | x::l=>insI x (srtI l)
theorem insI_perm(x:Int):∀ l,(insI x l).Perm (x::l)
 | []=>List.Perm.refl _
 | y::l=>by
  unfold insI
  split
  ·exact List.Perm.refl _
  ·exact ((insI_perm x l).cons y).trans<|List.Perm.swap x y l
theorem srtI_perm:∀ l,(srtI l).Perm l
 | []=>List.Perm.refl _
 | x::l=>(insI_perm x _).trans ((srtI_perm l).cons x)
theorem insI_srt(x:Int):∀ {l},l.Pairwise (· <= ·)->(insI x l).Pairwise (· <= ·)
 | [],_=>by simp[insI]
 | y::l,h=>by
  unfold insI;have h1:=List.pairwise_cons.1 h
  split
  ·rename_i hxy;refine List.pairwise_cons.2 ⟨fun z hz=>?_,h⟩;rcases List.mem_cons.1 hz with rfl|hz
   ·exact hxy
   ·exact Int.le_trans hxy<|h1.1 z hz
  ·rename_i hxy;refine List.pairwise_cons.2 ⟨fun z hz=>?_,insI_srt x h1.2⟩;rcases List.mem_cons.1 ((insI_perm x l).mem_iff.1 hz) with rfl|hz
   ·omega
   ·exact h1.1 z hz
theorem srtI_srt:∀ l,(srtI l).Pairwise (· <= ·)
 | []=>List.Pairwise.nil
 | x::l=>insI_srt x (srtI_srt l)
theorem srtI_eq{l ys:List Int}(hp:ys.Perm l)(hs:ys.Pairwise (· <= ·)):ys=srtI l:=
 List.Perm.eq_of_pairwise (le:=(· <= ·)) (fun a b _ _ h1 h2=>Int.le_antisymm h1 h2) hs (srtI_srt l) (hp.trans (srtI_perm l).symm)
theorem Srt.pw{ys:List Nat}(h:Srt 0 ys.length ys):(ys.map fun x=>((x:Nat):Int)).Pairwise (· <= ·):=by
 rw[List.pairwise_map,List.pairwise_iff_getElem];intro i j hi hj hij;have:=h i j (Nat.zero_le _) hij hj;rw[List.getD_eq_getElem?_getD,List.getD_eq_getElem?_getD,List.getElem?_eq_getElem hi,List.getElem?_eq_getElem hj] at this;simp only[Option.getD_some] at this;omega
theorem ivk_nat(kd:Bool)(ks:List Int)(h:∀ k∈ks,0<=k):ivk kd ks=kvv kd (ks.map Int.toNat):=by
 unfold ivk kvv;rw[List.map_map];refine List.map_congr_left fun k hk=>?_;have:=h k hk;simp only[Function.comp_apply];rw[Int.toNat_of_nonneg this]
theorem kvv_ivk(kd:Bool)(ys:List Nat):kvv kd ys=ivk kd (ys.map fun x=>((x:Nat):Int)):=by
 unfold ivk kvv;rw[List.map_map]
 rfl
theorem nat_back(ks:List Int)(h:∀ k∈ks,0<=k):(ks.map Int.toNat).map (fun x=>((x:Nat):Int))=ks:=by
 rw[List.map_map]
 conv=>rhs;rw[<-List.map_id ks]
 refine List.map_congr_left fun k hk=>?_;have:=h k hk;simp only[Function.comp_apply,id];rw[Int.toNat_of_nonneg this]
theorem Own.kA{kd:Bool}{g:PH}{ao:Option Addr}{c e:Nat}{xs:List Nat}(o:Own g ao xs.length c e 1 (kvv kd xs))(hne:ao≠none):∃ b pre post,ao=some ⟨b,pre.length,none⟩/\g=pt b (kA kd pre xs post) e/\xs.length<=c:=by
 obtain ⟨h1,h2,h3,⟨h4,_⟩|⟨b,off,cur,h4,h5,h6,h7⟩⟩:=o
 ·exact absurd h4 hne
 ·have hl:cur.toList.length=cur.size:=Array.length_toList;have hoff:off<=cur.toList.length:=by rw[hl,h6];omega
  refine ⟨b,cur.toList.take off,cur.toList.drop (off+xs.length),?_,?_,h2⟩
  ·rw[h4,List.length_take,Nat.min_eq_left hoff]
  ·rw[h5]
   congr 1
   unfold En.kA;rw[Nat.mul_one] at h7;rw[<-h7,List.append_assoc,<-List.drop_drop,List.take_append_drop,List.take_append_drop]
def areasL(D:Dk):List Int:=srtI (D.areas.map (·.1))
attribute [local irreducible] Code.wp wpList Calls
theorem collectC(kd:Bool){w0:World}{ν:Type}{K:PH}{hs:List PH}(f:Nat)(cap:List Value)(m:List (Int×ν))(Rd:PH->List PH->Prop)(it:ItG Tryz.prog w0 f cap (stepN (encK kd) m) (overN m) (KsOf.nil m) Rd)(hcal:callable Tryz.prog f=true)
  (hl:m.length<=1000000000) (hR:∀ x y fr,Rd K (x::y::(hs++fr))):
  Ct Tryz.prog w0 (sf kd 131 90) [.func (.func f) #[] cap.toArray] K hs
   (fun v K' hs'=>K'=K/\∃ (s:KsOf m) (ao:Option Addr) (c:Nat) (g:PH),overN m s/\hs'=g::hs/\v=.slice ao s.1.length c/\Own g ao s.1.length c (sf kd 23 3) 1 (ivk kd s.1)):=by
 cases kd
 let kd:Bool:=false
 rewrite [show sf false=sf kd from rfl]
 try rewrite [show ivk false=ivk kd from rfl]
 try rewrite [show encK false=encK kd from rfl]
 refine enter Tryz.func90 qk I I I ?_
 rotate_left
 let kd:Bool:=true
 rewrite [show sf true=sf kd from rfl]
 try rewrite [show ivk true=ivk kd from rfl]
 try rewrite [show encK true=encK kd from rfl]
 refine enter Tryz.func131 qk I I I ?_
 rotate_left
 all_goals
  refine sq (rg (fin hT 1 I (th (sq (rg (cl hT 1 I (appSeqC kd f cap m Rd it hcal hl hR) ?_))))));rintro v4 K4 hs4 ⟨rfl,s,ao,c,g,h1,rfl,rfl,h4⟩;exact fin hT 1 I (th (rt (ret1 I I ⟨I,s,ao,c,g,h1,I,I,h4⟩)))
theorem sortC(kd:Bool){w0:World}{K:PH}{hs:List PH}(g cap:Nat)(pre post:List Value)(xs:List Nat)(hc:xs.length<=cap)(hl:xs.length<=1099511627776):
  Ct Tryz.prog w0 (sf kd 132 91) [.slice (some ⟨g,pre.length,none⟩) xs.length cap] K (pt g (kA kd pre xs post) (sf kd 23 3)::hs)
   (fun v K' hs'=>K'=K/\∃ ys,hs'=pt g (kA kd pre ys post) (sf kd 23 3)::hs/\SegP 0 xs.length xs ys/\Srt 0 xs.length ys):=by
 cases kd
 let kd:Bool:=false
 rewrite [show sf false=sf kd from rfl]
 try rewrite [show kA false=kA kd from rfl]
 refine enter Tryz.func91 qk I I I ?_
 rotate_left
 let kd:Bool:=true
 rewrite [show sf true=sf kd from rfl]
 try rewrite [show kA true=kA kd from rfl]
 refine enter Tryz.func132 qk I I I ?_
 rotate_left
 all_goals
  refine sq (rg (fin hT 3 I (th (rg (ar hT 3 I (u64w qo) (cl hT 0 I (lenC xs.length qo) ?_))))));rintro v9 K9 hs9 ⟨rfl,rfl,n,rfl,h1,-⟩;have hs1:=pdqC kd xs.length (w0:=w0) (K:=K9) (hs:=hs) g cap pre post xs 0 xs.length n (Nat.zero_le _) (Nat.le_refl _) hc hl h1 (LoB.zero _ _) qo;refine cl hT 0 I hs1 ?_;rintro v10 K10 hs10 ⟨rfl,ys,rfl,h2,h3⟩;exact fin hT 0 I (end0 I ⟨I,ys,I,h2,h3⟩)
theorem insNilC(kd:Bool){w0:World}{K:PH}{hs:List PH}:Ct Tryz.prog w0 (sf kd 168 152) [.slice none 0 0,.int .i64 0,.int .i64 0] K hs (fun v K' hs'=>K'=K/\hs'=hs):=by
 cases kd
 let kd:Bool:=false
 rewrite [show sf false=sf kd from rfl]
 refine enter Tryz.func152 qk I I I ?_
 rotate_left
 let kd:Bool:=true
 rewrite [show sf true=sf kd from rfl]
 refine enter Tryz.func168 qk I I I ?_
 rotate_left
 all_goals
  refine sq (rg (ar hT 1 I (i64w (x:=1) qo) (fin hT 1 I (th (bk (loop (σ:=Unit) (fun _=>[(2,.int .i64 0),(6,.int .i64 1)]) (fun _=>K) (fun _=>hs) (fun _=>True) (fun _=>0) () trivial ⟨I,I,trivial⟩ I I ?_))))));rintro - -;exact sq (sq (rg (cmpS hT 2 I fun b12 h12=>fin hT 0 I (th (ifPF h12 qo I (ex (xt (xt (xb (end0 I ⟨I,I⟩))))))))))
theorem pdqNilC(kd:Bool){w0:World}{K:PH}{hs:List PH}(n:Nat):Ct Tryz.prog w0 (sf kd 151 135) [.slice none 0 0,.int .i64 0,.int .i64 0,.int .i64 (n:Nat)] K hs (fun v K' hs'=>K'=K/\hs'=hs):=by
 cases kd
 let kd:Bool:=false
 rewrite [show sf false=sf kd from rfl]
 refine enter Tryz.func135 qk I I I ?_
 rotate_left
 let kd:Bool:=true
 rewrite [show sf true=sf kd from rfl]
 refine enter Tryz.func151 qk I I I ?_
 rotate_left
 all_goals
  refine sq (rg (fin hT 1 I (th (sq (rg (fin hT 1 I (th (bk (loop (σ:=Unit) (fun _=>[(0,.slice none 0 0),(1,.int .i64 0),(2,.int .i64 0)]) (fun _=>K) (fun _=>hs) (fun _=>True) (fun _=>0) () trivial ⟨I,I,I,trivial⟩ I I ?_)))))))));rintro - -;refine bk (sq (rg (ar hT 2 I (i64w (x:=0) qo) (fin hT 1 I (th (sq (sq (rg (cmpS hT 1 I fun b23 h23=>fin hT 0 I (th (ifPT h23 qo I (sq (rg (cl hT 3 I (insNilC kd) ?_))))))))))))));rintro v27 K27 hs27 ⟨rfl,rfl⟩;exact fin hT 0 I (th (rt (rT (rB (rT (rB (ret0 I ⟨I,I⟩)))))))
theorem sortNilC(kd:Bool){w0:World}{K:PH}{hs:List PH}:Ct Tryz.prog w0 (sf kd 132 91) [.slice none 0 0] K hs (fun v K' hs'=>K'=K/\hs'=hs):=by
 cases kd
 let kd:Bool:=false
 rewrite [show sf false=sf kd from rfl]
 refine enter Tryz.func91 qk I I I ?_
 rotate_left
 let kd:Bool:=true
 rewrite [show sf true=sf kd from rfl]
 refine enter Tryz.func132 qk I I I ?_
 rotate_left
 all_goals
  refine sq (rg (fin hT 3 I (th (rg (ar hT 3 I (u64w (x:=0) qo) (cl hT 0 I (lenC 0 qo) ?_))))));rintro v9 K9 hs9 ⟨rfl,rfl,n,rfl,h1,-⟩;refine cl hT 0 I (pdqNilC kd n) ?_;rintro v10 K10 hs10 ⟨rfl,rfl⟩;exact fin hT 0 I (end0 I ⟨I,I⟩)
theorem sortedC(kd:Bool){w0:World}{ν:Type}{K:PH}{hs:List PH}(f:Nat)(cap:List Value)(m:List (Int×ν))(hnd:(m.map (·.1)).Nodup)(h0:∀ k∈m.map (·.1),0<=k)(Rd:PH->List PH->Prop)(it:ItG Tryz.prog w0 f cap (stepN (encK kd) m) (overN m) (KsOf.nil m) Rd)(hcal:callable Tryz.prog f=true)
  (hl:m.length<=1000000000) (hR:∀ x y fr,Rd K (x::y::(hs++fr))):
  Ct Tryz.prog w0 (sf kd 88 53) [.func (.func f) #[] cap.toArray] K hs
   (fun v K' hs'=>Le K K'/\hs'=hs/\∃ ao c,v=.slice ao m.length c/\IsS K' ao m.length c 1 (ivk kd (srtI (m.map (·.1))))):=by
 cases kd
 let kd:Bool:=false
 rewrite [show sf false=sf kd from rfl]
 try rewrite [show ivk false=ivk kd from rfl]
 try rewrite [show encK false=encK kd from rfl]
 refine enter Tryz.func53 qk I I I ?_
 rotate_left
 let kd:Bool:=true
 rewrite [show sf true=sf kd from rfl]
 try rewrite [show ivk true=ivk kd from rfl]
 try rewrite [show encK true=encK kd from rfl]
 refine enter Tryz.func88 qk I I I ?_
 rotate_left
 all_goals
  refine sq (rg (fin hT 1 I (th (sq (rg (cl hT 1 I (collectC kd f cap m Rd it hcal hl hR) ?_))))));rintro v5 K5 hs5 ⟨rfl,s,ao,c,g,hov,rfl,rfl,o⟩;have hp:=s.perm hnd hov;have hsl:s.1.length=m.length:=by have:=hp.length_eq;simpa using this
  have hs0:∀ k∈s.1,0<=k:=fun k hk=>h0 k (hp.mem_iff.1 hk);obtain ⟨xs,hxs⟩:∃ xs,xs=s.1.map Int.toNat:=⟨_,rfl⟩;have hxl:xs.length=m.length:=by rw[hxs];simpa using hsl
  rw[hsl,ivk_nat kd s.1 hs0,<-hxs,<-hxl] at o;rw[hsl,<-hxl];refine fin hT 1 I (th (sq (rg ?_)));cases ao with
  | none=>
   have hcz:xs.length=0/\c=0:=by
    obtain ⟨_,h2,_,⟨_,h4,_⟩|⟨_,_,_,h4,_⟩⟩:=o
    ·omega
    ·cases h4
   obtain ⟨hz,rfl⟩:=hcz;rw[hz];refine cl hT 1 I (sortNilC kd) ?_;rintro v7 K7 hs7 ⟨rfl,rfl⟩;refine fin hT 0 I (th (sq (rg (fin hT 2 I (th (rt (WQ.drop (ret1 I I ⟨Le.refl _,I,none,0,I,?_⟩))))))));have hm0:m=[]:=List.length_eq_zero_iff.1 (hxl.symm.trans hz);subst hm0;exact IsS.nil _ _ _ _
  | some a=>
   obtain ⟨b,pre,post,ha,rfl,hc⟩:=o.kA (by simp);rw[ha];refine cl hT 1 I (sortC kd b c pre post xs hc qo) ?_;rintro v7 K7 hs7 ⟨rfl,ys,rfl,hQ,hS⟩;refine fin hT 0 I (th (sq (rg (fin hT 2 I (th (rt (WQ.frz fun K' le1 le2=>?_)))))));have hyl:=hQ.len
   have hsort:(ys.map fun x=>((x:Nat):Int))=srtI (m.map (·.1)):=by
    refine srtI_eq ?_ ?_
    ·have h1:=hQ.perm.map (fun x:Nat=>((x:Nat):Int));rw[hxs,nat_back s.1 hs0] at h1;exact h1.trans hp
    ·rw[<-hyl] at hS;exact hS.pw
   refine ret1 I I ⟨le1,I,_,c,I,?_⟩;rw[<-hsort,<-kvv_ivk kd,<-hyl];exact (kA_isS qo).le le2
theorem areasC{w0:World}{K:PH}{hs m:List PH}(b:Nat)(D:Dk)(c:Nat)(o:D.Ok c)(hl:D.areas.length<=1000000000)(h0:∀ k∈D.areas.map (·.1),0<=k)(hm:DskM K b D m):
  Ct Tryz.prog w0 52 [.pointer (some ⟨b,0,none⟩)] K (m++hs)
   (fun v K' hs'=>Le K K'/\hs'=m++hs/\∃ ao c,v=.slice ao (areasL D).length c/\IsS K' ao (areasL D).length c 1 (ivu (areasL D))):=by
 obtain ⟨bo,ho,ins,rfl,hO,hI⟩:=hm;have hk:(insO ins).map (·.1)=D.areas.map (·.1):=by rw[insO_keys,insKeys hI]
 have hlen:(insO ins).length=D.areas.length:=by have:=congrArg List.length hk;simpa using this
 refine enter Tryz.func52 qk I I I (sq (rg (fin hT 1 I (th (sq (rg (ldp hT 3 0 I I I (cl hT 0 I (keysC true bo) ?_))))))));rintro v7 K7 hs7 ⟨rfl,b1,rfl,rfl⟩
 refine cl hT 0 I (sortedC true (m:=insO ins) _ [.pointer (some ⟨b1,0,none⟩)] (by rw[hk];exact o.keys) (by rw[hk];exact h0) (KeyRd ho b1 bo) (keysI true encB ho b1 bo (insO ins) (by rw[hk];exact o.keys) hO) qk qo
  (fun x y fr=>⟨⟨_,.inr ⟨2,rfl⟩,Cell.pt rfl⟩,.inr ⟨4,rfl⟩⟩)) ?_
 rintro v8 K8 hs8 ⟨le,rfl,ao,cc,rfl,hx⟩;refine fin hT 1 I (th (rt (WQ.drop ?_)));have e:areasL D=srtI ((insO ins).map (·.1)):=by unfold areasL;rw[hk]
 have e2:(areasL D).length=(insO ins).length:=by rw[e,(srtI_perm _).length_eq,List.length_map]
 exact ret1 I I ⟨le,I,ao,cc,by rw[e2],by rw[e2,e];exact hx⟩
end
section
theorem Ct.bun{P:Program}{w0:World}{f:FuncId}{args:List Value}{K:PH}{m hs:List PH}{R R':Value->PH->List PH->Prop}(d:Djs m)(c:Ct P w0 f args K (m++hs) R)
  (h:∀ v K' hs',R v K' hs'->∃ m',hs'=m'++hs/\(Djs m'->R' v K' (uns m'::hs))):Ct P w0 f args K (uns m::hs) R':=
 ⟨c.1,fun w hw=>(c.2 w (hw.split d)).mono fun e w' he=>by
  obtain ⟨v,K',hs',rfl,hR,hS⟩:=he;obtain ⟨m',rfl,h2⟩:=h v K' hs' hR;obtain ⟨d',hS'⟩:=Sat.join m' hS;exact ⟨v,K',_,I,h2 d',hS'⟩⟩
theorem Ct.fix2{P:Program}{w0:World}{f:FuncId}{args:List Value}{K:PH}{hs:List PH}{R R':Value->PH->List PH->Prop}(c:Ct P w0 f args K hs R)
  (h:∀ w v K' hs',Sat w0 w K' hs'->R v K' hs'->∃ K2 hs2,R' v K2 hs2/\Sat w0 w K2 hs2):Ct P w0 f args K hs R':=
 ⟨c.1,fun w hw=>(c.2 w hw).mono fun e w' he=>by
  obtain ⟨v,K',hs',rfl,hR,hS⟩:=he;obtain ⟨K2,hs2,h1,h2⟩:=h w' v K' hs' hS hR;exact ⟨v,K2,hs2,I,h1,h2⟩⟩
def totA(m:List (Int×Ar)):Nat:=(m.map fun x=>x.2.length).sum
theorem totA_mset{a:Int}{l:Ar}:∀ (m:List (Int×Ar)),totA (mset a l m)+((mget a m).getD []).length=totA m+l.length
 | []=>by simp[mset,mget,totA]
 | (k,u)::m=>by
  by_cases e:a=k
  ·simp only[mset,mget,e,if_true,totA,List.map_cons,List.sum_cons,Option.getD_some];omega
  ·have:=totA_mset (a:=a) (l:=l) m;simp only[mset,mget,e,if_false,totA,List.map_cons,List.sum_cons] at this ⊢;omega
theorem totA_mdel{a:Int}:∀ (m:List (Int×Ar)),(m.map (·.1)).Nodup->totA (mdel a m)+((mget a m).getD []).length=totA m
 | [],_=>by simp[mdel,mget,totA]
 | (k,u)::m,h=>by
  simp only[List.map_cons,List.nodup_cons] at h
  by_cases e:a=k
  ·subst e;have hn:mget a m=none:=mget_none.2 h.1;simp only[mdel,mget,if_true,totA,List.map_cons,List.sum_cons,Option.getD_some]
   first|omega|(rw[mdel_none hn];omega)
  ·have:=totA_mdel (a:=a) m h.2;simp only[mdel,mget,e,if_false,totA,List.map_cons,List.sum_cons] at this ⊢;omega
structure DOk (c:Nat) (D:Dk):Prop where
 ok:D.Ok c
 ar:∀ k∈D.areas.map (·.1),0<=k/\k<=18446744073709551615
 len:D.areas.length<=c
 cap:D.room+(totA D.areas:Int)<=1073741824
theorem DOk.up{c d:Nat}{D:Dk}(o:DOk c D)(h:c<=d):DOk d D:=⟨o.ok.up h,o.ar,by have:=o.len;omega,o.cap⟩
theorem DOk.write{c:Nat}{D:Dk}(o:DOk c D)(a n:Int)(b:List UInt8)(ha:0<=a/\a<=18446744073709551615):DOk (c+1) (D.write a n b).1:=by
 refine ⟨o.ok.write a n b,?_,?_,?_⟩
 ·unfold Dk.write
  split
  ·exact o.ar
  ·split
   ·exact o.ar
   ·split
    ·exact o.ar
    ·intro k hk;obtain ⟨x,hx,rfl⟩:=List.mem_map.1 hk;rcases mset_mem hx with rfl|hx
     ·exact ha
     ·exact o.ar _<|List.mem_map.2 ⟨x,hx,I⟩
 ·have:=o.len;unfold Dk.write
  split
  ·dsimp only;omega
  ·split
   ·dsimp only;omega
   ·split
    ·dsimp only;omega
    ·show (mset a _ D.areas).length<=c+1;rw[mset_length]
     split <;> omega
 ·have hc:=o.cap;unfold Dk.write
  split
  ·exact hc
  ·split
   ·exact hc
   ·split
    ·exact hc
    ·show (D.laid a n b).room+(totA (D.laid a n b).areas:Int)<=_;unfold Dk.laid;dsimp only;have h1:=totA_mset (a:=a) (l:=mset n (secW (D.sec a n) b) (D.ar a)) D.areas;have h2:((mget a D.areas).getD []).length=(D.ar a).length:=rfl;have h3:=mset_length n (secW (D.sec a n) b) (D.ar a);have h4:D.sec a n=mget n (D.ar a):=rfl;rw[h4] at h1 h3 ⊢
     split at h3 <;> rename_i h5
     ·rw[if_pos h5];omega
     ·rw[if_neg h5];omega
theorem synA_keys(D:Dk)(a:Int):(D.synA a).map (·.1)=D.areas.map (·.1):=by
 unfold Dk.synA;cases hg:mget a D.areas with
 | none=>rfl
 | some l=>
  rw[mset_keys,hg]
  rfl
theorem synA_tot(D:Dk)(a:Int):totA (D.synA a)=totA D.areas:=by
 unfold Dk.synA;cases hg:mget a D.areas with
 | none=>rfl
 | some l=>
  have:=totA_mset (a:=a) (l:=l.map fun x=>(x.1,secS x.2)) D.areas;rw[hg] at this;simp only[Option.getD_some,List.length_map] at this;dsimp only;omega
theorem DOk.sync{c:Nat}{D:Dk}(o:DOk c D)(a:Int):DOk (c+1) (D.sync a).1:=by
 refine ⟨o.ok.sync a,?_,?_,?_⟩
 ·unfold Dk.sync
  split
  ·exact o.ar
  ·split
   ·exact o.ar
   ·show ∀ k∈(D.synA a).map (·.1),_;rw[synA_keys];exact o.ar
 ·have:=o.len;unfold Dk.sync
  split
  ·dsimp only;omega
  ·split
   ·show D.areas.length<=c+1;omega
   ·have h:=congrArg List.length (synA_keys D a);simp only[List.length_map] at h;show (D.synA a).length<=c+1;omega
 ·have hc:=o.cap;unfold Dk.sync
  split
  ·exact hc
  ·split
   ·exact hc
   ·show D.room+(totA (D.synA a):Int)<=_;rw[synA_tot];exact hc
theorem DOk.arLen{c:Nat}{D:Dk}(o:DOk c D)(a:Int):((D.ar a).length:Int)<=totA D.areas:=by
 have h:=totA_mdel (a:=a) D.areas o.ok.keys;have h2:((mget a D.areas).getD []).length=(D.ar a).length:=rfl;omega
theorem DOk.free{c:Nat}{D:Dk}(o:DOk c D)(a:Int):DOk (c+1) (D.free a).1:=by
 have hs:=mdel_sub (k:=a) D.areas;have hc:=o.cap;refine ⟨o.ok.free a (by have:=o.arLen a;omega),?_,?_,?_⟩
 ·unfold Dk.free
  split
  ·exact o.ar
  ·split
   ·exact o.ar
   ·intro k hk;obtain ⟨x,hx,rfl⟩:=List.mem_map.1 hk;exact o.ar _ (List.mem_map.2 ⟨x,hs.subset hx,I⟩)
 ·have:=o.len;unfold Dk.free
  split
  ·dsimp only;omega
  ·split
   ·show D.areas.length<=c+1;omega
   ·have:=hs.length_le;show (mdel a D.areas).length<=c+1;omega
 ·unfold Dk.free
  split
  ·exact hc
  ·split
   ·exact hc
   ·show D.room+((D.ar a).length:Int)+(totA (mdel a D.areas):Int)<=_;have h:=totA_mdel (a:=a) D.areas o.ok.keys;have h2:((mget a D.areas).getD []).length=(D.ar a).length:=rfl;omega
attribute [local irreducible] Code.wp wpList Calls
def DskH(K:PH)(b:Nat)(D:Dk)(h:PH):Prop:=∃ m,h=uns m/\Djs m/\DskM K b D m
theorem DskH.le{K K':PH}(l:Le K K'){b:Nat}{D:Dk}{h:PH}(x:DskH K b D h):DskH K' b D h:=let ⟨m,h1,h2,h3⟩:=x;⟨m,h1,h2,h3.le l⟩
theorem newH{w0:World}{K:PH}{hs:List PH}(r:Int)(hr:0<=r/\r<=1099511627776):Ct Tryz.prog w0 24 [.int .i64 r] K hs
  (fun v K' hs'=>K'=K/\∃ b h,hs'=h::hs/\DskH K b (dk0 r) h/\v=.pointer (some ⟨b,0,none⟩)):=by
 refine Ct.fix2 (newDC r hr) ?_;rintro w v K' hs' hS ⟨rfl,b,m,rfl,hm,rfl⟩;obtain ⟨d,hS'⟩:=Sat.join m hS;exact ⟨K',_,⟨I,b,uns m,I,⟨m,I,d,hm⟩,I⟩,hS'⟩
theorem deadH{w0:World}{K h:PH}{hs:List PH}(b:Nat)(D:Dk)(hm:DskH K b D h):Ct Tryz.prog w0 51 [.pointer (some ⟨b,0,none⟩)] K (h::hs)
  (fun v K' hs'=>K'=K/\hs'=h::hs/\v=.bool D.dead):=by
 obtain ⟨m,rfl,d,hm⟩:=hm;refine Ct.bun d (deadC b D hm) ?_;rintro v K' hs' ⟨rfl,rfl,rfl⟩;exact ⟨m,I,fun _=>⟨I,I,I⟩⟩
theorem readH{w0:World}{K h:PH}{hs:List PH}(b:Nat)(D:Dk)(c:Nat)(o:D.Ok c)(hc:c<=1099511627)(hm:DskH K b D h)(area n:Int):
  Ct Tryz.prog w0 101 [.pointer (some ⟨b,0,none⟩),.int .u64 area,.int .i64 n] K (h::hs)
   (fun v K' hs'=>∃ h',hs'=h'::hs/\h'=h/\Le K K'/\((D.read area n=none/\v=.tuple #[.slice none 0 0,.bool false]) \/
    ∃ bs ao cap,D.read area n=some bs/\bs.length=64/\v=.tuple #[.slice ao bs.length cap,.bool true]/\IsS K' ao bs.length cap 1 (bv bs))):=by
 obtain ⟨m,rfl,d,hm⟩:=hm;refine Ct.bun d (readDC b D c o hc hm area n) ?_;rintro v K' hs' ⟨le,rfl,hR⟩;exact ⟨m,I,fun _=>⟨_,I,I,le,hR⟩⟩
theorem writeH{w0:World}{K hv h:PH}{hs:List PH}(b:Nat)(D:Dk)(c:Nat)(o:D.Ok c)(hc:c<=1099511627)(hm:DskH K b D h)(area n:Int)(ha:0<=area/\area<=18446744073709551615)(ao:Option Addr)(cap:Nat)(bs:List UInt8)(hin:In K hs hv)(x:IsS hv ao bs.length cap 1 (bv bs)):
  Ct Tryz.prog w0 124 [.pointer (some ⟨b,0,none⟩),.int .u64 area,.int .i64 n,.slice ao bs.length cap] K (h::hs)
   (fun v K' hs'=>∃ h',hs'=h'::hs/\Le K K'/\DskH K' b (D.write area n bs).1 h'/\v=.int .i64 (D.write area n bs).2):=by
 obtain ⟨m,rfl,d,hm⟩:=hm;refine Ct.bun d (writeC b D c o hc hm area n ha ao cap bs hin x) ?_;rintro v K' hs' ⟨le,m',rfl,hm',rfl⟩;exact ⟨m',I,fun d'=>⟨_,I,le,⟨m',I,d',hm'⟩,I⟩⟩
theorem syncH{w0:World}{K h:PH}{hs:List PH}(b:Nat)(D:Dk)(c:Nat)(o:D.Ok c)(hc:c<=1099511627)(hm:DskH K b D h)(area:Int):
  Ct Tryz.prog w0 125 [.pointer (some ⟨b,0,none⟩),.int .u64 area] K (h::hs)
   (fun v K' hs'=>∃ h',hs'=h'::hs/\K'=K/\DskH K b (D.sync area).1 h'/\v=.int .i64 (D.sync area).2):=by
 obtain ⟨m,rfl,d,hm⟩:=hm;refine Ct.bun d (syncC b D c o hc hm area) ?_;rintro v K' hs' ⟨rfl,m',rfl,hm',rfl⟩;exact ⟨m',I,fun d'=>⟨_,I,I,⟨m',I,d',hm'⟩,I⟩⟩
theorem freeH{w0:World}{K h:PH}{hs:List PH}(b:Nat)(D:Dk)(c:Nat)(o:D.Ok c)(hc:c<=1099511627)(hm:DskH K b D h)(area:Int):
  Ct Tryz.prog w0 62 [.pointer (some ⟨b,0,none⟩),.int .u64 area] K (h::hs)
   (fun v K' hs'=>∃ h',hs'=h'::hs/\K'=K/\DskH K b (D.free area).1 h'/\v=.int .i64 (D.free area).2):=by
 obtain ⟨m,rfl,d,hm⟩:=hm;refine Ct.bun d (freeC b D c o hc hm area) ?_;rintro v K' hs' ⟨rfl,m',rfl,hm',rfl⟩;exact ⟨m',I,fun d'=>⟨_,I,I,⟨m',I,d',hm'⟩,I⟩⟩
theorem areasH{w0:World}{K h:PH}{hs:List PH}(b:Nat)(D:Dk)(c:Nat)(o:DOk c D)(hc:c<=1000000000)(hm:DskH K b D h):
  Ct Tryz.prog w0 52 [.pointer (some ⟨b,0,none⟩)] K (h::hs)
   (fun v K' hs'=>∃ h',hs'=h'::hs/\h'=h/\Le K K'/\∃ ao c,v=.slice ao (areasL D).length c/\IsS K' ao (areasL D).length c 1 (ivu (areasL D))):=by
 obtain ⟨m,rfl,d,hm⟩:=hm;refine Ct.bun d (areasC b D c o.ok (by have:=o.len;omega) (fun k hk=>(o.ar k hk).1) hm) ?_;rintro v K' hs' ⟨le,rfl,hR⟩;exact ⟨m,I,fun _=>⟨_,I,I,le,hR⟩⟩
end
section
attribute [local irreducible] Code.wp wpList Calls
theorem Sat.loss{w0 w:World}{K:PH}{hs:List PH}(s:Sat w0 w K hs)(i:Nat){h h':PH}(hi:hs[i]?=some h)(hh:h'=h\/h'=em):Sat w0 w K (hs.set i h'):=by
 rcases hh with rfl|rfl
 ·have:hs.set i h'=hs:=by
   apply List.ext_getElem?
   intro j;rw[List.getElem?_set]
   split
   ·rename_i e;subst e
    split
    ·exact hi.symm
    ·rename_i e;rw[List.getElem?_eq_none qo]
   ·rfl
  rw[this];exact s
 ·exact ((s.perm<|perm_front hs i h hi).dropHead.addEm).perm<|perm_set hs i h em hi
section loss
variable {P:Program} {T:Tab} {w0:World} {ops:Array Oper} {Q:Exit->Act->World->Prop} {rest:List Oper} {n:Nat} {l:Sl} {K:PH} {hs:List PH} {c:Code} {e:Exit}
theorem WL.loss(i:Nat){h:PH}(h':PH)(hi:hs[i]?=some h)(hh:h'=h\/h'=En.em)(hk:WL P w0 ops Q rest n l K (hs.set i h')):WL P w0 ops Q rest n l K hs:=fun a w ha hw=>hk a w ha (hw.loss i hi hh)
theorem WC.loss(i:Nat){h:PH}(h':PH)(hi:hs[i]?=some h)(hh:h'=h\/h'=En.em)(hk:WC P w0 c Q n l K (hs.set i h')):WC P w0 c Q n l K hs:=fun a w ha hw=>hk a w ha (hw.loss i hi hh)
theorem WQ.loss(i:Nat){h:PH}(h':PH)(hi:hs[i]?=some h)(hh:h'=h\/h'=En.em)(hk:WQ w0 Q e n l K (hs.set i h')):WQ w0 Q e n l K hs:=fun a w ha hw=>hk a w ha (hw.loss i hi hh)
end loss
def OwnZ(h:PH)(ao:Option Addr)(n cap e size:Nat)(xs:List Value):Prop:=Own h ao n cap e size xs\/(n=0/\cap=0/\xs=[]/\h=em)
theorem OwnZ.nil(e size:Nat):OwnZ em none 0 0 e size []:=.inl (Own.nil e size)
theorem OwnZ.isS{h:PH}{ao:Option Addr}{n cap e size:Nat}{xs:List Value}(o:OwnZ h ao n cap e size xs):IsS h ao n cap size xs:=by
 rcases o with o|⟨rfl,rfl,rfl,rfl⟩
 ·exact o.isS
 ·exact IsS.nil _ _ _ _
theorem OwnZ.caps{h:PH}{ao:Option Addr}{n cap e size:Nat}{xs:List Value}(o:OwnZ h ao n cap e size xs):n<=cap:=o.isS.2.1
theorem OwnZ.cut{h:PH}{ao:Option Addr}{n cap e size:Nat}{xs ys:List Value}(o:OwnZ h ao n cap e size xs)(L N:Nat)(hN:L+N<=n)(hy:(xs.drop (L*size)).take (N*size)=ys):
  ∃ h',(h'=h\/h'=em)/\OwnZ h' (cutA ao cap L size) N (cap-L) e size ys:=by
 have hcap:=o.caps;rcases o with o|⟨rfl,rfl,rfl,rfl⟩
 ·obtain ⟨h1,h2,h3,h4⟩:=o
  have hys:ys.length=N*size:=by
   rw[<-hy,List.length_take,List.length_drop,h1];have:(L+N)*size<=n*size:=Nat.mul_le_mul_right _ hN;rw[Nat.add_mul] at this;omega
  by_cases hL:L=cap
  ·subst hL;obtain rfl:N=0:=by omega
   refine ⟨em,.inr I,.inr ⟨I,by omega,?_,I⟩⟩;rw[Nat.zero_mul] at hys;exact List.length_eq_zero_iff.1 hys
  ·rcases h4 with ⟨_,h5,_⟩|⟨g,off,cur,rfl,rfl,e3,e4⟩
   ·omega
   ·refine ⟨_,.inl I,.inl ⟨hys,by omega,by omega,.inr ⟨g,off+L*size,cur,cutA_lt qo,I,?_,?_⟩⟩⟩
    ·rw[e3];have:cap*size=L*size+(cap-L)*size:=by rw[<-Nat.add_mul];congr 1;omega
     omega
    ·rw[<-hy,<-e4,List.drop_take,List.take_take,List.drop_drop]
     have:N*size<=n*size-L*size:=by
      have:(L+N)*size<=n*size:=Nat.mul_le_mul_right _ hN;rw[Nat.add_mul] at this;omega
     rw[Nat.min_eq_left this]
 ·obtain rfl:L=0:=by omega
  obtain rfl:N=0:=by omega
  refine ⟨em,.inl I,.inr ⟨I,I,?_,I⟩⟩;rw[<-hy];simp
section rules
variable {P:Program} {T:Tab} {w0:World} {ops:Array Oper} {Q:Exit->Act->World->Prop} {rest rest':List Oper} {n:Nat} {l l':Sl} {K:PH} {hs:List PH}
theorem appq(hT:TabOK P T)(k i:Nat){d:Nat}{si:SlI}{ao ao2:Option Addr}{n1 c1 n2 c2:Nat}{h h2:PH}{xs news:List Value}(h0:apAt T ops n k rest l=some (d,si,(ao,n1,c1),(ao2,n2,c2),rest',l'))
  (hi:hs[i]?=some h) (o:OwnZ h ao n1 c1 si.elem si.size xs) (hm:In K hs h2) (x:IsS h2 ao2 n2 c2 si.size news) (hz:si.zero.cells.size=si.size) (hsz:0<si.size) (h1:∀ u∈news,u.oneCell'=true) (hn2:0<n2)
  (hb:(n1+n2)*si.bytes<=140737488355328) (h63:n1+n2<=maxLen)
  (hk:∀ ao' cap' h',Own h' ao' (n1+n2) cap' si.elem si.size (xs++news)->WL P w0 ops Q rest' n ((d,.slice ao' (n1+n2) cap')::l') K (hs.set i h')):WL P w0 ops Q rest n l K hs:=by
 rcases o with o|⟨rfl,rfl,rfl,rfl⟩
 ·exact app hT k i h0 hi o hm x hz hsz h1 hb h63 hk
 ·refine appf hT k h0 (.inl I) (IsS.nil _ _ _ _) (fun _=>I) hm x hz hsz qo hb h63 fun ao' cap' h' o'=>?_;have p:(h'::hs).Perm (em::hs.set i h'):=((perm_front hs i em hi).cons h').trans ((List.Perm.swap em h' _).trans ((perm_set hs i em h' hi).cons em));exact WL.perm p (WL.drop (hk ao' cap' h' o'))
end rules
def SlZ{α:Type}(size e:Nat)(R:List Value->α->Prop)(h:PH)(ao:Option Addr)(n cap:Nat)(xs:List α):Prop:=
 ∃ css:List (List Value),n=xs.length/\OwnZ h ao n cap e size css.flatten/\Al2 R css xs/\∀ d∈css,d.length=size
section slz
variable {α:Type} {R R':List Value->α->Prop} {size e:Nat} {h:PH} {ao:Option Addr} {n cap:Nat} {xs:List α}
theorem SlZ.nil(size e:Nat):SlZ size e R em none 0 0 []:=⟨[],rfl,OwnZ.nil e size,trivial,by simp⟩
theorem SlZ.slS(x:SlZ size e R h ao n cap xs):SlS size R h ao n cap xs:=by
 obtain ⟨css,h1,h2,h3,h4⟩:=x;exact ⟨css,h1,h2.isS,h3,h4⟩
theorem SlZ.imp(hR:∀ c x,R c x->R' c x)(x:SlZ size e R h ao n cap xs):SlZ size e R' h ao n cap xs:=by
 obtain ⟨css,h1,h2,h3,h4⟩:=x;exact ⟨css,h1,h2,h3.imp hR,h4⟩
theorem SlZ.caps(x:SlZ size e R h ao n cap xs):n<=cap:=let ⟨_,_,h2,_⟩:=x;h2.caps
theorem SlZ.cut(x:SlZ size e R h ao n cap xs)(L N:Nat)(hN:L+N<=n):∃ h',(h'=h\/h'=em)/\SlZ size e R h' (cutA ao cap L size) N (cap-L) ((xs.drop L).take N):=by
 obtain ⟨css,h1,h2,h3,h4⟩:=x;have hl:css.length=n:=by rw[h3.len,h1]
 obtain ⟨h',g1,g2⟩:=h2.cut L N hN (ys:=((css.drop L).take N).flatten) (by rw[flat_drop L h4,flat_take N (fun d hd=>h4 d (List.mem_of_mem_drop hd))]);refine ⟨h',g1,(css.drop L).take N,by rw[List.length_take,List.length_drop];omega,g2,(h3.drop L).take N,fun d hd=>h4 d (List.mem_of_mem_drop (List.mem_of_mem_take hd))⟩
theorem appSq{P:Program}{T:Tab}{w0:World}{ops:Array Oper}{Q:Exit->Act->World->Prop}{rest rest':List Oper}{n:Nat}{l l':Sl}{K:PH}{hs:List PH}
  (hT:TabOK P T) (k i:Nat) {d:Nat} {si:SlI} {ao:Option Addr} {n1 c1 b:Nat} {h:PH} {xs:List α} (c:List Value) (x:α) (h0:apAt T ops n k rest l=some (d,si,(ao,n1,c1),(some ⟨b,0,none⟩,1,1),rest',l'))
  (h2:hs[0]?=some (pt b c.toArray si.elem)) (hi:hs[i]?=some h) (o:SlZ si.size si.elem R h ao n1 c1 xs) (hc:R c x) (hl:c.length=si.size) (h1:∀ u∈c,u.oneCell'=true) (hz:si.zero.cells.size=si.size) (hsz:0<si.size) (hb:(n1+1)*si.bytes<=140737488355328) (h63:n1+1<=maxLen)
  (hk:∀ ao' cap' h',SlZ si.size si.elem R h' ao' (n1+1) cap' (xs++[x])->WL P w0 ops Q rest' n ((d,.slice ao' (n1+1) cap')::l') K (hs.set i h')):WL P w0 ops Q rest n l K hs:=by
 obtain ⟨css,q1,q2,q3,q4⟩:=o
 have xv:IsS (pt b c.toArray si.elem) (some ⟨b,0,none⟩) 1 1 si.size c:=by
  simpa using (Own.ofPt (b:=b) (c:=c.toArray) (e:=si.elem) (n:=1) (size:=si.size) (by simpa using hl) (by simp[maxLen])).isS
 refine appq hT k i h0 hi q2 (.inr ⟨0,h2⟩) xv hz hsz h1 qo hb h63 fun ao' cap' h' o'=>hk ao' cap' h' (⟨css++[c],by simp[q1],.inl (by simpa using o'),q3.append ⟨hc,trivial⟩,?_⟩);intro d hd;rcases List.mem_append.1 hd with hd|hd
 ·exact q4 d hd
 ·simp only[List.mem_singleton] at hd;rw[hd];exact hl
end slz
def waitsP(ops:Array Oper)(z:Nat):List Nat->Nat->Bool
 | [],i=>Region.waitsFor .any ops z i
 | y::ys,i=>Region.waitsFor .any ops z y && waitsP ops y ys i
theorem waits1{ops:Array Oper}{L:Array Bool}(c:Closed .any ops L){z i:Nat}(hw:Region.waitsFor .any ops z i=true)(hz:L.getD z false=true):L.getD i false=true:=by
 obtain ⟨oj,hoj,e,he,hbb,hon⟩:=Region.waitsFor_spec hw;have:=c.2 z oj hoj hz e he hbb
 rwa [hon] at this
theorem waitsP_spec{ops:Array Oper}{L:Array Bool}(c:Closed .any ops L):∀ (ys:List Nat) {z i:Nat},waitsP ops z ys i=true->L.getD z false=true->L.getD i false=true
 | [],z,i,hw,hz=>waits1 c hw hz
 | y::ys,z,i,hw,hz=>by
  simp only[waitsP,Bool.and_eq_true] at hw;exact waitsP_spec c ys hw.2 (waits1 c hw.1 hz)
theorem closed_waitsP{ops:Array Oper}{L:Array Bool}{i z:Nat}(c:Closed .any ops L)(ys:List Nat)(hi:L.getD i true=false)(hw:waitsP ops z ys i=true):L.getD z false=false:=by
 cases hz:L.getD z false with
 | false=>rfl
 | true=>
  have:=waitsP_spec c ys hw hz;rcases Nat.lt_or_ge i L.size with h'|h'
  ·simp[h'] at hi this;rw[hi] at this;cases this
  ·simp[Array.getElem?_eq_none h'] at this
section path
variable {P:Program} {T:Tab} {w0:World} {ops:Array Oper} {Q:Exit->Act->World->Prop} {plan plan':List Nat} {z:Nat} {listed listed':Array Bool} {n:Nat} {l l':Sl} {K K0:PH} {hs A:List PH}
theorem dldt(ys:List Nat)(hT:TabOK P T)(hsel:Region.noSelect ops=true)(k:Nat){p d:Nat}{a:Addr}{v:Value}{h:PH}(h0:dldwAt T ops n z k plan listed l=some (p,d,a,plan',listed',l'))(hwf:waitsP ops z ys (p / 2)=true)(hm:In K0 A h)(hc:Cell h a v)
  (hk:WA P w0 ops Q K0 A z plan' listed' n ((d,v)::l') K hs):WA P w0 ops Q K0 A z plan listed n l K hs:=by
 unfold dldwAt at h0
 split at h0
 ·rename_i p' o r L' l2 hh
  split at h0
  ·rename_i dd t x hp hz hg hd hop
   split at h0
   ·rename_i kd a' hb hkd hx;cases h1:kd.one with
    | false=>simp[h1] at h0
    | true=>
     simp only[h1,cond_true,Option.some.injEq,Prod.mk.injEq] at h0;obtain ⟨rfl,rfl,rfl,rfl,rfl,rfl⟩:=h0;obtain ⟨g1,g2⟩:=headAt_spec hh;refine WA.pures hT hsel k g1 ?_;have hp2:p'=2*(p' / 2):=by have:=Nat.eq_of_beq_eq_true hp;omega
     rw[hp2];refine WA.look g2 hsel hz hd hb (fun A' ha=>.inl ⟨gOK_wanted ha hg,fun w hw=>?_⟩) hk;obtain ⟨L,hcl,hun,hst⟩:=hw;have hcell:=(hst (closed_waitsP hcl ys hun hwf)).cell hm hc;have h2:=run_load1 (P:=P) hT hkd h1 hcell;simp only[execOp,hop,ha.ev hx];simp[h2]
   ·simp at h0
  ·simp at h0
 ·simp at h0
theorem dldtp(ys:List Nat)(hT:TabOK P T)(hsel:Region.noSelect ops=true)(k i:Nat){p d b off ty:Nat}{v:Value}{c:Array Value}{fr:Nat×Nat}(h0:dldwAt T ops n z k plan listed l=some (p,d,⟨b,off,none⟩,plan',listed',l'))(hwf:waitsP ops z ys (p / 2)=true)
  (hi:A[i]?=some (pt b c ty fr)) (hv:c[off]?=some v) (hk:WA P w0 ops Q K0 A z plan' listed' n ((d,v)::l') K hs):WA P w0 ops Q K0 A z plan listed n l K hs:=
 dldt ys hT hsel k h0 hwf (.inr ⟨i,hi⟩) (Cell.pt hv) hk
end path
end
section
def segA(num:Nat):Int:=((4*num+1:Nat):Int)
def usedB(s:List UInt8):Nat:=min (s.getD 0 0).toNat 63
def wtx(D:Dk)(num:Nat):Nat->Nat->List UInt8
 | 0,_=>[]
 | f+1,n=>match D.read (segA num) n with
  | none=>[]
  | some s=>(s.drop 1).take (usedB s)++(if usedB s<63 then [] else wtx D num f (n+1))
def wtext(D:Dk)(num:Nat):List UInt8:=wtx D num 65537 0
def wTop:Nat:=4611686018427387904
def wMany:Nat:=1152921504606846976
def wrecs:Nat->Rd->List (List UInt8)
 | 0,_=>[]
 | f+1,r=>if (rBytes 512 r).2.2=0 then (rBytes 512 r).1::wrecs f (rBytes 512 r).2 else []
structure WOp where
 num:Nat
 idx:Nat
 full:Nat
 rest:List UInt8
structure Wl where
 op:Option WOp
 first:Nat
 recs:List (List UInt8)
 old:List (Nat×Nat)
 next:Nat
 code:Int
def Wl.follows(W:Wl)(n idx:Nat):Wl×Bool:=
 if W.old.length=0\/idx<W.first then ({ W with first:=idx,recs:=[],old:=W.old++[(n,idx)] },true)
 else if W.recs.length<idx-W.first then (W,false)
 else ({ W with recs:=W.recs.take (idx-W.first),old:=W.old++[(n,idx)] },true)
def wread(D:Dk)(n:Nat)(W:Wl):Wl×Bool×Bool:=
 if (rUint wTop (wtext D n,0)).2.2≠0 then (W,true,true)
 else if (W.follows n (rUint wTop (wtext D n,0)).1).2=false then ((W.follows n (rUint wTop (wtext D n,0)).1).1,false,false)
 else ({ (W.follows n (rUint wTop (wtext D n,0)).1).1 with recs:=(W.follows n (rUint wTop (wtext D n,0)).1).1.recs++wrecs ((wtext D n).length+1) (rUint wTop (wtext D n,0)).2 },true,false)
def wnums(ars:List Int):List Nat:=(ars.filter fun a=>decide (a % 4=1)).map fun a=>a.toNat / 4
def wnext(ars:List Int):Nat:=(wnums ars).foldl (fun _ n=>n+1) 0
def wstep(D:Dk)(fr n:Nat)(W:Wl):Wl×Bool×Bool:=if n<fr then (W,true,true) else wread D n W
def wscan(D:Dk)(fr:Nat):List Nat->Wl->List Nat->Wl×List Nat×Bool
 | [],W,g=>(W,g,true)
 | n::r,W,g=>
  if (wstep D fr n W).2.1=false\/wTop<(wstep D fr n W).1.first+(wstep D fr n W).1.recs.length then ((wstep D fr n W).1,if (wstep D fr n W).2.2 then g++[n] else g,false)
  else wscan D fr r (wstep D fr n W).1 (if (wstep D fr n W).2.2 then g++[n] else g)
def wset1(D:Dk)(g:List Nat)(n:Nat):Dk×Int:=if n∈g then D.free (segA n) else D.sync (segA n)
def wsettle(g:List Nat):List Nat->Dk->Dk×Int
 | [],D=>(D,0)
 | n::r,D=>if (wset1 D g n).2=0 then wsettle g r (wset1 D g n).1 else wset1 D g n
def wl0(fr first:Nat)(ars:List Int):Wl:=⟨none,first,[],[],max (wnext ars) fr,0⟩
def wOpen(D:Dk)(fr first:Nat):Option Wl×Dk×Int:=
 if D.dead=true then (none,D,30)
 else if wTop<first then (none,D,52)
 else if wMany<(wl0 fr first (areasL D)).next then (none,D,52)
 else if (wscan D fr (wnums (areasL D)) (wl0 fr first (areasL D)) []).2.2=false then (none,D,52)
 else if (wsettle (wscan D fr (wnums (areasL D)) (wl0 fr first (areasL D)) []).2.1 (wnums (areasL D)) D).2≠0 then (none,wsettle (wscan D fr (wnums (areasL D)) (wl0 fr first (areasL D)) []).2.1 (wnums (areasL D)) D)
 else (some (wscan D fr (wnums (areasL D)) (wl0 fr first (areasL D)) []).1,(wsettle (wscan D fr (wnums (areasL D)) (wl0 fr first (areasL D)) []).2.1 (wnums (areasL D)) D).1,0)
def wrL:Nat->WOp->Dk->WOp×Dk×Int
 | 0,o,D=>(o,D,0)
 | f+1,o,D=>
  if (D.write (segA o.num) o.full (UInt8.ofNat (min o.rest.length 63)::o.rest.take (min o.rest.length 63))).2≠0\/o.rest.length<63 then
   (o,(D.write (segA o.num) o.full (UInt8.ofNat (min o.rest.length 63)::o.rest.take (min o.rest.length 63))).1,(D.write (segA o.num) o.full (UInt8.ofNat (min o.rest.length 63)::o.rest.take (min o.rest.length 63))).2)
  else if o.rest.length=63 then ({ o with full:=o.full+1,rest:=[] },(D.write (segA o.num) o.full (UInt8.ofNat (min o.rest.length 63)::o.rest.take (min o.rest.length 63))).1,0)
  else wrL f { o with full:=o.full+1,rest:=o.rest.drop 63 } (D.write (segA o.num) o.full (UInt8.ofNat (min o.rest.length 63)::o.rest.take (min o.rest.length 63))).1
def wrO(o:WOp)(b:List UInt8)(D:Dk):WOp×Dk×Int:=wrL (o.rest.length+b.length+1) { o with rest:=o.rest++b } D
def Wl.sync(W:Wl)(D:Dk):Wl×Dk:=
 if W.code≠0 then (W,D) else match W.op with
 | none=>(W,D)
 | some o=>({ W with code:=(D.sync (segA o.num)).2 },(D.sync (segA o.num)).1)
def Wl.begin(W:Wl)(i:Nat)(D:Dk):Wl×Dk:=
 if (W.sync D).1.code≠0 then W.sync D
 else ({ (W.sync D).1 with op:=some (wrO ⟨W.next,i,0,[]⟩ (uint i) (W.sync D).2).1,next:=W.next+1,old:=W.old++[(W.next,i)],code:=(wrO ⟨W.next,i,0,[]⟩ (uint i) (W.sync D).2).2.2 },(wrO ⟨W.next,i,0,[]⟩ (uint i) (W.sync D).2).2.1)
def wNeed:Option WOp->Bool
 | none=>true
 | some o=>decide (16<=o.full)
def wLay(W:Wl)(b:List UInt8)(D:Dk):Wl×Dk×Int:=match W.op with
 | none=>(W,D,W.code)
 | some o=>({ W with op:=some (wrO o (putBytes b) D).1,code:=(wrO o (putBytes b) D).2.2,recs:=if (wrO o (putBytes b) D).2.2=0 then W.recs++[b] else W.recs },(wrO o (putBytes b) D).2.1,(wrO o (putBytes b) D).2.2)
def Wl.append(W:Wl)(b:List UInt8)(D:Dk):Wl×Dk×Int:=
 if W.code≠0 then (W,D,W.code)
 else if 512<b.length then (W,D,50)
 else if W.first+W.recs.length=wTop then (W,D,51)
 else if wNeed W.op=true then
  (if (W.begin (W.first+W.recs.length) D).1.code≠0 then ((W.begin (W.first+W.recs.length) D).1,(W.begin (W.first+W.recs.length) D).2,(W.begin (W.first+W.recs.length) D).1.code)
   else wLay (W.begin (W.first+W.recs.length) D).1 b (W.begin (W.first+W.recs.length) D).2)
 else wLay W b D
def Wl.truncate(W:Wl)(i:Nat)(D:Dk):Wl×Dk×Int:=
 if W.code≠0 then (W,D,W.code)
 else if i<W.first\/W.recs.length<i-W.first then (W,D,51)
 else if i-W.first=W.recs.length then (W,D,0)
 else (if (W.begin i D).1.code=0 then { (W.begin i D).1 with recs:=W.recs.take (i-W.first) } else (W.begin i D).1,(W.begin i D).2,(W.begin i D).1.code)
def wfreed(old:List (Nat×Nat))(i:Nat):Bool:=(old.drop 1).any fun s=>decide (s.2<=i)
def wfree(i:Nat):Nat->List (Nat×Nat)->Dk->List (Nat×Nat)×Dk×Int
 | 0,old,D=>(old,D,0)
 | f+1,old,D=>if 1<old.length/\wfreed old i=true then
   (if (D.free (segA (old.headD (0,0)).1)).2≠0 then (old,(D.free (segA (old.headD (0,0)).1)).1,(D.free (segA (old.headD (0,0)).1)).2)
    else wfree i f (old.drop 1) (D.free (segA (old.headD (0,0)).1)).1)
  else (old,D,0)
def Wl.compact1(W:Wl)(i:Nat)(D:Dk):Wl×Dk:=if i=W.first+W.recs.length then W.begin i D else (W,D)
def Wl.compact2(W:Wl)(i:Nat)(D:Dk):Wl×Dk:=(W.compact1 i D).1.sync (W.compact1 i D).2
def Wl.compact(W:Wl)(i:Nat)(D:Dk):Wl×Dk×Int:=
 if W.code≠0 then (W,D,W.code)
 else if i<=W.first then (W,D,0)
 else if W.recs.length<i-W.first then (W,D,51)
 else if (W.compact2 i D).1.code≠0 then ((W.compact2 i D).1,(W.compact2 i D).2,(W.compact2 i D).1.code)
 else if (wfree i ((W.compact2 i D).1.old.length+1) (W.compact2 i D).1.old (W.compact2 i D).2).2.2≠0 then
  ({ (W.compact2 i D).1 with old:=(wfree i ((W.compact2 i D).1.old.length+1) (W.compact2 i D).1.old (W.compact2 i D).2).1,code:=(wfree i ((W.compact2 i D).1.old.length+1) (W.compact2 i D).1.old (W.compact2 i D).2).2.2 },(wfree i ((W.compact2 i D).1.old.length+1) (W.compact2 i D).1.old (W.compact2 i D).2).2.1,(wfree i ((W.compact2 i D).1.old.length+1) (W.compact2 i D).1.old (W.compact2 i D).2).2.2)
 else ({ (W.compact2 i D).1 with old:=(wfree i ((W.compact2 i D).1.old.length+1) (W.compact2 i D).1.old (W.compact2 i D).2).1,recs:=W.recs.drop (i-W.first),first:=i },(wfree i ((W.compact2 i D).1.old.length+1) (W.compact2 i D).1.old (W.compact2 i D).2).2.1,0)
def wreset:List Int->Dk->Dk×Int
 | [],D=>(D,0)
 | a::r,D=>if a % 4=1 then (if (D.free a).2=0 then wreset r (D.free a).1 else D.free a) else wreset r D
def Wl.reset(W:Wl)(first:Nat)(D:Dk):Wl×Dk×Int:=
 if W.code≠0 then (W,D,W.code)
 else if wTop<first then (W,D,51)
 else if (wreset (areasL D) D).2≠0 then ({ W with code:=(wreset (areasL D) D).2 },wreset (areasL D) D)
 else ({ W with op:=none,old:=[],recs:=[],first:=first },(wreset (areasL D) D).1,0)
end
section
def leB:Nat->Nat->List UInt8
 | 0,_=>[]
 | k+1,n=>UInt8.ofNat n::leB k (n / 256)
theorem leB_length:∀ (k n:Nat),(leB k n).length=k
 | 0,_=>rfl
 | k+1,n=>by simp[leB,leB_length k]
theorem leB_get:∀ (k n i:Nat),i<k->(leB k n)[i]?=some (UInt8.ofNat (n / 256 ^ i))
 | 0,_,_,h=>by omega
 | k+1,n,0,_=>by simp[leB]
 | k+1,n,i+1,h=>by
  rw[leB,List.getElem?_cons_succ,leB_get k (n / 256) i qo,Nat.div_div_eq_div_mul,Nat.pow_succ,Nat.mul_comm]
theorem un4_leB:∀ (k n:Nat),n<256 ^ k->un4 (leB k n)=n
 | 0,n,h=>by simp at h;simp[leB,un4,h]
 | k+1,n,h=>by
  have h1:n / 256<256 ^ k:=by rw[Nat.div_lt_iff_lt_mul (by decide)];rw[Nat.pow_succ] at h;exact h
  rw[leB];simp only[un4,un4_leB k _ h1]
  simp
  omega
def sectH(n:Nat)(v:List UInt8):List UInt8:=leB 8 n++(UInt8.ofNat v.length::(v++List.replicate (51-v.length) 0))
def sect(n:Nat)(v:List UInt8):List UInt8:=sectH n v++leB 4 (crc (sectH n v)).toNat
theorem sectH_length{n:Nat}{v:List UInt8}(h:v.length<=48):(sectH n v).length=60:=by simp[sectH,leB_length];omega
theorem sect_length{n:Nat}{v:List UInt8}(h:v.length<=48):(sect n v).length=64:=by simp[sect,leB_length,sectH_length h]
def sltSay(b:List UInt8)(i:Nat):Nat×List UInt8:=
 if 48<(b.getD 8 0).toNat then (0,[])
 else if un4 (b.take 8) % 2=i/\b=sect (un4 (b.take 8)) ((b.drop 9).take (b.getD 8 0).toNat) then (un4 (b.take 8),(b.drop 9).take (b.getD 8 0).toNat) else (0,[])
def sltRd(D:Dk)(area i:Nat):Nat×List UInt8:=match D.read area i with
 | none=>(0,[])
 | some b=>sltSay b i
structure Slt where
 num:Nat
 val:List UInt8
def Slt.pick(s:Slt)(r:Nat×List UInt8):Slt:=if s.num<r.1 then ⟨r.1,r.2⟩ else s
def sltOpen(D:Dk)(area:Nat):Slt:=(Slt.pick ⟨0,[]⟩ (sltRd D area 0)).pick (sltRd D area 1)
def Slt.save(s:Slt)(area:Nat)(D:Dk)(v:List UInt8):Slt×Dk×Int:=
 if 48<v.length\/s.num=18446744073709551615 then (s,D,40)
 else if (D.write area (((s.num+1) % 2:Nat):Int) (sect (s.num+1) v)).2=0 then
  (if ((D.write area (((s.num+1) % 2:Nat):Int) (sect (s.num+1) v)).1.sync area).2=0 then ⟨s.num+1,v⟩ else s,((D.write area (((s.num+1) % 2:Nat):Int) (sect (s.num+1) v)).1.sync area).1,((D.write area (((s.num+1) % 2:Nat):Int) (sect (s.num+1) v)).1.sync area).2)
 else (s,(D.write area (((s.num+1) % 2:Nat):Int) (sect (s.num+1) v)).1,(D.write area (((s.num+1) % 2:Nat):Int) (sect (s.num+1) v)).2)
end
section
theorem bA_isS{g ty:Nat}{A B C:List UInt8}{off n cap:Nat}(ho:off=A.length)(hn:n=B.length)(hc:n<=cap):IsS (pt g (bv (A++B++C)).toArray ty) (some ⟨g,off,none⟩) n cap 1 (bv B):=by
 subst ho;subst hn;refine ⟨by simp[bv],hc,fun j u hu=>⟨_,I,?_⟩⟩
 have hj:j<B.length:=by
  have:=(List.getElem?_eq_some_iff.1 hu).1;simpa[bv] using this
 rw[add_mk];refine Cell.pt ?_;rw[List.getElem?_toArray,bv_append,bv_append,List.append_assoc,List.getElem?_append_right (by simp[bv]),List.getElem?_append_left (by simpa[bv] using hj)];simpa[bv] using hu
theorem bA_get{l:List UInt8}{i:Nat}(h:i<l.length):(bv l).toArray[i]?=some (.int .u8 (l[i].toNat:Nat)):=by rw[List.getElem?_toArray,bv_get h]
theorem bA_set(l:List UInt8)(i m:Nat):(bv l).toArray.setIfInBounds i (.int .u8 (m % 256:Nat))=(bv (l.set i (UInt8.ofNat m))).toArray:=by
 rw[List.setIfInBounds_toArray];unfold bv;rw[List.map_set];have:(UInt8.ofNat m).toNat=m % 256:=by simp
 rw[this]
theorem leB_step{k n i:Nat}{B:List UInt8}(hB:B.length=k)(hi:i<k):((leB k n).take i++B.drop i).set i (UInt8.ofNat (n / 2 ^ (8*i)))=(leB k n).take (i+1)++B.drop (i+1):=by
 have hl:((leB k n).take i).length=i:=by rw[List.length_take,leB_length];omega
 have hp:(2:Nat) ^ (8*i)=256 ^ i:=by rw[Nat.pow_mul]
 rw[List.set_append_right _ _ qo,hl,Nat.sub_self,List.drop_eq_getElem_cons qo,List.set_cons_zero,hp,List.take_add_one,leB_get k n i hi]
 simp
theorem cpyAt{X v Z W:List UInt8}{k:Nat}(hk:k=X.length)(hz:Z.length=v.length):(List.take k (bv (X++(Z++W)))++List.take (v.length*1) (bv v)++List.drop (k+v.length*1) (bv (X++(Z++W)))).toArray=(bv (X++(v++W))).toArray:=by
 subst hk
 congr 1
 have hb:∀ l:List UInt8,(bv l).length=l.length:=fun l=>by simp[bv]
 have h1:List.take (v.length*1) (bv v)=bv v:=List.take_of_length_le (by rw[hb];omega);have h2:List.take X.length (bv (X++(Z++W)))=bv X:=by rw[bv_append,List.take_append_of_le_length (by rw[hb];exact Nat.le_refl _),List.take_of_length_le (by rw[hb];exact Nat.le_refl _)]
 have h3:List.drop (X.length+v.length*1) (bv (X++(Z++W)))=bv W:=by
  rw[<-List.append_assoc,bv_append,List.drop_append,hb,List.drop_of_length_le (by rw[hb,List.length_append];omega),List.nil_append,List.length_append,show X.length+v.length*1-(X.length+Z.length)=0 from by omega,List.drop_zero]
 rw[h1,h2,h3,bv_append,bv_append,List.append_assoc]
attribute [local irreducible] Code.wp wpList Calls
theorem layC{w0:World}{K:PH}{hs:List PH}(g off k cap ty n:Nat)(A B C:List UInt8)(ho:off=A.length)(hB:B.length=k)(hk:k<=8)(hc:k<=cap):
  Ct Tryz.prog w0 146 [.slice (some ⟨g,off,none⟩) k cap,.int .u64 (n:Nat)] K (pt g (bv (A++B++C)).toArray ty::hs)
   (fun v K' hs'=>K'=K/\hs'=pt g (bv (A++leB k n++C)).toArray ty::hs):=by
 refine enter Tryz.func146 qk I I I<|sq (rg<|fin hT 3 I (th<|bk ?_))
 refine loop (σ:=Nat) (fun i=>[(0,.slice (some ⟨g,off,none⟩) k cap),(1,.int .u64 (n:Nat)),(6,.int .i64 (k:Nat)),(7,.int .i64 (i:Nat))]) (fun _=>K) (fun i=>pt g (bv (A++((leB k n).take i++B.drop i)++C)).toArray ty::hs)
  (fun i=>i<=k) (fun i=>k-i) 0 (Nat.zero_le _) ⟨rfl,rfl,rfl,rfl,trivial⟩ rfl (by simp) ?_
 intro i hi;refine sq (rg (cmpS hT 0 I fun b8 h8=>fin hT 0 I (th (sq (ifP h8 I (fun e2=>?_) (fun e2=>?_))))))
 ·have hik:i<k:=by omega
  obtain ⟨M,hM⟩:∃ M,M=(leB k n).take i++B.drop i:=⟨_,rfl⟩;have hMl:M.length=k:=by rw[hM,List.length_append,List.length_take,List.length_drop,leB_length];omega
  rw[<-hM];refine sk (th (sq (bk (sq (rg (fin hT 2 I (th (rg (ar hT 4 I (i64w (x:=((8*i:Nat):Int)) qo) (shf hT 0 I qo (.inr ⟨I,u64shr n _ (8*i) I qo⟩) (ar hT 0 I (u8m _) (ixs hT 0 i I I (bA_isS (g:=g) (ty:=ty) (C:=C) ho hMl.symm hc) hik (by decide) fun a17 ha=>?_))))))))))));cases ha;simp only[add_mk,Nat.mul_one];refine stp hT 0 0 I I (bA_get (l:=A++M++C) (i:=off+i) (by simp only[List.length_append];omega)) rfl (fin hT 0 rfl (bl (th (rg (ar hT 0 rfl (i64w (x:=((i+1:Nat):Int)) qo) (fin hT 1 rfl (again (x:=i) (i+1) ⟨rfl,rfl,rfl,rfl,trivial⟩ rfl ?_ hik qo)))))));show pt g _ ty::hs=_;rw[bA_set,List.set_append_left _ _ (by rw[List.length_append];omega),List.set_append_right _ _ qo,show off+i-A.length=i from by omega,hM,leB_step hB hik]
 ·refine ex (xt (xt (xb ?_)));obtain rfl:i=k:=by omega
  refine end0 I ⟨I,?_⟩;rw[List.take_of_length_le (by rw[leB_length];omega),List.drop_of_length_le qo,List.append_nil]
theorem sectorC{w0:World}{K hv:PH}{hs:List PH}(n:Nat)(v:List UInt8)(ao:Option Addr)(cap:Nat)(hl:v.length<=48)(hin:In K hs hv)(x:IsS hv ao v.length cap 1 (bv v)):
  Ct Tryz.prog w0 123 [.int .u64 (n:Nat),.slice ao v.length cap] K hs (fun u K' hs'=>K'=K/\hs'=hs/\u=.agg (bv (sect n v)).toArray):=by
 have hHl:=sectH_length (n:=n) hl;refine enter Tryz.func123 qk I I I (sq (rg (al hT 0 (.agg (bv (List.replicate 64 0)).toArray) I qk fun b4=>fin hT 0 I (th (sq (rg (al hT 0 (.agg (bv (List.replicate 64 0)).toArray) I qk fun b5=>fin hT 0 I (th (sq (rg (sla hT 0 (sz:=1) 0 8 I I Tryz.underlying191 qk I I (by decide) (by decide) ?_)))))))))));simp only[add_mk,Nat.zero_mul,Nat.add_zero];refine cl hT 1 I (layC b5 0 8 64 191 n [] (List.replicate 8 0) (List.replicate 56 0) I (by simp) (by decide) (by decide)) ?_;rintro v8 K8 hs8 ⟨rfl,rfl⟩;refine fin hT 0 I (th (sq (rg (ar hT 2 I (u8m _) (ixa hT 0 (sz:=1) 8 I Tryz.underlying191 qk I (by decide) ?_)))));simp only[add_mk,Nat.zero_add,Nat.mul_one];refine stp hT 0 0 I I (bA_get (l:=[]++leB 8 n++List.replicate 56 0) (i:=8) (by simp[leB_length])) I ?_
 refine WL.hs (pt b5 (bv (leB 8 n++(UInt8.ofNat v.length::List.replicate 55 0))).toArray 191::pt b4 (bv (List.replicate 64 0)).toArray 191::hs) (congrArg (fun z=>pt b5 z 191::pt b4 (bv (List.replicate 64 0)).toArray 191::hs) (by
  rw[bA_set,List.nil_append,List.set_append_right _ _ (by rw[leB_length];exact Nat.le_refl _),leB_length]
  rfl)) ?_
 refine fin hT 0 I (th (sq (rg (sla hT 0 (sz:=1) 9 55 I I Tryz.underlying191 qk I I (by decide) (by decide) ?_))));simp only[add_mk,Nat.zero_add,Nat.mul_one];refine cpy hT 1 0 v.length I I I (In.cons (In.cons hin)) x qo (fun u hu=>bv_one v u (List.mem_of_mem_take hu)) (by show 9+v.length*1<=(bv (leB 8 n++(UInt8.ofNat v.length::List.replicate 55 0))).toArray.size;simp[bv,leB_length];omega) ?_
 refine WL.hs (pt b5 (bv (sectH n v++List.replicate 4 0)).toArray 191::pt b4 (bv (List.replicate 64 0)).toArray 191::hs) (congrArg (fun z=>pt b5 z 191::pt b4 (bv (List.replicate 64 0)).toArray 191::hs) (by
  have e2:List.replicate 55 (0:UInt8)=List.replicate v.length 0++(List.replicate (51-v.length) 0++List.replicate 4 0):=by
   rw[List.replicate_append_replicate,List.replicate_append_replicate]
   congr 1
   omega
  have e3:leB 8 n++(UInt8.ofNat v.length::List.replicate 55 0)=(leB 8 n++[UInt8.ofNat v.length])++(List.replicate v.length 0++(List.replicate (51-v.length) 0++List.replicate 4 0)):=by rw[<-e2];simp
  rw[e3];refine (cpyAt (by simp[leB_length]) (by simp)).trans ?_;unfold sectH
  simp)) ?_
 refine fin hT 0 I (th (sq (rga [] 5 [0,2,5,6,9] (by simp) qk qk (dsla hT qk 0 (sz:=1) 60 4 I I Tryz.underlying191 qk I I (by decide) (by decide) (dsla hT qk 0 (sz:=1) 0 60 I I Tryz.underlying191 qk I I (by decide) (by decide) ?_)))));simp only[add_mk,Nat.zero_add,Nat.mul_one,Nat.zero_mul,Nat.sub_zero,Nat.reduceSub,Nat.reduceAdd];refine dact hT qk 0 I ?_
 have xH:IsS (pt b5 (bv (sectH n v++List.replicate 4 0)).toArray 191) (some ⟨b5,0,none⟩) (sectH n v).length 64 1 (bv (sectH n v)):=by
  have:=bA_isS (g:=b5) (ty:=191) (A:=[]) (B:=sectH n v) (C:=List.replicate 4 0) (off:=0) (n:=(sectH n v).length) (cap:=64) rfl rfl qo;simpa using this
 have hsum:=sumC (w0:=w0) (K:=K8) (hs:=pt b5 (bv (sectH n v++List.replicate 4 0)).toArray 191::pt b4 (bv (List.replicate 64 0)).toArray 191::hs) (some ⟨b5,0,none⟩) 64 (sectH n v) (.inr ⟨0,rfl⟩) xH qo;rw[hHl] at hsum;refine cl hT 0 I hsum ?_;rintro v18 K18 hs18 ⟨rfl,rfl,rfl⟩;refine dnex [] (by simp) (by simp) I ?_;have hcl:=(crc (sectH n v)).isLt;refine dar hT qk 0 I (u64w qo) (dact hT qk 0 I ?_);have hlay:=layC (w0:=w0) (K:=K18) (hs:=pt b4 (bv (List.replicate 64 0)).toArray 191::hs) b5 60 4 4 191 (crc (sectH n v)).toNat (sectH n v) (List.replicate 4 0) [] hHl.symm (by simp) (by decide) (by decide);rw[List.append_nil,List.append_nil] at hlay;refine cl hT 0 I hlay ?_;rintro v20 K20 hs20 ⟨rfl,rfl⟩;have hsl:(sect n v).length=64:=sect_length hl;have hss:(bv (sect n v)).toArray.size=64:=by simp[bv,hsl]
 exact dnex [] (by simp) (by simp) I (dend hT qk 0 I (th (sq (rg (ldS hT 0 0 I I (by show aggOK Tryz.prog _ (bv (sect n v)).toArray.size=true;rw[hss];kernel_rfl) (stS hT 0 1 rfl rfl (by show _=some (bv (sect n v)).toArray.size;rw[hss];kernel_rfl) (by show (bv (sect n v)).toArray.size=_;rw[hss];rfl) (by simp only[Array.all_toList,List.all_eq_true];first|exact bv_one (sect n v)|(simp;intro u hu;exact bv_one (sect n v) u hu)) (fin hT 0 I (th (rt (WQ.drop (retcA 0 1 I I I (by show aggOK Tryz.prog _ (bv (sect n v)).toArray.size=true;rw[hss];kernel_rfl) ⟨rfl,rfl,rfl⟩)))))))))))
end
section
attribute [local irreducible] Code.wp wpList Calls
theorem equalC{w0:World}{K h1 h2:PH}{hs:List PH}(a1 a2:Option Addr)(c1 c2:Nat)(l1 l2:List UInt8)(m1:In K hs h1)(m2:In K hs h2)(x1:IsS h1 a1 l1.length c1 1 (bv l1))(x2:IsS h2 a2 l2.length c2 1 (bv l2))(hl:l1.length<1099511627776):
  Ct Tryz.prog w0 137 [.slice a1 l1.length c1,.slice a2 l2.length c2] K hs (fun v K' hs'=>K'=K/\hs'=hs/\∃ b:Bool,v=.bool b/\(b=true↔l1=l2)):=by
 refine enter Tryz.func137 qk I I I<|sq (rg<|fin hT 1 I (th<|sq (sq<|rg (cmpS hT 4 I fun b10 h10=>fin hT 0 I<|th (ifP h10 I (fun e2=>?_) (fun e2=>?_))))))
 ·exact sq (rg (fin hT 1 I (th (rt (rT (ret1 I I ⟨I,I,false,I,by simp;intro h;subst h;exact e2 I⟩))))))
 ·have hll:l1.length=l2.length:=by omega
  refine sk (th (sq (sq (rg (fin hT 3 I (th (bk (loop (σ:=Nat) (fun i=>[(0,.slice a1 l1.length c1),(1,.slice a2 l2.length c2),(12,.int .i64 (l1.length:Nat)),(13,.int .i64 (i:Nat))]) (fun _=>K) (fun _=>hs) (fun i=>i<=l1.length/\l1.take i=l2.take i) (fun i=>l1.length-i) 0 ⟨Nat.zero_le _,I⟩ ⟨I,I,I,I,trivial⟩ I I ?_))))))));rintro i ⟨hi,he⟩;refine sq (rg (cmpS hT 0 I fun b14 h14=>fin hT 0 I (th (sq (ifP h14 I (fun e4=>?_) (fun e4=>?_))))))
  ·have hi1:i<l1.length:=by omega
   refine sk (th (sq (bk (sq (rg ?_)))));have hi2:i<l2.length:=by omega
   obtain ⟨a1,rfl⟩:=x1.addr hi1 (by decide);obtain ⟨a2,rfl⟩:=x2.addr hi2 (by decide);obtain ⟨a1',ha1,hc1⟩:=x1.2.2 i _ (bv_get hi1);obtain ⟨a2',ha2,hc2⟩:=x2.2.2 i _ (bv_get hi2);cases ha1;cases ha2;refine fin hT 2 I (th (sq (rga hs 9 [0,2,4,6,8,10,12,14,16] (by simp) qk qk (dixs hT qk 2 i I I hi1 (dld hT qk 0 I m1 (by simpa using hc1) (dixs hT qk 2 i I I hi2 (dld hT qk 0 I m2 (by simpa using hc2) (dcbS hT qk 0 (((l1[i].toNat:Nat):Int)≠(l2[i].toNat:Nat)) I (by simp) fun b24 h24=>dend hT qk 0 I (th (ifP h24 I (fun e5=>?_) (fun e5=>?_)))))))))))
   ·exact sq (rg (fin hT 1 I (th (rt (rB (rT (rT (rB (rT (ret1 I I ⟨I,I,false,I,by simp;intro h;subst h;exact e5 I⟩))))))))))
   ·exact sk (bl (th (rg (ar hT 0 I (i64w qo) (fin hT 1 I (again (x:=i) (i+1) ⟨I,I,I,I,trivial⟩ I I ⟨by omega,by rw[take_succ_get l1 i hi1,take_succ_get l2 i hi2,he,UInt8.toNat_inj.1 (Int.ofNat_inj.1 (Decidable.not_not.1 e5))]⟩ (by (try dsimp only);omega)))))))
  ·obtain rfl:i=l1.length:=by omega
   exact ex (xt (xt (xb (th (sq (rg (fin hT 1 I (th (rt (ret1 I I ⟨I,I,true,I,by simp;rw[List.take_of_length_le (Nat.le_refl _),hll,List.take_of_length_le (Nat.le_refl _)] at he;exact he⟩))))))))))
def p0:MA:=⟨none,0,none,0,none,0⟩
end
section
theorem u64shlB(m:Nat)(h:m*256<18446744073709551616):Value.int .u64 (IntKind.u64.wrap (((m:Nat):Int)*2 ^ (min (8:Int).toNat IntKind.u64.bits)))=.int .u64 (m*256:Nat):=by
 have e:min (8:Int).toNat IntKind.u64.bits=8:=rfl;rw[e,show ((m:Nat):Int)*2 ^ 8=((m*256:Nat):Int) from by rw[Int.natCast_mul];rfl,u64m,Nat.mod_eq_of_lt h]
theorem u64orB(m:Nat)(c:UInt8)(h:m*256+256<=18446744073709551616):
  Value.int .u64 (IntKind.u64.wrap (BitVec.ofInt 64 ((m*256:Nat):Int) ||| BitVec.ofInt 64 ((c.toNat:Nat):Int)).toNat)=.int .u64 (c.toNat+256*m:Nat):=by
 have hc:=c.toNat_lt
 have e:(BitVec.ofInt 64 ((m*256:Nat):Int) ||| BitVec.ofInt 64 ((c.toNat:Nat):Int)).toNat=c.toNat+256*m:=by
  rw[BitVec.toNat_or,BitVec.ofInt_natCast,BitVec.ofInt_natCast,BitVec.toNat_ofNat,BitVec.toNat_ofNat,Nat.mod_eq_of_lt qo,Nat.mod_eq_of_lt qo,show m*256=2 ^ 8*m from by omega,
   <- Nat.two_pow_add_eq_or_of_lt qo]
  omega
 rw[e,u64m,Nat.mod_eq_of_lt qo]
attribute [local irreducible] Code.wp wpList Calls
theorem readSC{w0:World}{K h:PH}{hs:List PH}(sb b:Nat)(D:Dk)(c:Nat)(o:D.Ok c)(hc:c<=1099511627)(hm:DskH K b D h)(area:Nat)(sv nv:Value)(i:Nat)(hi:i<=1):
  Ct Tryz.prog w0 94 [.pointer (some ⟨sb,0,none⟩),.int .i64 (i:Nat)] K (pt sb #[.pointer (some ⟨b,0,none⟩),.int .u64 (area:Nat),sv,nv] 160::h::hs)
   (fun v K' hs'=>hs'=pt sb #[.pointer (some ⟨b,0,none⟩),.int .u64 (area:Nat),sv,nv] 160::h::hs/\Le K K'/\∃ ao cap,v=.tuple #[.int .u64 (((sltRd D area i).1:Nat):Int),.slice ao (sltRd D area i).2.length cap]/\IsS K' ao (sltRd D area i).2.length cap 1 (bv (sltRd D area i).2)):=by
 obtain ⟨S,hS⟩:∃ S,S=pt sb #[.pointer (some ⟨b,0,none⟩),.int .u64 (area:Nat),sv,nv] 160:=⟨_,rfl⟩;refine enter Tryz.func94 qk I I I (sq (rg (fin hT 2 I (th (sq (rga [pt sb #[.pointer (some ⟨b,0,none⟩),.int .u64 (area:Nat),sv,nv] 160] 15 [0,2,4,6,8,10,12,14,16,19,20,22,24,26,28] (by simp) qk qk (dldp hT qk 3 0 I I I (dldp hT qk 3 0 I I I (dact hT qk 1 I ?_)))))))));rw[<-hS];refine cl hT 0 I (Ct.at 1 I (readH b D c o hc hm ((area:Nat):Int) ((i:Nat):Int))) ?_;rintro v22 K22 hs22 ⟨h',rfl,rfl,le,hR⟩;refine dnexL [S] (by simp) (by simp) le ?_;rcases hR with ⟨hn,rfl⟩|⟨bs,ao,cap,hb,hl,rfl,x⟩
 ·have e:sltRd D area i=(0,[]):=by unfold sltRd;rw[hn]
  rw[e];exact dend hT qk 5 I (th (sq (sq (rg (cmp hT 2 I (fun h27=>fin hT 6 I (th (ifT I (sq (rg (fin hT 2 I (th (rt (rT (ret2 I I I ⟨I,le,none,0,I,IsS.nil _ _ _ _⟩)))))))))) (fun h27=>absurd qo h27))))))
 ·have e:sltRd D area i=sltSay bs i:=by unfold sltRd;rw[hb]
  rw[e];obtain ⟨c8,hc8⟩:∃ c8,bs[8]?=some c8:=⟨bs[8]'qo,List.getElem?_eq_getElem qo⟩;have hg8:bs.getD 8 0=c8:=by rw[List.getD_eq_getElem?_getD,hc8];rfl
  have hx8:(bv bs)[8]?=some (.int .u8 c8.toNat):=by simp[bv,hc8]
  have h8lt:=c8.toNat_lt;refine dend hT qk 5 I (th (sq (sq (rg (cmp hT 2 I (fun h27=>absurd h27 qo) (fun h27=>ix1 hT 2 8 I I I x hx8 fun a30 hc30=>ld hT 0 I (.inl I) hc30 (cmpS hT 0 I fun b32 h32=>fin hT 1 I (th (ifP h32 I (fun e4=>?_) (fun e4=>?_))))))))))
  ·have e2:sltSay bs i=(0,[]):=by unfold sltSay;rw[hg8,if_pos qo]
   rw[e2];exact sq (rg (fin hT 2 I (th (rt (rT (ret2 I I I ⟨I,le,none,0,I,IsS.nil _ _ _ _⟩))))))
  ·obtain ⟨q,hq⟩:∃ q,q=bs.take 8:=⟨_,rfl⟩;have hql:q.length=8:=by rw[hq,List.length_take];omega
   obtain ⟨vv,hvv⟩:∃ vv,vv=(bs.drop 9).take c8.toNat:=⟨_,rfl⟩;have hvl:vv.length=c8.toNat:=by rw[hvv,List.length_take,List.length_drop];omega
   have hq64:un4 q<18446744073709551616:=by have:=un4_lt q 8 qo;omega
   have e2:sltSay bs i=if un4 q % 2=i/\bs=sect (un4 q) vv then (un4 q,vv) else (0,[]):=by unfold sltSay;rw[hg8,if_neg qo,<-hq,<-hvv]
   rw[e2];refine sk (th (sq (rg (fin hT 1 I (th (sq (sq (rg (fin hT 1 I (th (bk ?_)))))))))))
   refine loop (σ:=Nat) (fun j=>[(0,.pointer (some ⟨sb,0,none⟩)),(1,.int .i64 (i:Nat)),(6,.slice ao bs.length cap),(8,.int .u64 ((un4 (q.drop j):Nat):Int)),(9,.int .i64 (((j:Nat):Int)-1))]) (fun _=>K22) (fun _=>S::h'::hs) (fun j=>j<=8) (fun j=>j) 8 (Nat.le_refl _)
    ⟨rfl,rfl,rfl,by rw[List.drop_of_length_le qo];rfl,rfl,trivial⟩ rfl rfl ?_
   intro j hj;refine sq (sq (rg (cmpS hT 1 I fun b35 h35=>fin hT 0 I (th (ifP h35 I (fun e6=>?_) (fun e6=>?_))))))
   ·obtain ⟨k,rfl⟩:∃ k,j=k+1:=⟨j-1,by omega⟩;have hk:k<q.length:=by omega
    have hlt:un4 (q.drop (k+1))<256 ^ 7:=un4_lt _ 7 (by rw[List.length_drop];omega);have hd:=un4_drop q k hk;obtain ⟨ck,hck⟩:∃ ck,ck=q[k]:=⟨_,rfl⟩
    have hbk:bs[k]?=some ck:=by
     have h1:q[k]?=bs[k]?:=by rw[hq,List.getElem?_take_of_lt qo]
     rw[<-h1,List.getElem?_eq_getElem hk,hck]
    have hxk:(bv bs)[k]?=some (.int .u8 ck.toNat):=by simp[bv,hbk]
    rw[<-hck] at hd;refine sk (th (sq (bk (rg (ar hT 1 I (u64shlB (un4 (q.drop (k+1))) qo) (ix1 hT 2 k I (show ((k+1:Nat):Int)-1=((k:Nat):Int) by omega) I x hxk fun a42 hc42=>ld hT 0 I (.inl I) hc42 ?_))))));have hcl:=ck.toNat_lt;exact ar hT 0 I (u64w qo) (ar hT 0 I (u64orB (un4 (q.drop (k+1))) ck qo) (fin hT 1 I (bl (th (rg (ar hT 1 I (v':=.int .i64 (((k:Nat):Int)-1)) (by rw[show ((k+1:Nat):Int)-1-1=((k:Nat):Int)-1 from by omega];exact i64w qo) (fin hT 1 I (again (x:=k+1) k ⟨I,I,I,by rw[hd];rfl,rfl,trivial⟩ rfl rfl qo qo))))))))
   ·obtain rfl:j=0:=by omega
    rw[List.drop_zero];refine ex (xt (xt (xb (th (sq (rg (ix1 hT 2 8 I I I x hx8 fun a48 hc48=>ld hT 0 I (.inl I) hc48 (ar hT 0 I (u8w (x:=((9+c8.toNat:Nat):Int)) qo) ?_))))))))
    refine sl hT 0 9 vv.length I x I (by show ((9+c8.toNat:Nat):Int)=_;rw[hvl]) qo (by
     show ((bv bs).drop (9*1)).take (vv.length*1)=bv vv;rw[hvl,hvv];simp[bv]) fun ao51 c51 x51=>?_
    refine fin hT 1 I (th (sq (rg (cl hT 2 I (sectorC (un4 q) vv ao51 c51 qo (.inl I) x51) ?_))));rintro v54 K54 hs54 ⟨rfl,rfl,rfl⟩;have hsl:(sect (un4 q) vv).length=64:=sect_length qo;have hss:(bv (sect (un4 q) vv)).toArray.size=64:=by simp[bv,hsl]
    refine al hT 0 (.agg (bv (List.replicate 64 0)).toArray) I qk fun b11=>stS hT 0 0 I I (by rw[hss];kernel_rfl) (by rw[hss];rfl) (by simp only[Array.all_toList,List.all_eq_true];first|exact bv_one _|(simp;intro u hu;exact bv_one _ u hu)) (fin hT 0 I (th (sq (sq (rg (ar hT 1 I (u_rem .u64 (un4 q) 2) (ar hT 1 I (u64w (x:=((i:Nat):Int)) qo) (cmpS hT 0 I fun b59 h59=>?_))))))))
    refine' bjo hT 1 5 65 [59,60] h59 I I I I I I I (fun _=>?x8) (fun b65 h65=>?_)
    case x8=>
     refine sla hT 1 (sz:=1) 0 64 I I Tryz.underlying191 qk I I (Nat.le_refl _) (by decide) ?_;simp only[add_mk,Nat.zero_mul,Nat.add_zero,Nat.sub_zero]
     have xR:IsS (pt b11 (bv (sect (un4 q) vv)).toArray 191) (some ⟨b11,0,none⟩) (sect (un4 q) vv).length 64 1 (bv (sect (un4 q) vv)):=by
      have:=bA_isS (g:=b11) (ty:=191) (A:=[]) (B:=sect (un4 q) vv) (C:=[]) (off:=0) (n:=(sect (un4 q) vv).length) (cap:=64) rfl rfl qo;simpa using this
     have heq:=equalC (w0:=w0) (K:=K54) (hs:=pt b11 (bv (sect (un4 q) vv)).toArray 191::S::h'::hs) ao (some ⟨b11,0,none⟩) cap 64 bs (sect (un4 q) vv) (.inl rfl) (.inr ⟨0,rfl⟩) x xR qo;rw[hsl] at heq;refine cl hT 0 I heq ?_;rintro v63 K63 hs63 ⟨rfl,rfl,t63,rfl,h63⟩;exact nmS fun b63 h63'=>cbS hT 0 _ I (bnot (h63'.trans h63)) fun b64 h64=>fin hT 1 I (bjx h64 I I I)
    refine fin hT 0 I<|th (ifP h65 I (fun e9=>?_) (fun e9=>?_))
    ·rw[if_neg (by intro g;rcases e9 with g1|g1;exact g1 (by have:=g.1;omega);exact g1 g.2)];exact sq (rg (fin hT 2 I (th (rt (rT (WQ.drop (ret2 I I I ⟨I,le,none,0,I,IsS.nil _ _ _ _⟩)))))))
    ·rw[if_pos ⟨by rcases Decidable.em (un4 q % 2=i) with g|g;exact g;exact absurd (.inl qo) e9,by rcases Decidable.em (bs=sect (un4 q) vv) with g|g;exact g;exact absurd (.inr g) e9⟩];exact sk (th (sq (rg (fin hT 4 I (th (rt (WQ.drop (ret2 I I I ⟨I,le,ao51,c51,I,x51⟩))))))))
end
section
def sltUp(D:Dk)(area:Nat):Nat->Slt
 | 0=>⟨0,[]⟩
 | i+1=>(sltUp D area i).pick (sltRd D area i)
theorem sltSay_bd(b:List UInt8)(i:Nat)(hb:b.length=64):(sltSay b i).1<18446744073709551616/\(sltSay b i).2.length<=48:=by
 unfold sltSay
 split
 ·simp
 ·rename_i h
  split
  ·have h1:=un4_lt (b.take 8) 8 (by rw[List.length_take];omega);refine ⟨by dsimp only;omega,?_⟩;dsimp only;rw[List.length_take];omega
  ·simp
theorem sltRd_bd{c:Nat}{D:Dk}(o:D.Ok c)(area i:Nat):(sltRd D area i).1<18446744073709551616/\(sltRd D area i).2.length<=48:=by
 unfold sltRd;cases hr:D.read area i with
 | none=>simp
 | some b=>
  refine sltSay_bd b i ?_;unfold Dk.read at hr;cases hs:D.sec area i with
  | none=>rw[hs] at hr;cases hr
  | some s=>
   rw[hs] at hr;simp only[Option.map_some,Option.some.injEq] at hr;obtain ⟨h1,_,h3⟩:=o.secOk hs;rw[<-hr,List.getLastD_eq_getLast?,List.getLast?_eq_some_getLast h1];exact h3 _ (List.getLast_mem h1)
def Slt.bd(S:Slt):Prop:=S.num<18446744073709551616/\S.val.length<=48
theorem sltUp_bd{c:Nat}{D:Dk}(o:D.Ok c)(area:Nat):∀ i,(sltUp D area i).bd
 | 0=>by simp[sltUp,Slt.bd]
 | i+1=>by
  have h:=sltUp_bd o area i;unfold sltUp Slt.pick
  split
  ·exact sltRd_bd o area i
  ·exact h
theorem Slt.save_bd{S:Slt}(h:S.bd)(area:Nat)(D:Dk)(v:List UInt8):(S.save area D v).1.bd:=by
 unfold Slt.save
 split
 ·exact h
 ·rename_i hn;obtain ⟨h1,h2⟩:=h
  split
  ·dsimp only
   split
   ·exact ⟨by dsimp only;omega,by dsimp only;omega⟩
   ·exact ⟨h1,h2⟩
  ·exact ⟨h1,h2⟩
def sltA(b area:Nat)(S:Slt)(ao:Option Addr)(cap:Nat):Array Value:=#[.pointer (some ⟨b,0,none⟩),.int .u64 (area:Nat),.slice ao S.val.length cap,.int .u64 S.num]
theorem DOk.save{c:Nat}{D:Dk}(o:DOk c D)(S:Slt)(area:Nat)(ha:area<=18446744073709551615)(v:List UInt8):DOk (c+2) (S.save area D v).2.1:=by
 unfold Slt.save
 split
 ·exact o.up qo
 ·split
  ·exact (o.write _ _ _ qo).sync _
  ·exact (o.write _ _ _ qo).up qo
attribute [local irreducible] Code.wp wpList Calls
def SltH(K:PH)(sb b area:Nat)(S:Slt)(h:PH):Prop:=∃ ao cap,h=pt sb (sltA b area S ao cap) 160/\IsS K ao S.val.length cap 1 (bv S.val)
theorem SltH.le{K K':PH}(l:Le K K'){sb b area:Nat}{S:Slt}{h:PH}(x:SltH K sb b area S h):SltH K' sb b area S h:=let ⟨a,c,h1,h2⟩:=x;⟨a,c,h1,h2.le l⟩
theorem openSC{w0:World}{K h:PH}{hs:List PH}(b:Nat)(D:Dk)(c:Nat)(o:D.Ok c)(hc:c<=1099511627)(hm:DskH K b D h)(area:Nat):
  Ct Tryz.prog w0 58 [.pointer (some ⟨b,0,none⟩),.int .u64 (area:Nat)] K (h::hs)
   (fun v K' hs'=>(D.dead=true/\K'=K/\hs'=h::hs/\v=.tuple #[.pointer none,.int .i64 30]) \/
    (D.dead=false/\Le K K'/\∃ sb s,hs'=s::h::hs/\SltH K' sb b area (sltOpen D area) s/\v=.tuple #[.pointer (some ⟨sb,0,none⟩),.int .i64 0])):=by
 refine enter Tryz.func58 qk I I I (sq (rg (fin hT 2 I (th (sq (sq (rg (cl hT 1 I (deadH b D hm) ?_))))))));rintro v11 K11 hs11 ⟨rfl,rfl,rfl⟩;refine fin hT 0 I (th (ifB I (fun e1=>?_) (fun e1=>?_)))
 ·exact sq<|rg (fin hT 2 I<|th (rt<|rT (ret2 I I I (.inl ⟨e1,I,I,I⟩))))
 ·refine sk<|th (sq<|rg (bd hT 2 (.agg<|sltA b area ⟨0,[]⟩ none 0) I (fun w=>by kernel_rfl) (bx hT 0 I fun b15=>fin hT 1 I<|th (sq<|sq (rg<|fin hT 1 I (th<|bk ?_))))))
  refine loop (σ:=Nat×PH×Option Addr×Nat) (fun s=>[(6,.pointer (some ⟨b15,0,none⟩)),(16,.int .i64 s.1)]) (fun s=>s.2.1) (fun s=>pt b15 (sltA b area (sltUp D area s.1) s.2.2.1 s.2.2.2) 160::h::hs)
   (fun s=>s.1<=2/\Le K11 s.2.1/\IsS s.2.1 s.2.2.1 (sltUp D area s.1).val.length s.2.2.2 1 (bv (sltUp D area s.1).val)) (fun s=>2-s.1) (0,K11,none,0) ⟨by dsimp only;omega,Le.refl _,IsS.nil _ _ _ _⟩ ⟨rfl,rfl,trivial⟩ rfl rfl ?_
  rintro ⟨i,K1,ao,cap⟩ ⟨hi,le,x⟩;dsimp only at *;have hbd:=sltUp_bd o area i;refine sq (rg (cmpS hT 0 I fun b17 h17=>fin hT 0 I (th (sq (ifP h17 I (fun e3=>?_) (fun e3=>?_))))))
  ·refine sk (th (sq (bk (sq (rg (fin hT 2 I (th (sq (rg (cl hT 2 I (readSC b15 b D c o hc (hm.le le) area _ _ i qo) ?_))))))))));rintro v22 K22 hs22 ⟨rfl,le2,ao2,cap2,rfl,x2⟩;refine fin hT 5 I (th (sq (rg (ldp hT 4 0 I I I (cmpS hT 0 I fun b30 h30=>fin hT 0 I (th (ifP h30 I (fun e5=>?_) (fun e5=>?_))))))))
   ·have e:sltUp D area (i+1)=⟨(sltRd D area i).1,(sltRd D area i).2⟩:=by rw[sltUp,Slt.pick,if_pos qo]
    exact rg (stp hT 6 0 I I I I (stp hT 2 0 I I I I (fin hT 0 I (bl (th (rg (ar hT 0 I (i64w (x:=((i+1:Nat):Int)) qo) (fin hT 1 I (again (x:=(i,K1,ao,cap)) (i+1,K22,ao2,cap2) ⟨I,I,trivial⟩ I (by dsimp only;rw[e];rfl) ⟨by dsimp only;omega,le.trans le2,by dsimp only;rw[e];exact x2⟩ (by dsimp only;omega))))))))))
   ·have e:sltUp D area (i+1)=sltUp D area i:=by rw[sltUp,Slt.pick,if_neg qo]
    exact sk (bl (th (rg (ar hT 0 I (i64w (x:=((i+1:Nat):Int)) qo) (fin hT 1 I (again (x:=(i,K1,ao,cap)) (i+1,K22,ao,cap) ⟨I,I,trivial⟩ I (by dsimp only;rw[e];rfl) ⟨by dsimp only;omega,le.trans le2,by dsimp only;rw[e];exact x.le le2⟩ (by dsimp only;omega)))))))
  ·obtain rfl:i=2:=by omega
   exact ex<|xt (xt<|xb (th<|sq (rg<|fin hT 3 I (th<|rt (ret2 I I I (.inr ⟨e1,le,b15,_,I,⟨ao,cap,I,x⟩,I⟩))))))
theorem valueSC{w0:World}{K s:PH}{hs:List PH}(sb b area:Nat)(S:Slt)(hS:SltH K sb b area S s)(hb:S.bd):
  Ct Tryz.prog w0 97 [.pointer (some ⟨sb,0,none⟩)] K (s::hs)
   (fun v K' hs'=>∃ h',hs'=h'::hs/\h'=s/\Le K K'/\∃ ao c,v=.slice ao S.val.length c/\IsS K' ao S.val.length c 1 (bv S.val)):=by
 obtain ⟨ao,cap,rfl,x⟩:=hS;refine enter Tryz.func97 qk I I I (sq (rg (fin hT 1 I (th (sq (rg (ldp hT 3 0 I I I (cl hT 0 I (cloneB ao cap S.val (.inl I) x (by have:=hb.2;omega)) ?_))))))));rintro v7 K7 hs7 ⟨rfl,h',ao',c',rfl,rfl,o⟩;exact fin hT 1 I (th (rt (WQ.frz fun K' l1 l2=>ret1 I I ⟨_,I,I,l1,ao',c',I,o.isS.le l2⟩)))
theorem numberSC{w0:World}{K s:PH}{hs:List PH}(sb b area:Nat)(S:Slt)(hS:SltH K sb b area S s):
  Ct Tryz.prog w0 95 [.pointer (some ⟨sb,0,none⟩)] K (s::hs)
   (fun v K' hs'=>K'=K/\hs'=s::hs/\v=.int .u64 S.num):=by
 obtain ⟨ao,cap,rfl,x⟩:=hS;exact enter Tryz.func95 qk I I I (sq (rg (fin hT 1 I (th (sq (rg (ldp hT 3 0 I I I (fin hT 1 I (th (rt (ret1 I I ⟨I,I,I⟩)))))))))))
theorem saveSC{w0:World}{K s h hv:PH}{hs:List PH}(sb b area:Nat)(S:Slt)(hS:SltH K sb b area S s)(hbd:S.bd)(D:Dk)(c:Nat)(o:D.Ok c)(hc:c<=1099511626)(hm:DskH K b D h)(ha:area<=18446744073709551615)
  (v:List UInt8) (ao:Option Addr) (cap:Nat) (hl:v.length<1099511627776) (hin:In K hs hv) (x:IsS hv ao v.length cap 1 (bv v)):
  Ct Tryz.prog w0 76 [.pointer (some ⟨sb,0,none⟩),.slice ao v.length cap] K (s::h::hs)
   (fun u K' hs'=>Le K K'/\∃ s' h',hs'=s'::h'::hs/\SltH K' sb b area (S.save area D v).1 s'/\DskH K' b (S.save area D v).2.1 h'/\u=.int .i64 (S.save area D v).2.2):=by
 obtain ⟨aS,cS,rfl,xS⟩:=hS;obtain ⟨hb1,hb2⟩:=hbd;refine enter Tryz.func76 qk I I I (sq (rg (fin hT 1 I (th (sq (sq (rg (cmpS hT 2 I fun b9 h9=>?_))))))))
 refine' bjo hT 1 6 16 [9,10] h9 I I I I I I I (fun _=>?x2) (fun b16 h16=>?_)
 case x2=>
  exact ldp hT 3 0 I I I (cmpS hT 0 I fun b15 h15=>fin hT 1 I<|bjx h15 I I I)
 refine fin hT 0 I<|th (ifP h16 I (fun e4=>?_) (fun e4=>?_))
 ·have e:S.save area D v=(S,D,40):=by unfold Slt.save;rw[if_pos qo]
  rw[e];exact sq (rg (fin hT 1 I (th (rt (rT (ret1 I I ⟨Le.refl _,_,_,I,⟨aS,cS,I,xS⟩,hm,I⟩))))))
 ·have hvl:v.length<=48:=by omega
  have e:S.save area D v=if (D.write area (((S.num+1) % 2:Nat):Int) (sect (S.num+1) v)).2=0 then
    (if ((D.write area (((S.num+1) % 2:Nat):Int) (sect (S.num+1) v)).1.sync area).2=0 then ⟨S.num+1,v⟩ else S,((D.write area (((S.num+1) % 2:Nat):Int) (sect (S.num+1) v)).1.sync area).1,((D.write area (((S.num+1) % 2:Nat):Int) (sect (S.num+1) v)).1.sync area).2)
   else (S,(D.write area (((S.num+1) % 2:Nat):Int) (sect (S.num+1) v)).1,(D.write area (((S.num+1) % 2:Nat):Int) (sect (S.num+1) v)).2):=by unfold Slt.save;rw[if_neg qo]
  rw[e];refine sk (th (sq (rg (ldp hT 3 0 I I I (ar hT 0 I (u64w (x:=((S.num+1:Nat):Int)) qo) (cl hT 1 I (sectorC (S.num+1) v ao cap hvl (In.cons (In.cons hin)) x) ?_))))));rintro v23 K23 hs23 ⟨rfl,rfl,rfl⟩;have hsl:(sect (S.num+1) v).length=64:=sect_length hvl;have hss:(bv (sect (S.num+1) v)).toArray.size=64:=by simp[bv,hsl]
  refine al hT 0 (.agg (bv (List.replicate 64 0)).toArray) I qk fun b5=>stS hT 0 0 I I (by rw[hss];kernel_rfl) (by rw[hss];rfl) (by simp only[Array.all_toList,List.all_eq_true];first|exact bv_one _|(simp;intro u hu;exact bv_one _ u hu)) ?_
  have xR:IsS (pt b5 (bv (sect (S.num+1) v)).toArray 191) (some ⟨b5,0,none⟩) (sect (S.num+1) v).length 64 1 (bv (sect (S.num+1) v)):=by
   have:=bA_isS (g:=b5) (ty:=191) (A:=[]) (B:=sect (S.num+1) v) (C:=[]) (off:=0) (n:=(sect (S.num+1) v).length) (cap:=64) rfl rfl qo;simpa using this
  refine fin hT 0 I (th (sq (rga [pt sb (sltA b area S aS cS) 160] 18 [0,2,4,6,8,10,12,14,16,18,20,22,24,26,28,30,33,34] (by simp) qk qk (dldp hT qk 3 0 I I I (dldp hT qk 3 0 I I I (dldp hT qk 3 0 I I I (dar hT qk 0 I (u64w (x:=((S.num+1:Nat):Int)) qo) (dar hT qk 0 I (u_rem .u64 (S.num+1) 2) (dar hT qk 0 I (i64w (x:=(((S.num+1) % 2:Nat):Int)) qo) (dsla hT qk 0 (sz:=1) 0 64 I I Tryz.underlying191 qk I I (Nat.le_refl _) (by decide) ?_))))))))));simp only[add_mk,Nat.zero_mul,Nat.add_zero,Nat.sub_zero];refine dact hT qk 0 I ?_;have hw:=writeH (w0:=w0) (K:=K23) (h:=h) (hs:=[pt b5 (bv (sect (S.num+1) v)).toArray 191,pt sb (sltA b area S aS cS) 160]++hs) b D c o qo hm area (((S.num+1) % 2:Nat):Int) qo (some ⟨b5,0,none⟩) 64 (sect (S.num+1) v) (.inr ⟨0,rfl⟩) xR
  rw[hsl] at hw;obtain ⟨W,hW⟩:∃ W,W=D.write area (((S.num+1) % 2:Nat):Int) (sect (S.num+1) v):=⟨_,rfl⟩;have oW:W.1.Ok (c+1):=by rw[hW];exact o.write _ _ _
  rw[<-hW] at hw ⊢;refine cl hT 0 I (Ct.at 2 I hw) ?_;rintro v40 K40 hs40 ⟨h',rfl,le,hm',rfl⟩;refine dnexL [pt sb (sltA b area S aS cS) 160] (by simp) (by simp) le (dend hT qk 1 I (th (sq (sq (rg (cmpS hT 1 I fun b42 h42=>fin hT 0 I (th (ifP h42 I (fun e6=>?_) (fun e6=>?_)))))))))
  ·rw[if_pos e6];refine rga [pt sb (sltA b area S aS cS) 160] 10 [0,2,4,6,8,10,12,14,17,18] (by simp) qk qk (dldp hT qk 3 0 I I I (dldp hT qk 3 0 I I I (dact hT qk 0 I (cl hT 0 I (Ct.at 2 I (syncH b W.1 (c+1) oW qo hm' area)) ?_))));rintro v51 K51 hs51 ⟨h2,rfl,rfl,hm2,rfl⟩;refine dnex [pt sb (sltA b area S aS cS) 160] (by simp) (by simp) I (dend hT qk 1 I (th (sq (sq (rg (cmpS hT 1 I fun b53 h53=>fin hT 0 I (th (ifP h53 I (fun e8=>?_) (fun e8=>?_)))))))))
   ·rw[if_pos e8];refine sq (rg (ldp hT 3 1 I I I (ar hT 0 I (u64w (x:=((S.num+1:Nat):Int)) qo) (stp hT 2 1 I I I I (fin hT 0 I (th (rg ?_)))))));obtain ⟨hv',hin',lev⟩:=hin.le le;refine cl hT 2 I (cloneB ao cap v (In.cons (In.cons (In.cons hin'))) (x.le lev) qo) ?_;rintro v63 K63 hs63 ⟨rfl,g,ao',c',rfl,rfl,og⟩;exact stp hT 2 2 I I I I (fin hT 0 I (th (sq (rg (fin hT 2 I (th (rt (WQ.frz fun K' l1 l2=>WQ.drop (ret1 I I ⟨le.trans l1,_,_,I,⟨ao',c',I,og.isS.le l2⟩,hm2.le l1,by rw[e8]⟩)))))))))
   ·rw[if_neg e8];exact sk (th (sq (rg (fin hT 2 I (th (rt (WQ.drop (ret1 I I ⟨le,_,_,I,⟨aS,cS,I,xS.le le⟩,hm2,I⟩))))))))
  ·rw[if_neg e6];exact sk (th (sq (sq (rg (cmpS hT 1 I fun b53 h53=>fin hT 0 I (th (ifPF h53 e6 I (sk (th (sq (rg (fin hT 2 I (th (rt (WQ.drop (ret1 I I ⟨le,_,_,I,⟨aS,cS,I,xS.le le⟩,hm',I⟩))))))))))))))))
end
section
theorem Ct.bun2{P:Program}{w0:World}{f:FuncId}{args:List Value}{K:PH}{m hs:List PH}{R R':Value->PH->List PH->Prop}(d:Djs m)(c:Ct P w0 f args K (m++hs) R)
  (h:∀ v K' hs',R v K' hs'->∃ m' t',hs'=m'++t'/\(Djs m'->R' v K' (uns m'::t'))):Ct P w0 f args K (uns m::hs) R':=
 ⟨c.1,fun w hw=>(c.2 w (hw.split d)).mono fun e w' he=>by
  obtain ⟨v,K',hs',rfl,hR,hS⟩:=he;obtain ⟨m',t',rfl,h2⟩:=h v K' hs' hR;obtain ⟨d',hS'⟩:=Sat.join m' hS;exact ⟨v,K',_,I,h2 d',hS'⟩⟩
def recR(K:PH)(c:List Value)(r:List UInt8):Prop:=∃ ao k,c=[.slice ao r.length k]/\IsS K ao r.length k 1 (bv r)
theorem recR.le{K K':PH}(l:Le K K'){c:List Value}{r:List UInt8}(h:recR K c r):recR K' c r:=let ⟨a,k,h1,h2⟩:=h;⟨a,k,h1,h2.le l⟩
def segR(c:List Value)(s:Nat×Nat):Prop:=c=[.int .u64 s.1,.int .u64 s.2]
def wlA(db:Nat)(ob:Option Nat)(first:Nat)(lv ov:Value)(next:Nat)(code:Int):Array Value:=
 #[.pointer (ob.map fun b=>⟨b,0,none⟩),.pointer (some ⟨db,0,none⟩),.int .u64 (first:Nat),lv,ov,.int .u64 (next:Nat),.int .i64 code]
def wopA(o:WOp)(aR:Option Addr)(cR:Nat):Array Value:=#[.int .u64 o.num,.int .u64 o.idx,.int .i64 o.full,.slice aR o.rest.length cR]
theorem ownz_of{h:PH}{ao:Option Addr}{n n' cap e size:Nat}{xs ys:List Value}(o:OwnZ h ao n cap e size xs)(h1:n=n')(h2:xs=ys):OwnZ h ao n' cap e size ys:=by subst h1;subst h2;exact o
theorem wrL_step(f:Nat)(o:WOp)(D:Dk):wrL (f+1) o D =
  if (D.write (segA o.num) o.full (UInt8.ofNat (min o.rest.length 63)::o.rest.take (min o.rest.length 63))).2≠0\/o.rest.length<63 then
   (o,(D.write (segA o.num) o.full (UInt8.ofNat (min o.rest.length 63)::o.rest.take (min o.rest.length 63))).1,(D.write (segA o.num) o.full (UInt8.ofNat (min o.rest.length 63)::o.rest.take (min o.rest.length 63))).2)
  else if o.rest.length=63 then ({ o with full:=o.full+1,rest:=[] },(D.write (segA o.num) o.full (UInt8.ofNat (min o.rest.length 63)::o.rest.take (min o.rest.length 63))).1,0)
  else wrL f { o with full:=o.full+1,rest:=o.rest.drop 63 } (D.write (segA o.num) o.full (UInt8.ofNat (min o.rest.length 63)::o.rest.take (min o.rest.length 63))).1:=rfl
attribute [local irreducible] Code.wp wpList Calls
def OpH(ob:Option Nat)(op:Option WOp)(oH rH:PH):Prop:=match op with
 | none=>ob=none/\oH=em/\rH=em
 | some o=>∃ b aR cR,ob=some b/\oH=pt b (wopA o aR cR) 189/\OwnZ rH aR o.rest.length cR 5 1 (bv o.rest)
def WalM(K:PH)(wb db:Nat)(W:Wl)(m:List PH):Prop:=
 ∃ ob aL cL aO cO oH rH gL gO,m=[pt wb (wlA db ob W.first (.slice aL W.recs.length cL) (.slice aO W.old.length cO) W.next W.code) 146,oH,rH,gL,gO]/\OpH ob W.op oH rH /\
  SlZ 1 30 (recR K) gL aL W.recs.length cL W.recs/\SlZ 2 173 segR gO aO W.old.length cO W.old
theorem WalM.le{K K':PH}(l:Le K K'){wb db:Nat}{W:Wl}{m:List PH}(h:WalM K wb db W m):WalM K' wb db W m:=by
 obtain ⟨ob,aL,cL,aO,cO,oH,rH,gL,gO,h1,h2,h3,h4⟩:=h;exact ⟨ob,aL,cL,aO,cO,oH,rH,gL,gO,h1,h2,h3.imp fun _ _ h=>h.le l,h4⟩
theorem areaC{w0:World}{K:PH}{hs:List PH}(n:Nat)(hn:n<=2305843009213693952):Ct Tryz.prog w0 127 [.int .u64 (n:Nat)] K hs (fun v K' hs'=>K'=K/\hs'=hs/\v=.int .u64 (segA n)):=by
 exact enter Tryz.func127 qk I I I<|sq (rg<|fin hT 1 I (th<|sq (rg<|ar hT 1 I (u64w (x:=((4*n:Nat):Int)) qo) (ar hT 0 I (u64w (x:=((4*n+1:Nat):Int)) qo)<|fin hT 1 I (th<|rt (ret1 I I ⟨I,I,I⟩))))))
theorem didC{w0:World}{K:PH}{hs:List PH}(wb db:Nat)(ob:Option Nat)(first:Nat)(lv ov:Value)(next:Nat)(code e:Int):
  Ct Tryz.prog w0 126 [.pointer (some ⟨wb,0,none⟩),.int .i64 e] K (pt wb (wlA db ob first lv ov next code) 146::hs)
   (fun v K' hs'=>∃ h',hs'=h'::hs/\K'=K/\h'=pt wb (wlA db ob first lv ov next (if code=0 then e else code)) 146/\v=.int .i64 (if code=0 then e else code)):=by
 refine enter Tryz.func126 qk I I I<|sq (rg<|fin hT 1 I (th<|sq (sq<|rg (ldp hT 3 0 I I I (cmpS hT 0 I fun b9 h9=>fin hT 0 I<|th (ifP h9 I (fun e2=>?_) (fun e2=>?_)))))))
 ·rw[if_pos e2];exact rg (stp hT 4 0 I I I I (fin hT 0 I (th (sq (rg (ldp hT 3 0 I I I (fin hT 1 I (th (rt (ret1 I I ⟨_,I,I,I,I⟩))))))))))
 ·rw[if_neg e2];exact sk (th (sq (rg (ldp hT 3 0 I I I (fin hT 1 I (th (rt (ret1 I I ⟨_,I,I,I,I⟩))))))))
theorem writeWC{w0:World}{K hv rH gL gO dh:PH}{hs:List PH}(wb db ob:Nat)(first:Nat)(lv ov:Value)(next:Nat)(o:WOp)(aR:Option Addr)(cR:Nat)(oR:OwnZ rH aR o.rest.length cR 5 1 (bv o.rest))(hrl:o.rest.length<=63)
  (D:Dk) (c:Nat) (oD:D.Ok c) (hc:c<=1099510000) (hd:DskH K db D dh) (hnum:o.num<=2305843009213693952) (hfull:o.full<=1099511627776) (ab:Option Addr) (cb:Nat) (b:List UInt8) (hb:0<b.length/\b.length<=600) (hin:In K hs hv) (x:IsS hv ab b.length cb 1 (bv b)):
  Ct Tryz.prog w0 122 [.pointer (some ⟨wb,0,none⟩),.slice ab b.length cb] K (pt wb (wlA db (some ob) first lv ov next 0) 146::pt ob (wopA o aR cR) 189::rH::gL::gO::dh::hs)
   (fun v K' hs'=>Le K K'/\∃ aR' cR' rH' dh',hs'=pt wb (wlA db (some ob) first lv ov next (wrO o b D).2.2) 146::pt ob (wopA (wrO o b D).1 aR' cR') 189::rH'::gL::gO::dh'::hs /\
    OwnZ rH' aR' (wrO o b D).1.rest.length cR' 5 1 (bv (wrO o b D).1.rest)/\DskH K' db (wrO o b D).2.1 dh'/\v=.int .i64 (wrO o b D).2.2):=by
 refine enter Tryz.func122 qk I I I (sq (rg (fin hT 1 I (th (sq (rga [pt wb (wlA db (some ob) first lv ov next 0) 146,pt ob (wopA o aR cR) 189] 15 [0,2,4,6,8,10,12,14,16,18,20,22,25,26,28,31] (by simp) qk qk (dldpw hT qk 3 0 I qk I I (dldpw hT qk 3 0 I qk I I (dldpw hT qk 2 1 I qk I I (dact hT qk 1 I (appq hT 0 2 I I oR (In.cons (In.cons (In.cons (In.cons (In.cons (In.cons hin)))))) x I (by decide) (bv_one b) hb.1 (by show (o.rest.length+b.length)*1<=_;omega) (by simp only[maxLen];omega) fun ao19 c19 g19 o19=>dnex [pt wb (wlA db (some ob) first lv ov next 0) 146,pt ob (wopA o aR cR) 189] (by simp) (by simp) rfl (dact hT qk 2 rfl (stp hT 0 1 rfl rfl rfl rfl (dnext (.inl qk) ?_))))))))))))));refine dend hT qk 0 I (th (bk ?_));obtain ⟨F,hF⟩:∃ F,F=o.rest.length+b.length+1:=⟨_,rfl⟩
 refine loop (σ:=(Nat×WOp×Dk)×(Option Addr×Nat×PH×PH)×PH) (fun _=>[(0,.pointer (some ⟨wb,0,none⟩))]) (fun s=>s.2.2) (fun s=>pt wb (wlA db (some ob) first lv ov next 0) 146::pt ob (wopA s.1.2.1 s.2.1.1 s.2.1.2.1) 189::s.2.1.2.2.1::gL::gO::s.2.1.2.2.2::hs)
  (fun s=>wrL s.1.1 s.1.2.1 s.1.2.2=wrO o b D/\s.1.2.1.rest.length<s.1.1/\s.1.1<=F/\s.1.2.2.Ok (c+(F-s.1.1))/\s.1.2.1.full+s.1.1<=o.full+F/\s.1.2.1.num=o.num/\Le K s.2.2/\DskH s.2.2 db s.1.2.2 s.2.1.2.2.2/\OwnZ s.2.1.2.2.1 s.2.1.1 s.1.2.1.rest.length s.2.1.2.1 5 1 (bv s.1.2.1.rest)) (fun s=>s.1.1)
  ((F,{ o with rest:=o.rest++b },D),(ao19,c19,g19,dh),K) ⟨by dsimp only;unfold wrO;rw[hF],by dsimp only;simp;omega,Nat.le_refl _,by dsimp only;exact oD.up qo,by dsimp only;omega,rfl,Le.refl _,hd,.inl (by
   dsimp only;have:=o19;rw[<-bv_append] at this;simpa using this)⟩ ⟨rfl,trivial⟩ rfl (by simp[wopA]) ?_
 rintro ⟨⟨f,q,E⟩,⟨aQ,cQ,rQ,eh⟩,K1⟩ ⟨hw,hlf,hfF,oE,hfu,hqn,le,hE,oQ⟩;dsimp only at *;obtain ⟨f,rfl⟩:∃ g,f=g+1:=⟨f-1,by omega⟩;rw[wrL_step] at hw;have hcQ:=oQ.caps;obtain ⟨n,hn⟩:∃ n,n=min q.rest.length 63:=⟨_,rfl⟩;obtain ⟨s,hs1⟩:∃ s,s=UInt8.ofNat n::q.rest.take n:=⟨_,rfl⟩;have hsl:s.length=1+n:=by rw[hs1];simp;omega
 rw[<-hn,<-hs1] at hw;refine bk (sq (rg (ldp hT 3 0 I I I (ldp hT 2 1 I I I ?_))))
 refine ar hT 1 I (v':=.int .i64 (n:Nat)) (by
  congr 1
  rw[hn]
  split <;> omega) ?_
 refine fin hT 1 I<|th (sq<|rg (ar hT 1 I (u8w (x:=((n:Nat):Int)) qo) (lit hT 0 #[.int .u8 (n:Nat)] I (by decide) qk fun b33=>ldp hT 3 1 I I I<|ldp hT 2 2 I I I ?_)))
 refine sl hT 1 0 n I oQ.isS I (by show ((n:Nat):Int)=((0+n:Nat):Int);omega) qo (ys:=bv (q.rest.take n)) (by
  show ((bv q.rest).drop (0*1)).take (n*1)=_;simp[bv]) fun ao42 c42 x42=>?_
 have o33:Own (pt b33 #[Value.int .u8 (n:Nat)] 5) (some ⟨b33,0,none⟩) 1 1 5 1 (bv [UInt8.ofNat n]):=own_byte b33 n qo;refine app hT 0 0 I I o33 (.inr ⟨3,I⟩) x42 I (by decide) (bv_one _) (by show (1+n)*1<=_;omega) (by simp only[maxLen];omega) fun ao43 c43 g43 o43=>?_
 have x43:IsS g43 ao43 s.length c43 1 (bv s):=by
  rw[hsl,hs1];exact o43.isS
 obtain ⟨R,hR⟩:∃ R,R=E.write (segA q.num) q.full s:=⟨_,rfl⟩;have oR':R.1.Ok (c+(F-(f+1))+1):=by rw[hR];exact oE.write _ _ _
 rw[<-hR] at hw;refine fin hT 1 I (th (sq (sq (rga [pt wb (wlA db (some ob) first lv ov next 0) 146,pt ob (wopA q aQ cQ) 189] 23 [0,2,4,6,8,10,12,14,16,18,20,22,24,28,30,32,34,36,38,40,42,27,45,47,48,50,52,54,56] (by simp) qk qk (dldtp [22] hT qk 4 0 I qk I I (dldtp [22,13,12,11,10,9] hT qk 3 0 I qk I I (dldtp [22,13] hT qk 3 1 I qk I I (dldtp [22,20,19,18] hT qk 3 0 I qk I I (dldtp [22] hT qk 2 1 I qk I I (dact hT qk 1 I (cl hT 0 I (areaC q.num qo) ?_)))))))))));rintro v57 K57 hs57 ⟨rfl,rfl,rfl⟩;refine dnex [pt wb (wlA db (some ob) first lv ov next 0) 146,pt ob (wopA q aQ cQ) 189] (by simp) (by simp) I (dact hT qk 0 I ?_);have hwr:=writeH (w0:=w0) (K:=K57) (h:=eh) (hs:=[g43,pt wb (wlA db (some ob) first lv ov next 0) 146,pt ob (wopA q aQ cQ) 189,rQ,gL,gO]++hs) db E (c+(F-(f+1))) oE qo hE (segA q.num) ((q.full:Nat):Int) (by unfold segA;omega) ao43 c43 s (.inr ⟨0,rfl⟩) x43
 rw[hsl,<-hR] at hwr;refine cl hT 0 I (Ct.at 6 I hwr) ?_;rintro v66 K66 hs66 ⟨eh',rfl,le2,hE',rfl⟩;refine dnexL [pt wb (wlA db (some ob) first lv ov next 0) 146,pt ob (wopA q aQ cQ) 189] (by simp) (by simp) le2 (dact hT qk 0 I (cl hT 0 I (Ct.at 1 I (didC wb db (some ob) first lv ov next 0 R.2)) ?_));rintro v67 K67 hs67 ⟨_,rfl,rfl,rfl,rfl⟩;rw[if_pos rfl];refine dnext (.inl qk) (dcmp hT qk 0 (R.2≠0) I (by simp) (fun h1=>?_) (fun h1=>?_))
 ·rw[if_pos (.inl h1)] at hw;refine dend hT qk 4 I (th (ifT I (sq (rg (ldp hT 3 1 I I I (fin hT 1 I (th (rt (rT (rB (rT (rB (WQ.drop ?_)))))))))))));rw[<-hw];exact ret1 I I ⟨le.trans le2,aQ,cQ,rQ,eh',I,oQ,hE',I⟩
 ·have h1:R.2=0:=Decidable.not_not.1 h1;refine dcbS hT qk 2 (((n:Nat):Int)<63) I (by simp) fun b71 h71=>dend hT qk 1 I (th (ifP h71 I (fun e2=>?_) (fun e2=>?_)))
  ·rw[if_pos (.inr qo)] at hw;refine sq (rg (ldp hT 3 1 I I I (fin hT 1 I (th (rt (rT (rB (rT (rB (WQ.drop ?_))))))))));rw[<-hw];exact ret1 I I ⟨le.trans le2,aQ,cQ,rQ,eh',I,oQ,hE',I⟩
  ·have hn63:n=63:=by omega
   rw[if_neg (by rintro (g|g);exact g h1;omega)] at hw;rw[h1];refine sk (th (sq (rg (ldp hT 3 1 I I I (ldp hT 2 2 I I I (ar hT 0 I (i64w (x:=((q.full+1:Nat):Int)) qo) (stp hT 2 2 I I I I (fin hT 0 I (th (sq (rga [pt wb (wlA db (some ob) first lv ov next 0) 146,pt ob (wopA { q with full:=q.full+1 } aQ cQ) 189] 15 [0,2,4,6,8,10,12,14,16,18,20,22,24,26,28,31] (by simp[wopA]) qk qk (dldpw hT qk 3 0 I qk I I (dldpw hT qk 3 0 I qk I I (dldpw hT qk 2 1 I qk I I (dslx hT qk 1 63 (q.rest.length-63) I I (by show ((n:Nat):Int)=_;omega) (by show ((q.rest.length:Nat):Int)=_;omega) qo (dact hT qk 2 rfl (stp hT 0 2 rfl rfl rfl rfl ?_)))))))))))))))));refine dnext (.inl qk) ?_
   obtain ⟨rQ2,hrQ2,oQ2⟩:=oQ.cut 63 (q.rest.length-63) qo (ys:=bv (q.rest.drop 63)) (by
    rw[Nat.mul_one,Nat.mul_one];unfold bv;rw[<-List.map_drop,List.take_of_length_le (by simp)])
   refine dend hT qk 0 I<|th (sq<|WC.loss 3 rQ2 I hrQ2 (rg<|ldp hT 3 1 I I I (ldp hT 2 2 I I I (cmpS hT 1 I fun b110 h110=>fin hT 0 I<|th (ifP h110 I (fun e4=>?_) (fun e4=>?_))))))
   ·rw[if_pos qo] at hw;refine sq (rg (ldp hT 3 1 I I I (fin hT 1 I (th (rt (rB (rT (rB (WQ.drop ?_)))))))));rw[<-hw];refine ret1 I I ⟨le.trans le2,cutA aQ cQ 63 1,cQ-63,rQ2,eh',?_,ownz_of oQ2 (show q.rest.length-63=0 by omega) (by rw[List.drop_of_length_le qo]),hE',I⟩;show [_,_,_,_,_,_]++hs=[_,_,_,_,_,_]++hs;simp only[wopA,List.length_nil,show q.rest.length-63=0 from by omega]
    rfl
   ·rw[if_neg qo] at hw;refine sk (bl (WQ.drop (again (x:=((f+1,q,E),(aQ,cQ,rQ,eh),K57)) ((f,{ q with full:=q.full+1,rest:=q.rest.drop 63 },R.1),(cutA aQ cQ 63 1,cQ-63,rQ2,eh'),K67) ⟨I,trivial⟩ I ?_ ⟨hw,?_,by dsimp only;omega,by dsimp only;exact oR'.up qo,by dsimp only;omega,hqn,le.trans le2,hE',?_⟩ (by dsimp only;omega))))
    ·simp[wopA]
    ·dsimp only;rw[List.length_drop];omega
    ·dsimp only;rw[List.length_drop];exact oQ2
end
section
theorem Sat.del{w0 w:World}{K:PH}{hs:List PH}(s:Sat w0 w K hs)(i:Nat){h:PH}(hi:hs[i]?=some h):Sat w0 w K (hs.eraseIdx i):=(s.perm (perm_front hs i h hi)).dropHead
theorem WC.del{P:Program}{w0:World}{Q:Exit->Act->World->Prop}{n:Nat}{l:Sl}{K:PH}{hs:List PH}{c:Code}(i:Nat){h:PH}(hi:hs[i]?=some h)(hk:WC P w0 c Q n l K (hs.eraseIdx i)):WC P w0 c Q n l K hs:=fun a w ha hw=>hk a w ha (hw.del i hi)
theorem WQ.del{w0:World}{Q:Exit->Act->World->Prop}{e:Exit}{n:Nat}{l:Sl}{K:PH}{hs:List PH}(i:Nat){h:PH}(hi:hs[i]?=some h)(hk:WQ w0 Q e n l K (hs.eraseIdx i)):WQ w0 Q e n l K hs:=fun a w ha hw=>hk a w ha (hw.del i hi)
theorem WL.del{P:Program}{w0:World}{ops:Array Oper}{Q:Exit->Act->World->Prop}{rest:List Oper}{n:Nat}{l:Sl}{K:PH}{hs:List PH}(i:Nat){h:PH}(hi:hs[i]?=some h)(hk:WL P w0 ops Q rest n l K (hs.eraseIdx i)):WL P w0 ops Q rest n l K hs:=fun a w ha hw=>hk a w ha (hw.del i hi)
structure WBd (c:Nat) (W:Wl):Prop where
 last:W.first+W.recs.length<=wTop
 recs:W.recs.length<=70000000000+c
 old:W.old.length<=c
 next:W.next<=wMany+c
 op:∀ o,W.op=some o->o.num<=wMany+c/\o.full<=c
 rest:∀ o,W.op=some o->W.code=0->o.rest.length<=62
 olds:∀ s∈W.old,s.1<=wMany+c/\s.2<=wTop
 recl:∀ r∈W.recs,r.length<=512
theorem WBd.up{c d:Nat}{W:Wl}(o:WBd c W)(h:c<=d):WBd d W:=
 ⟨o.last,by have:=o.recs;omega,by have:=o.old;omega,by have:=o.next;omega,fun q hq=>by have:=o.op q hq;omega,o.rest,fun s hs=>by have:=o.olds s hs;omega,o.recl⟩
def lastV(n:Nat):Int:=if n=0 then 18446744073709551615 else ((n:Nat):Int)-1
theorem u64last(n:Nat)(h:n<18446744073709551616):Value.int .u64 (IntKind.u64.wrap (((n:Nat):Int)-1))=.int .u64 (lastV n):=by
 unfold lastV
 split
 ·rename_i e;subst e;rfl
 ·exact u64w qo
theorem u64back(n:Nat)(h:n<18446744073709551616):Value.int .u64 (IntKind.u64.wrap (lastV n+1))=.int .u64 (n:Nat):=by
 unfold lastV
 split
 ·rename_i e;subst e;rfl
 ·rw[Int.sub_add_cancel];exact u64w qo
theorem SlZ.get{α:Type}{R:List Value->α->Prop}{e:Nat}{h:PH}{ao:Option Addr}{n cap:Nat}{xs:List α}(x:SlZ 1 e R h ao n cap xs){i:Nat}{y:α}(hy:xs[i]?=some y):∃ v,R [v] y/\∃ g off cur,ao=some ⟨g,off,none⟩/\h=pt g cur e/\cur[off+i]?=some v:=by
 obtain ⟨css,h1,h2,h3,h4⟩:=x;obtain ⟨c,hc,hR⟩:=h3.get hy;have hl:=h4 c (List.mem_of_getElem? hc)
 obtain ⟨v,rfl⟩:∃ v,c=[v]:=by
  match c,hl with
  | [v],_=>exact ⟨v,rfl⟩
 have hi:i<n:=by rw[h1];exact (List.getElem?_eq_some_iff.1 hy).1
 refine ⟨v,hR,?_⟩;have hf:=flat_get h4 hc 0 v rfl;rcases h2 with ⟨g1,g2,g3,⟨g4,g5,g6⟩|⟨g,off,cur,g4,g5,g6,g7⟩⟩|⟨rfl,_⟩
 ·omega
 ·refine ⟨g,off,cur,g4,g5,?_⟩;rw[<-g7,Nat.mul_one,Nat.mul_one,Nat.add_zero,List.getElem?_take_of_lt qo,List.getElem?_drop] at hf;simpa using hf
 ·omega
attribute [local irreducible] Code.wp wpList Calls
theorem firstWC{w0:World}{K:PH}{m hs:List PH}(wb db:Nat)(W:Wl)(hW:WalM K wb db W m):Ct Tryz.prog w0 109 [.pointer (some ⟨wb,0,none⟩)] K (m++hs)
  (fun v K' hs'=>K'=K/\hs'=m++hs/\v=.int .u64 W.first):=by
 obtain ⟨ob,aL,cL,aO,cO,oH,rH,gL,gO,rfl,hop,hL,hO⟩:=hW;exact enter Tryz.func109 qk I I I (sq (rg (fin hT 1 I (th (sq (rg (ldp hT 3 0 I I I (fin hT 1 I (th (rt (ret1 I I ⟨I,I,I⟩)))))))))))
theorem nextWC{w0:World}{K:PH}{m hs:List PH}(wb db:Nat)(W:Wl)(hW:WalM K wb db W m):Ct Tryz.prog w0 84 [.pointer (some ⟨wb,0,none⟩)] K (m++hs)
  (fun v K' hs'=>K'=K/\hs'=m++hs/\v=.int .u64 W.next):=by
 obtain ⟨ob,aL,cL,aO,cO,oH,rH,gL,gO,rfl,hop,hL,hO⟩:=hW;exact enter Tryz.func84 qk I I I (sq (rg (fin hT 1 I (th (sq (rg (ldp hT 3 0 I I I (fin hT 1 I (th (rt (ret1 I I ⟨I,I,I⟩)))))))))))
theorem lastWC{w0:World}{K:PH}{m hs:List PH}(wb db:Nat)(W:Wl)(hW:WalM K wb db W m)(hb:W.first+W.recs.length<=wTop):Ct Tryz.prog w0 110 [.pointer (some ⟨wb,0,none⟩)] K (m++hs)
  (fun v K' hs'=>K'=K/\hs'=m++hs/\v=.int .u64 (lastV (W.first+W.recs.length))):=by
 obtain ⟨ob,aL,cL,aO,cO,oH,rH,gL,gO,rfl,hop,hL,hO⟩:=hW;unfold wTop at hb;exact enter Tryz.func110 qk I I I (sq (rg (fin hT 1 I (th (sq (rga [pt wb (wlA db ob W.first (.slice aL W.recs.length cL) (.slice aO W.old.length cO) W.next W.code) 146] 13 [0,2,4,6,8,10,12,14,16,18,20,22,24] (by simp) qk qk (dldp hT qk 3 0 I I I (dldp hT qk 3 0 I I I (dar hT qk 1 I (u64w (x:=((W.recs.length:Nat):Int)) qo) (dar hT qk 0 I (u64w (x:=((W.first+W.recs.length:Nat):Int)) qo) (dar hT qk 0 I (u64last _ qo) (dend hT qk 1 I (th (rt (ret1 I I ⟨I,I,I⟩)))))))))))))))
theorem getWC{w0:World}{K:PH}{m hs:List PH}(wb db:Nat)(W:Wl)(c:Nat)(hc:c<=1000000000)(hb:WBd c W)(hW:WalM K wb db W m)(i:Nat)(hi:i<18446744073709551616)(hrl:∀ r∈W.recs,r.length<=512):Ct Tryz.prog w0 111 [.pointer (some ⟨wb,0,none⟩),.int .u64 (i:Nat)] K (m++hs)
  (fun v K' hs'=>Le K K'/\hs'=m++hs/\((¬(W.first<=i/\i-W.first<W.recs.length)/\v=.tuple #[.slice none 0 0,.bool false]) \/
   ∃ r ao k,W.first<=i/\W.recs[i-W.first]?=some r/\v=.tuple #[.slice ao r.length k,.bool true]/\IsS K' ao r.length k 1 (bv r))):=by
 obtain ⟨ob,aL,cL,aO,cO,oH,rH,gL,gO,rfl,hop,hL,hO⟩:=hW;have h1:=hb.last;have h2:=hb.recs;unfold wTop at h1;refine enter Tryz.func111 qk I I I (sq (rg (fin hT 2 I (th (sq (sq (rga [pt wb (wlA db ob W.first (.slice aL W.recs.length cL) (.slice aO W.old.length cO) W.next W.code) 146] 21 [0,2,4,6,8,10,12,14,16,18,20,22,24,26,28,30,32,34,36,38,40] (by simp) qk qk (dldp hT qk 4 0 I I I (dcmp hT qk 0 (i<W.first) I (by simp) (fun g1=>?_) (fun g1=>?_))))))))))
 ·exact dend hT qk 15 I<|th (ifT I<|sq (rg<|fin hT 2 I (th<|rt (rT<|ret2 I I I ⟨Le.refl _,I,.inl ⟨by omega,I⟩⟩))))
 ·refine dldp hT qk 5 0 I I I (dar hT qk 0 I (v':=.int .u64 (i-W.first:Nat)) (by rw[show ((i:Nat):Int)-((W.first:Nat):Int)=((i-W.first:Nat):Int) from by omega];exact u64w qo) (dldp hT qk 3 0 I I I (dar hT qk 1 I (u64w (x:=((W.recs.length:Nat):Int)) qo) (dcbS hT qk 0 (W.recs.length<=i-W.first) I (by simp) fun b25 h25=>dend hT qk 1 I (th (ifP h25 I (fun e2=>?_) (fun e2=>?_)))))))
  ·exact sq<|rg (fin hT 2 I<|th (rt<|rT (ret2 I I I ⟨Le.refl _,I,.inl ⟨by omega,I⟩⟩)))
  ·obtain ⟨r,hr⟩:∃ r,W.recs[i-W.first]?=some r:=⟨W.recs[i-W.first]'qo,List.getElem?_eq_getElem qo⟩;obtain ⟨v,⟨ao,k,hv,xr⟩,g,off,cur,rfl,rfl,hcur⟩:=hL.get hr;simp only[List.cons.injEq,and_true] at hv;subst hv;have hrl2:=hrl r (List.mem_of_getElem? hr);refine sk (th (sq (rga [pt wb (wlA db ob W.first (.slice (some ⟨g,off,none⟩) W.recs.length cL) (.slice aO W.old.length cO) W.next W.code) 146,pt g cur 30] 15 [0,2,4,6,8,10,12,14,16,18,20,22,25,26,28] (by simp) qk qk (dldp hT qk 3 0 I I I (dldp hT qk 4 0 I I I (dar hT qk 0 I (v':=.int .u64 (i-W.first:Nat)) (by rw[show ((i:Nat):Int)-((W.first:Nat):Int)=((i-W.first:Nat):Int) from by omega];exact u64w qo) (dixs hT qk 0 (i-W.first) I I qo ?_)))))));simp only[add_mk,Nat.mul_one];refine dldp hT qk 0 1 I I hcur (dact hT qk 0 I (cl hT 0 I (cloneB ao k r (.inl I) xr qo) ?_))
   rintro v39 K39 hs39 ⟨rfl,h',ao',c',rfl,rfl,o⟩;exact dnex [pt wb (wlA db ob W.first (.slice (some ⟨g,off,none⟩) W.recs.length cL) (.slice aO W.old.length cO) W.next W.code) 146,pt g cur 30] (by simp) (by simp) I (dend hT qk 2 I (th (rt (WQ.frz fun K' l1 l2=>ret2 I I I ⟨l1,I,.inr ⟨r,ao',c',by omega,hr,I,o.isS.le l2⟩⟩))))
theorem syncWC{w0:World}{K dh:PH}{m hs:List PH}(wb db:Nat)(W:Wl)(hW:WalM K wb db W m)(D:Dk)(c:Nat)(oD:D.Ok c)(hc:c<=1000000000)(hb:WBd c W)(hd:DskH K db D dh):
  Ct Tryz.prog w0 77 [.pointer (some ⟨wb,0,none⟩)] K (m++dh::hs)
   (fun v K' hs'=>K'=K/\∃ m' dh',hs'=m'++dh'::hs/\WalM K wb db (W.sync D).1 m'/\DskH K db (W.sync D).2 dh'/\v=.int .i64 (W.sync D).1.code):=by
 obtain ⟨ob,aL,cL,aO,cO,oH,rH,gL,gO,rfl,hop,hL,hO⟩:=hW;obtain ⟨op,first,recs,old,next,code⟩:=W;dsimp only at *;refine enter Tryz.func77 qk I I I (sq (rg (fin hT 1 I (th (sq (sq (rg (ldp hT 3 0 I I I (cmpS hT 0 I fun b7 h7=>?_)))))))))
 refine' bjo hT 1 6 14 [7,8] h7 I I I I I I I (fun _=>?x2) (fun b14 h14=>?_)
 case x2=>
  refine ldp hT 3 0 I I I ?_
  refine cbS hT 0 (op=none) I (by
   cases op with
   | none=>obtain ⟨rfl,_⟩:=hop;simp
   | some o=>obtain ⟨b,_,_,rfl,_⟩:=hop;simp) fun b13 h13=>?_
  exact fin hT 1 I<|bjx h13 I I I
 refine fin hT 0 I<|th (ifP h14 I (fun e4=>?_) (fun e4=>?_))
 ·have e:Wl.sync ⟨op,first,recs,old,next,code⟩ D=(⟨op,first,recs,old,next,code⟩,D):=by
   unfold Wl.sync;dsimp only
   split
   ·rfl
   ·rename_i h;rcases e4 with h2|rfl
    ·exact absurd h2 h
    ·rfl
  rw[e];exact sq (rg (ldp hT 3 0 I I I (fin hT 1 I (th (rt (rT (ret1 I I ⟨I,_,_,I,⟨ob,aL,cL,aO,cO,oH,rH,gL,gO,I,hop,hL,hO⟩,hd,I⟩)))))))
 ·have hcode:code=0:=by rcases Decidable.em (code=0) with h|h;exact h;exact absurd (.inl h) e4
  subst hcode;cases op with
  | none=>exact absurd (.inr rfl) e4
  | some o=>
   obtain ⟨b,aR,cR,rfl,rfl,oR⟩:=hop;have hnum:=(hb.op o rfl).1;unfold wMany at hnum;have e:Wl.sync ⟨some o,first,recs,old,next,0⟩ D=(⟨some o,first,recs,old,next,(D.sync (segA o.num)).2⟩,(D.sync (segA o.num)).1):=rfl;rw[e];refine sk (th (sq (rga [pt wb (wlA db (some b) first (.slice aL recs.length cL) (.slice aO old.length cO) next 0) 146,pt b (wopA o aR cR) 189] 15 [0,2,4,6,8,10,12,14,16,18,20,22,24,27,29,31,32] (by simp) qk qk (dldtp [14] hT qk 4 0 I qk I I (dldtp [14,13,12,11,10,9] hT qk 3 0 I qk I I (dldtp [14,13] hT qk 3 1 I qk I I (dact hT qk 0 I (cl hT 0 I (areaC o.num qo) ?_))))))));rintro v32 K32 hs32 ⟨rfl,rfl,rfl⟩;refine dnex [pt wb (wlA db (some b) first (.slice aL recs.length cL) (.slice aO old.length cO) next 0) 146,pt b (wopA o aR cR) 189] (by simp) (by simp) I (dact hT qk 0 I (cl hT 0 I (Ct.at 5 I (syncH db D c oD qo hd (segA o.num))) ?_))
   rintro v33 K33 hs33 ⟨dh',rfl,rfl,hd',rfl⟩;refine dnex [pt wb (wlA db (some b) first (.slice aL recs.length cL) (.slice aO old.length cO) next 0) 146,pt b (wopA o aR cR) 189] (by simp) (by simp) I (dact hT qk 0 I (cl hT 0 I (didC wb db (some b) first _ _ next 0 _) ?_));rintro v34 K34 hs34 ⟨_,rfl,rfl,rfl,rfl⟩;rw[if_pos rfl];exact dnext (.inl qk) (dend hT qk 1 I (th (rt (ret1 I I ⟨I,_,_,I,⟨some b,aL,cL,aO,cO,_,rH,gL,gO,I,⟨b,aR,cR,I,I,oR⟩,hL,hO⟩,hd',I⟩))))
theorem beginWC{w0:World}{K dh:PH}{m hs:List PH}(wb db:Nat)(W:Wl)(hW:WalM K wb db W m)(D:Dk)(c:Nat)(oD:D.Ok c)(hc:c<=1000000000)(hb:WBd c W)(hd:DskH K db D dh)(i:Nat)(hi:i<18446744073709551616):
  Ct Tryz.prog w0 78 [.pointer (some ⟨wb,0,none⟩),.int .u64 (i:Nat)] K (m++dh::hs)
   (fun v K' hs'=>Le K K'/\∃ m' dh',hs'=m'++dh'::hs/\WalM K' wb db (W.begin i D).1 m'/\DskH K' db (W.begin i D).2 dh'/\v=.int .i64 (W.begin i D).1.code):=by
 refine enter Tryz.func78 qk I I I (sq (rg (fin hT 1 I (th (sq (sq (rg (cl hT 1 I (syncWC wb db W hW D c oD hc hb hd) ?_))))))));rintro v6 K6 hs6 ⟨rfl,m1,dh1,rfl,hW1,hd1,rfl⟩
 have oS:(W.sync D).2.Ok (c+1):=by
  unfold Wl.sync
  split
  ·exact oD.up qo
  ·split
   ·exact oD.up qo
   ·exact oD.sync _
 have hS:(W.sync D).1={ W with code:=(W.sync D).1.code }:=by
  unfold Wl.sync
  split
  ·rfl
  ·split
   ·rfl
   ·rfl
 refine cmpS hT 0 I fun b7 h7=>fin hT 0 I<|th (ifP h7 I (fun e2=>?_) (fun e2=>?_))
 ·have e:W.begin i D=W.sync D:=by unfold Wl.begin;rw[if_pos e2]
  rw[e];obtain ⟨ob,aL,cL,aO,cO,oH,rH,gL,gO,rfl,hop,hL,hO⟩:=hW1;exact sq (rg (ldp hT 3 0 I I I (fin hT 1 I (th (rt (rT (ret1 I I ⟨Le.refl _,_,_,I,⟨ob,aL,cL,aO,cO,oH,rH,gL,gO,I,hop,hL,hO⟩,hd1,I⟩)))))))
 ·have e2:(W.sync D).1.code=0:=Decidable.not_not.1 e2
  have e:W.begin i D=({ (W.sync D).1 with op:=some (wrO ⟨W.next,i,0,[]⟩ (uint i) (W.sync D).2).1,next:=W.next+1,old:=W.old++[(W.next,i)],code:=(wrO ⟨W.next,i,0,[]⟩ (uint i) (W.sync D).2).2.2 },(wrO ⟨W.next,i,0,[]⟩ (uint i) (W.sync D).2).2.1):=by
   unfold Wl.begin;rw[if_neg (by rw[e2];simp)]
  rw[e];obtain ⟨E,hE⟩:∃ E,E=(W.sync D).2:=⟨_,rfl⟩;rw[hS,e2] at hW1;rw[hS];rw[<-hE] at oS hd1 ⊢;clear hE e hS e2 h7;obtain ⟨op,first,recs,old,next,code⟩:=W;dsimp only at *;obtain ⟨ob,aL,cL,aO,cO,oH,rH,gL,gO,rfl,hop,hL,hO⟩:=hW1;dsimp only at *;have hnx:=hb.next;have hol:=hb.old;unfold wMany at hnx;dsimp only at hnx hol;refine sk (th (sq (rg (ldp hT 4 0 I I I (bd hT 1 (.agg #[.int .u64 (next:Nat),.int .u64 (i:Nat)]) I (fun w=>by kernel_rfl) (bd hT 0 (.agg (wopA ⟨next,i,0,[]⟩ none 0)) I (fun w=>by kernel_rfl) (bx hT 0 I fun b20=>stp hT 2 1 I I I I (fin hT 0 I (th (WC.perm (List.Perm.swap _ _ _) (WC.loss 3 em I (.inr I) (WC.del 2 I (sq (rg (ldp hT 3 0 I I I (ar hT 0 I (u64w (x:=((next+1:Nat):Int)) qo) (stp hT 2 0 I I I I (fin hT 0 I (th (sq (rga [pt wb (wlA db (some b20) first (.slice aL recs.length cL) (.slice aO old.length cO) (next+1) 0) 146,pt b20 (wopA ⟨next,i,0,[]⟩ none 0) 189] 16 [0,2,4,6,8,10,12,14,16,18,20,22,25,27,28,30,33] (by intro h hm;simp at hm;rcases hm with rfl|rfl;exact List.mem_cons_self ..;exact List.mem_cons_of_mem _ (List.mem_cons_self ..)) qk qk (dldpw hT qk 4 0 I qk I I ?_))))))))))))))))))))))
  refine dldpw hT qk 3 0 I qk I I ?_
  refine dlds hT qk 2 [.int .u64 (next:Nat),.int .u64 (i:Nat)] I qk qk (.inr ⟨1,I⟩) (cells_pt _ (fun j v hj=>by
   match j,hj with
   | 0,hj=>exact hj
   | 1,hj=>exact hj)) ?_
  refine dact hT qk 0 I (lit hT 0 #[.int .u64 (next:Nat),.int .u64 (i:Nat)] I (by decide) qk fun b42=>dnex [pt wb (wlA db (some b20) first (.slice aL recs.length cL) (.slice aO old.length cO) (next+1) 0) 146,pt b20 (wopA ⟨next,i,0,[]⟩ none 0) 189] (by intro h hm;simp at hm;rcases hm with rfl|rfl;exact List.mem_cons_of_mem _ (List.mem_cons_self ..);exact List.mem_cons_of_mem _ (List.mem_cons_of_mem _ (List.mem_cons_self ..))) (by simp) I (dact hT qk 0 I (appSq hT 0 5 [.int .u64 (next:Nat),.int .u64 (i:Nat)] (next,i) I I I hO I I (by simp[Value.oneCell']) I (by decide) (by show (old.length+1)*16<=_;omega) (by simp only[maxLen];omega) fun ao43 c43 g43 o43=>dnex [pt wb (wlA db (some b20) first (.slice aL recs.length cL) (.slice aO old.length cO) (next+1) 0) 146,pt b20 (wopA ⟨next,i,0,[]⟩ none 0) 189] (by intro h hm;simp at hm;rcases hm with rfl|rfl;exact List.mem_cons_of_mem _ (List.mem_cons_self ..);exact List.mem_cons_of_mem _ (List.mem_cons_of_mem _ (List.mem_cons_self ..))) (by simp) I (dact hT qk 2 I (stp hT 0 1 I I I I (dnext (.inl qk) (dend hT qk 0 I (th (WC.drop (sq (rg (WL.em ?_))))))))))))
  have hul:=uint_le10 (n:=i) hi;have hu0:0<(uint i).length:=by rw[uint];split <;> simp
  refine cl hT 2 I (putUint none 0 [] i (Own.nil _ _) hi (by decide)) ?_;rintro v48 K48 hs48 ⟨hu,rfl,rfl,ao',c',rfl,ou⟩;rw[List.nil_append] at ou;refine WL.frz fun K1 l1 l2=>cl hT 0 I (writeWC wb db b20 first _ _ (next+1) ⟨next,i,0,[]⟩ none 0 (OwnZ.nil _ _) (by simp) E (c+1) oS qo (hd1.le l1) (by dsimp only;omega) (by simp) ao' c' (uint i) ⟨hu0,by omega⟩ (.inl rfl) (ou.isS.le l2)) ?_;rintro v49 K49 hs49 ⟨le,aR,cR,rH',dh',rfl,oR,hd',rfl⟩;refine fin hT 1 I (th (rt (ret1 I I ⟨l1.trans le,[_,_,_,_,_],dh',I,⟨some b20,aL,cL,ao43,c43,_,rH',gL,g43,?_,⟨b20,aR,cR,I,I,oR⟩,hL.imp fun _ _ h=>h.le (l1.trans le),?_⟩,hd',I⟩)))
  ·dsimp only;rw[List.length_append];rfl
  ·dsimp only;rw[List.length_append];exact o43
end
section
theorem uint_pos(n:Nat):0<(uint n).length:=by rw[uint];split <;> simp
theorem segA_bd{n:Nat}(h:n<=2305843009213693952):0<=segA n/\segA n<=18446744073709551615:=by unfold segA;omega
theorem DOk.wrL:∀ (f:Nat) (o:WOp) (D:Dk) (c:Nat),DOk c D->o.num<=2305843009213693952->DOk (c+(o.rest.length / 63+1)) (wrL f o D).2.1
 | 0,o,D,c,h,_=>h.up qo
 | f+1,o,D,c,h,hn=>by
  have hw:=h.write (segA o.num) o.full (UInt8.ofNat (min o.rest.length 63)::o.rest.take (min o.rest.length 63)) (segA_bd hn);rw[wrL_step]
  split
  ·exact hw.up qo
  ·split
   ·exact hw.up qo
   ·rename_i h1 h2;refine (DOk.wrL f _ _ _ hw (by exact hn)).up ?_;dsimp only;rw[List.length_drop];omega
theorem wrL_num:∀ (f:Nat) (o:WOp) (D:Dk),(wrL f o D).1.num=o.num/\(wrL f o D).1.idx=o.idx/\(wrL f o D).1.full<=o.full+o.rest.length / 63
 | 0,o,D=>⟨rfl,rfl,Nat.le_add_right _ _⟩
 | f+1,o,D=>by
  rw[wrL_step]
  split
  ·exact ⟨I,I,Nat.le_add_right _ _⟩
  ·split
   ·exact ⟨I,I,by dsimp only;omega⟩
   ·obtain ⟨h1,h2,h3⟩:=wrL_num f { o with full:=o.full+1,rest:=o.rest.drop 63 } (D.write (segA o.num) o.full (UInt8.ofNat (min o.rest.length 63)::o.rest.take (min o.rest.length 63))).1;refine ⟨h1,h2,Nat.le_trans h3 ?_⟩;dsimp only;rw[List.length_drop];omega
theorem wrL_rest:∀ (f:Nat) (o:WOp) (D:Dk),o.rest.length<f->(wrL f o D).2.2=0->(wrL f o D).1.rest.length<=62
 | 0,o,D,h,_=>by omega
 | f+1,o,D,h,he=>by
  rw[wrL_step] at he ⊢
  split
  ·rename_i h1;rw[if_pos h1] at he;rcases h1 with h1|h1
   ·exact absurd he h1
   ·dsimp only;omega
  ·rename_i h1;rw[if_neg h1] at he
   split
   ·simp
   ·rename_i h2;rw[if_neg h2] at he;exact wrL_rest f _ _ (by dsimp only;rw[List.length_drop];omega) he
theorem DOk.wrO{c:Nat}{D:Dk}(h:DOk c D)(o:WOp)(b:List UInt8)(hn:o.num<=2305843009213693952):DOk (c+((o.rest.length+b.length) / 63+1)) (wrO o b D).2.1:=by
 have:=DOk.wrL (o.rest.length+b.length+1) { o with rest:=o.rest++b } D c h hn;dsimp only at this
 rwa [List.length_append] at this
theorem wrO_num(o:WOp)(b:List UInt8)(D:Dk):(wrO o b D).1.num=o.num/\(wrO o b D).1.idx=o.idx/\(wrO o b D).1.full<=o.full+(o.rest.length+b.length) / 63:=by
 have:=wrL_num (o.rest.length+b.length+1) { o with rest:=o.rest++b } D;dsimp only at this
 rwa [List.length_append] at this
theorem wrO_rest(o:WOp)(b:List UInt8)(D:Dk)(h:(wrO o b D).2.2=0):(wrO o b D).1.rest.length<=62:=wrL_rest _ _ _ (by simp) h
theorem Wl.sync_eq(W:Wl)(D:Dk):(W.sync D).1={ W with code:=(W.sync D).1.code }:=by
 unfold Wl.sync
 split
 ·rfl
 ·split <;> rfl
theorem DOk.syncW{c:Nat}{D:Dk}(h:DOk c D)(W:Wl):DOk (c+1) (W.sync D).2:=by
 unfold Wl.sync
 split
 ·exact h.up qo
 ·split
  ·exact h.up qo
  ·exact h.sync _
theorem Wl.sync_code{W:Wl}{D:Dk}(h:(W.sync D).1.code=0):W.code=0:=by
 unfold Wl.sync at h
 split at h
 ·exact h
 ·rename_i hn;exact Decidable.not_not.1 hn
theorem WBd.sync{c:Nat}{W:Wl}(o:WBd c W)(D:Dk):WBd c (W.sync D).1:=by
 rw[Wl.sync_eq];exact ⟨o.last,o.recs,o.old,o.next,o.op,fun q hq hc=>o.rest q hq (Wl.sync_code hc),o.olds,o.recl⟩
theorem DOk.begin{c:Nat}{D:Dk}(h:DOk c D){W:Wl}(o:WBd c W)(i:Nat)(hi:i<18446744073709551616)(hc:c<=1000000000):DOk (c+2) (W.begin i D).2:=by
 have h1:=h.syncW W;have hn:=o.next;unfold wMany at hn;have hu:=uint_le10 hi;unfold Wl.begin
 split
 ·exact h1.up qo
 ·refine (h1.wrO ⟨W.next,i,0,[]⟩ (uint i) (by dsimp only;omega)).up ?_;dsimp only[List.length_nil];omega
theorem WBd.begin{c:Nat}{W:Wl}(o:WBd c W)(i:Nat)(hi:i<=wTop)(D:Dk):WBd (c+1) (W.begin i D).1:=by
 have h1:=o.sync D;unfold Wl.begin
 split
 ·exact h1.up qo
 ·have hn:=wrO_num ⟨W.next,i,0,[]⟩ (uint i) (W.sync D).2;have hu:=uint_le10 (n:=i) (by unfold wTop at hi;omega);dsimp only[List.length_nil] at hn;rw[Wl.sync_eq];refine ⟨o.last,Nat.le_trans o.recs qo,?_,?_,?_,?_,?_,o.recl⟩
  ·have:=o.old;dsimp only;rw[List.length_append];simp only[List.length_cons,List.length_nil];omega
  ·have:=o.next;dsimp only;omega
  ·intro q hq;simp only[Option.some.injEq] at hq;rw[<-hq];have:=o.next;exact ⟨by rw[hn.1];omega,by have:=hn.2.2;omega⟩
  ·intro q hq hc;simp only[Option.some.injEq] at hq;rw[<-hq];exact wrO_rest _ _ _ hc
  ·intro s hs;rcases List.mem_append.1 hs with hs|hs
   ·have:=o.olds s hs;omega
   ·simp only[List.mem_singleton] at hs;subst hs;have:=o.next;exact ⟨by dsimp only;omega,hi⟩
theorem begin_op{W:Wl}{i:Nat}{D:Dk}(h:(W.begin i D).1.code=0):(W.begin i D).1.op≠none/\(W.begin i D).1.first=W.first/\(W.begin i D).1.recs=W.recs/\(W.sync D).1.code=0:=by
 unfold Wl.begin at h ⊢
 split
 ·rename_i h2;rw[if_pos h2] at h;exact absurd h h2
 ·rename_i h2;rw[Wl.sync_eq];exact ⟨by simp,I,I,Decidable.not_not.1 h2⟩
theorem begin_recs(W:Wl)(i:Nat)(D:Dk):(W.begin i D).1.first=W.first/\(W.begin i D).1.recs=W.recs:=by
 unfold Wl.begin
 split
 ·rw[Wl.sync_eq];exact ⟨I,I⟩
 ·rw[Wl.sync_eq];exact ⟨I,I⟩
theorem putBytes_le{b:List UInt8}(h:b.length<=512):0<(putBytes b).length/\(putBytes b).length<=522:=by
 have h1:=uint_pos b.length;have h2:=uint_le10 (n:=b.length) qo;rw[putBytes_length];omega
theorem DOk.lay{c:Nat}{D:Dk}(h:DOk c D){W:Wl}(o:WBd c W)(hc:c<=1000000000)(hw:W.code=0){b:List UInt8}(hb:b.length<=512):DOk (c+10) (wLay W b D).2.1:=by
 unfold wLay;cases hop:W.op with
 | none=>exact h.up qo
 | some q=>
  have hq:=o.op q hop;unfold wMany at hq;have hr:=o.rest q hop hw;have hp:=putBytes_le hb;exact (h.wrO q (putBytes b) qo).up qo
theorem WBd.lay{c:Nat}{W:Wl}(o:WBd c W)(hw:W.code=0)(hl:W.first+W.recs.length<wTop){b:List UInt8}(hb:b.length<=512)(D:Dk):WBd (c+10) (wLay W b D).1:=by
 unfold wLay;cases hop:W.op with
 | none=>exact o.up qo
 | some q=>
  have hq:=o.op q hop;have hr:=o.rest q hop hw;have hp:=putBytes_le hb;have hn:=wrO_num q (putBytes b) D;have h1:=o.recs;have h2:=o.old;have h3:=o.next;have h4:=o.last;refine ⟨?_,?_,by dsimp only;omega,by dsimp only;omega,?_,?_,?_,?_⟩
  ·dsimp only
   split
   ·rw[List.length_append];simp only[List.length_cons,List.length_nil];omega
   ·exact h4
  ·dsimp only
   split
   ·rw[List.length_append];simp only[List.length_cons,List.length_nil];omega
   ·omega
  ·intro x hx;simp only[Option.some.injEq] at hx;rw[<-hx];exact ⟨by rw[hn.1];omega,by have:=hn.2.2;omega⟩
  ·intro x hx hc;simp only[Option.some.injEq] at hx;rw[<-hx];exact wrO_rest _ _ _ hc
  ·intro s hs;have:=o.olds s hs;omega
  ·intro r hr;dsimp only at hr
   split at hr
   ·rcases List.mem_append.1 hr with hr|hr
    ·exact o.recl r hr
    ·simp only[List.mem_singleton] at hr;rw[hr];exact hb
   ·exact o.recl r hr
theorem DOk.append{c:Nat}{D:Dk}(h:DOk c D){W:Wl}(o:WBd c W)(hc:c<=999999990)(b:List UInt8):DOk (c+12) (W.append b D).2.1:=by
 have hl:=o.last;unfold Wl.append
 split
 ·exact h.up qo
 ·rename_i hw;have hw:=Decidable.not_not.1 hw
  split
  ·exact h.up qo
  ·split
   ·exact h.up qo
   ·split
    ·have hb:=h.begin o (W.first+W.recs.length) (by unfold wTop at hl;omega) qo
     split
     ·exact hb.up qo
     ·rename_i h2;exact (hb.lay ((o.begin _ hl D).up qo) qo (Decidable.not_not.1 h2) qo).up qo
    ·exact (h.lay o qo hw qo).up qo
theorem WBd.append{c:Nat}{W:Wl}(o:WBd c W)(b:List UInt8)(D:Dk):WBd (c+12) (W.append b D).1:=by
 have hl:=o.last;unfold Wl.append
 split
 ·exact o.up qo
 ·rename_i hw;have hw:=Decidable.not_not.1 hw
  split
  ·exact o.up qo
  ·split
   ·exact o.up qo
   ·split
    ·have hb:=o.begin (W.first+W.recs.length) hl D
     split
     ·exact hb.up qo
     ·rename_i h2;have hr:=begin_recs W (W.first+W.recs.length) D;exact (hb.lay (Decidable.not_not.1 h2) (by rw[hr.1,hr.2];omega) qo _).up qo
    ·exact (o.lay hw qo qo D).up qo
theorem DOk.truncate{c:Nat}{D:Dk}(h:DOk c D){W:Wl}(o:WBd c W)(hc:c<=1000000000)(i:Nat)(hi:i<18446744073709551616):DOk (c+2) (W.truncate i D).2.1:=by
 unfold Wl.truncate
 split
 ·exact h.up qo
 ·split
  ·exact h.up qo
  ·split
   ·exact h.up qo
   ·exact h.begin o i hi hc
theorem WBd.cutR{c:Nat}{W:Wl}(o:WBd c W)(n:Nat):WBd c { W with recs:=W.recs.take n }:=by
 have h1:(W.recs.take n).length<=W.recs.length:=by rw[List.length_take];omega
 exact ⟨by have:=o.last;dsimp only;omega,by have:=o.recs;dsimp only;omega,o.old,o.next,o.op,o.rest,o.olds,fun r hr=>o.recl r (List.mem_of_mem_take hr)⟩
theorem WBd.truncate{c:Nat}{W:Wl}(o:WBd c W)(i:Nat)(D:Dk):WBd (c+1) (W.truncate i D).1:=by
 have hl:=o.last;unfold Wl.truncate
 split
 ·exact o.up qo
 ·split
  ·exact o.up qo
  ·split
   ·exact o.up qo
   ·have hb:=o.begin i qo D;dsimp only
    split
    ·have hr:=begin_recs W i D;rw[<-hr.2];exact hb.cutR _
    ·exact hb
theorem DOk.compact1{c:Nat}{D:Dk}(h:DOk c D){W:Wl}(o:WBd c W)(hc:c<=1000000000)(i:Nat)(hi:i<18446744073709551616):DOk (c+2) (W.compact1 i D).2:=by
 unfold Wl.compact1
 split
 ·exact h.begin o i hi hc
 ·exact h.up qo
theorem WBd.compact1{c:Nat}{W:Wl}(o:WBd c W)(i:Nat)(D:Dk):WBd (c+1) (W.compact1 i D).1:=by
 have hl:=o.last;unfold Wl.compact1
 split
 ·exact o.begin i qo D
 ·exact o.up qo
theorem DOk.compact2{c:Nat}{D:Dk}(h:DOk c D){W:Wl}(o:WBd c W)(hc:c<=1000000000)(i:Nat)(hi:i<18446744073709551616):DOk (c+3) (W.compact2 i D).2:=(h.compact1 o hc i hi).syncW _
theorem WBd.compact2{c:Nat}{W:Wl}(o:WBd c W)(i:Nat)(D:Dk):WBd (c+1) (W.compact2 i D).1:=(o.compact1 i D).sync _
theorem compact2_recs(W:Wl)(i:Nat)(D:Dk):(W.compact2 i D).1.first=W.first/\(W.compact2 i D).1.recs=W.recs:=by
 unfold Wl.compact2;rw[Wl.sync_eq];unfold Wl.compact1
 split
 ·exact begin_recs W i D
 ·exact ⟨I,I⟩
theorem DOk.wfree(i:Nat):∀ (f:Nat) (old:List (Nat×Nat)) (D:Dk) (c:Nat),DOk c D->DOk (c+old.length) (wfree i f old D).2.1/\(wfree i f old D).1 <:+ old
 | 0,old,D,c,h=>⟨h.up qo,List.suffix_refl _⟩
 | f+1,old,D,c,h=>by
  have hf:=h.free (segA (old.headD (0,0)).1);unfold Go.En.wfree
  split
  ·rename_i h1
   split
   ·exact ⟨hf.up qo,List.suffix_refl _⟩
   ·obtain ⟨g1,g2⟩:=DOk.wfree i f (old.drop 1) _ _ hf;refine ⟨g1.up (by rw[List.length_drop];omega),g2.trans (List.drop_suffix 1 old)⟩
  ·exact ⟨h.up qo,List.suffix_refl _⟩
theorem DOk.compact{c:Nat}{D:Dk}(h:DOk c D){W:Wl}(o:WBd c W)(hc:c<=1000000000)(i:Nat)(hi:i<18446744073709551616):DOk (c+3+(W.compact2 i D).1.old.length) (W.compact i D).2.1:=by
 have h2:=h.compact2 o hc i hi;have h3:=(DOk.wfree i ((W.compact2 i D).1.old.length+1) (W.compact2 i D).1.old (W.compact2 i D).2 _ h2).1;unfold Wl.compact
 split
 ·exact h.up qo
 ·split
  ·exact h.up qo
  ·split
   ·exact h.up qo
   ·split
    ·exact h2.up qo
    ·split
     ·exact h3
     ·exact h3
theorem WBd.compact{c:Nat}{W:Wl}(o:WBd c W)(i:Nat)(D:Dk):WBd (c+1) (W.compact i D).1:=by
 have h2:=o.compact2 i D;have hr:=compact2_recs W i D
 have hs:(Go.En.wfree i ((W.compact2 i D).1.old.length+1) (W.compact2 i D).1.old (W.compact2 i D).2).1 <:+ (W.compact2 i D).1.old:=by
  generalize (W.compact2 i D).1.old=old;generalize (W.compact2 i D).2=E;generalize old.length+1=f
  induction f generalizing old E with
  | zero=>exact List.suffix_refl _
  | succ f ih=>
   unfold Go.En.wfree
   split
   ·split
    ·exact List.suffix_refl _
    ·exact (ih _ _).trans<|List.drop_suffix 1 old
   ·exact List.suffix_refl _
 have hl:=o.last;unfold Wl.compact
 split
 ·exact o.up qo
 ·rename_i hcode
  split
  ·exact o.up qo
  ·split
   ·exact o.up qo
   ·split
    ·exact h2
    ·rename_i hc2
     split
     ·rename_i h6;exact ⟨h2.last,h2.recs,Nat.le_trans hs.length_le h2.old,h2.next,h2.op,fun q hq hc=>absurd hc h6,fun s hm=>h2.olds s (hs.subset hm),h2.recl⟩
     ·refine ⟨?_,?_,Nat.le_trans hs.length_le h2.old,h2.next,h2.op,h2.rest,fun s hm=>h2.olds s (hs.subset hm),fun r hm=>o.recl r (List.mem_of_mem_drop hm)⟩
      ·dsimp only;rw[List.length_drop];omega
      ·have:=o.recs;dsimp only;rw[List.length_drop];omega
theorem DOk.wreset:∀ (l:List Int) (D:Dk) (c:Nat),DOk c D->DOk (c+l.length) (wreset l D).1
 | [],D,c,h=>h.up qo
 | a::r,D,c,h=>by
  have hf:=h.free a;unfold Go.En.wreset
  split
  ·split
   ·exact (DOk.wreset r _ _ hf).up (by simp only[List.length_cons];omega)
   ·exact hf.up (by simp only[List.length_cons];omega)
  ·exact (DOk.wreset r _ _ h).up (by simp only[List.length_cons];omega)
theorem DOk.reset{c:Nat}{D:Dk}(h:DOk c D)(W:Wl)(first:Nat):DOk (c+(areasL D).length) (W.reset first D).2.1:=by
 have h1:=DOk.wreset (areasL D) D c h;unfold Wl.reset
 split
 ·exact h.up qo
 ·split
  ·exact h.up qo
  ·split
   ·exact h1
   ·exact h1
theorem WBd.reset{c:Nat}{W:Wl}(o:WBd c W)(first:Nat)(D:Dk):WBd c (W.reset first D).1:=by
 unfold Wl.reset
 split
 ·exact o
 ·split
  ·exact o
  ·split
   ·rename_i h1;exact ⟨o.last,o.recs,o.old,o.next,o.op,fun q hq hc=>absurd hc h1,o.olds,o.recl⟩
   ·exact ⟨by simp;omega,by simp,by simp,o.next,by simp,by simp,by simp,by simp⟩
end
section
attribute [local irreducible] Code.wp wpList Calls
theorem appendWC{w0:World}{K dh hv:PH}{m hs:List PH}(wb db:Nat)(W:Wl)(hW:WalM K wb db W m)(D:Dk)(c:Nat)(oD:DOk c D)(hc:c<=999999000)(hb:WBd c W)(hd:DskH K db D dh)(ab:Option Addr)(cb:Nat)(b:List UInt8)(hbl:b.length<1099511627776)(hin:In K hs hv)(x:IsS hv ab b.length cb 1 (bv b)):
  Ct Tryz.prog w0 74 [.pointer (some ⟨wb,0,none⟩),.slice ab b.length cb] K (m++dh::hs)
   (fun v K' hs'=>Le K K'/\∃ m' dh',hs'=m'++dh'::hs/\WalM K' wb db (W.append b D).1 m'/\DskH K' db (W.append b D).2.1 dh'/\v=.int .i64 (W.append b D).2.2):=by
 obtain ⟨ob,aL,cL,aO,cO,oH,rH,gL,gO,rfl,hop,hL,hO⟩:=id hW;have hlast:=hb.last;refine enter Tryz.func74 qk I I I (sq (rg (fin hT 1 I (th (sq (bk (sq (rg (ldp hT 3 0 I I I (cmpS hT 0 I fun b10 h10=>fin hT 1 I (th (ifP h10 I (fun e2=>?_) (fun e2=>?_)))))))))))))
 ·have e:W.append b D=(W,D,W.code):=by unfold Wl.append;rw[if_pos e2]
  rw[e];exact sq (rg (ldp hT 3 0 I I I (fin hT 1 I (th (rt (rB (rT (ret1 I I ⟨Le.refl _,_,_,I,hW,hd,I⟩))))))))
 ·have hcode:W.code=0:=Decidable.not_not.1 e2;refine sq (rg (cmpS hT 2 I fun b18 h18=>fin hT 1 I (th (ifP h18 I (fun e4=>?_) (fun e4=>?_)))))
  ·have e:W.append b D=(W,D,50):=by unfold Wl.append;rw[if_neg e2,if_pos qo]
   rw[e];exact sq (rg (fin hT 1 I (th (rt (rB (rT (ret1 I I ⟨Le.refl _,_,_,I,hW,hd,I⟩)))))))
  ·refine sq (rg (cl hT 1 I (lastWC wb db W hW hlast) ?_));rintro v21 K21 hs21 ⟨rfl,rfl,rfl⟩;refine ar hT 0 I (u64back _ (by unfold wTop at hlast;omega)) (cmpS hT 0 rfl fun b23 h23=>fin hT 1 rfl (th (ifP h23 rfl (fun e6=>?_) (fun e6=>?_))))
   ·have e:W.append b D=(W,D,51):=by unfold Wl.append;rw[if_neg e2,if_neg qo,if_pos (by unfold wTop;omega)]
    rw[e];exact sq (rg (fin hT 1 I (th (rt (rB (rT (ret1 I I ⟨Le.refl _,_,_,I,hW,hd,I⟩)))))))
   ·have e0:W.append b D=if wNeed W.op=true then
      (if (W.begin (W.first+W.recs.length) D).1.code≠0 then ((W.begin (W.first+W.recs.length) D).1,(W.begin (W.first+W.recs.length) D).2,(W.begin (W.first+W.recs.length) D).1.code)
       else wLay (W.begin (W.first+W.recs.length) D).1 b (W.begin (W.first+W.recs.length) D).2)
     else wLay W b D:=by unfold Wl.append;rw[if_neg e2,if_neg qo,if_neg (by unfold wTop;omega)]
    rw[e0];obtain ⟨B,hB⟩:∃ B,B=W.begin (W.first+W.recs.length) D:=⟨_,rfl⟩;have oB:DOk (c+2) B.2:=by rw[hB];exact oD.begin hb _ (by unfold wTop at hlast;omega) qo
    have bB:WBd (c+2) B.1:=by rw[hB];exact (hb.begin _ hlast D).up qo
    have rB2:=begin_recs W (W.first+W.recs.length) D;have oB2:B.1.code=0->B.1.op≠none:=by rw[hB];exact fun h=>(begin_op h).1
    rw[<-hB] at rB2 ⊢
    refine sk (bl (th (jnK (σ:=(Wl×Dk)×(List PH×PH)×PH) (fun _=>[(0,.pointer (some ⟨wb,0,none⟩)),(1,.slice ab b.length cb)]) (fun s=>s.2.2) (fun s=>s.2.1.1++s.2.1.2::hs)
     (fun s=>Le K21 s.2.2/\WalM s.2.2 wb db s.1.1 s.2.1.1/\DskH s.2.2 db s.1.2 s.2.1.2/\DOk (c+2) s.1.2/\WBd (c+2) s.1.1/\s.1.1.code=0/\s.1.1.op≠none/\s.1.1.first+s.1.1.recs.length<wTop /\
      (if wNeed W.op=true then (if B.1.code≠0 then (B.1,B.2,B.1.code) else wLay B.1 b B.2) else wLay W b D)=wLay s.1.1 b s.1.2) ?_ ?_)))
    ·refine sq (rg (ldp hT 3 0 I I I ?_));cases hwo:W.op with
     | none=>
      rw[hwo] at hop;obtain ⟨rfl,rfl,rfl⟩:=hop;refine En.cb hT 0 I (fun h=>cl hT 13 I (lastWC wb db W hW hlast) ?_) (fun h=>by simp at h);rintro v42 K42 hs42 ⟨rfl,rfl,rfl⟩;refine ar hT 0 I (u64back _ (by unfold wTop at hlast;omega)) (cl hT 0 rfl (beginWC wb db W hW D c oD.ok qo hb hd (W.first+W.recs.length) (by unfold wTop at hlast;omega)) ?_);rintro v44 K44 hs44 ⟨le,m',dh',rfl,hW',hd',rfl⟩;rw[<-hB] at hW' hd' ⊢;refine cmpS hT 0 I fun b45 h45=>fin hT 1 I (th (ifP h45 I (fun e12=>?_) (fun e12=>?_)))
      ·rw[if_pos (by rfl),if_pos e12];obtain ⟨ob2,aL2,cL2,aO2,cO2,oH2,rH2,gL2,gO2,rfl,hop2,hL2,hO2⟩:=id hW';exact sq (rg (ldp hT 3 0 I I I (fin hT 1 I (th (rt (rT (ret1 I I ⟨le,_,_,I,hW',hd',I⟩)))))))
      ·have e12:=Decidable.not_not.1 e12;exact sk (jxK ((B.1,B.2),(m',dh'),K44) ⟨le,hW',hd',oB,bB,e12,oB2 e12,by rw[rB2.1,rB2.2];unfold wTop at hlast ⊢;omega,by rw[if_pos (by rfl),if_neg (by rw[e12];simp)]⟩ ⟨rfl,rfl,trivial⟩ rfl rfl)
     | some o=>
      rw[hwo] at hop;obtain ⟨b1,aR,cR,rfl,rfl,oR⟩:=hop;refine En.cb hT 0 I (fun h=>by simp at h) (fun h=>ldp hT 4 0 I I I (ldp hT 2 1 I I I (cmp hT 0 I (fun h37=>?_) (fun h37=>?_))))
      ·have hneed:wNeed (some o)=true:=decide_eq_true qo;refine cl hT 4 I (lastWC wb db W hW hlast) ?_;rintro v42 K42 hs42 ⟨rfl,rfl,rfl⟩;refine ar hT 0 I (u64back _ (by unfold wTop at hlast;omega)) (cl hT 0 rfl (beginWC wb db W hW D c oD.ok qo hb hd (W.first+W.recs.length) (by unfold wTop at hlast;omega)) ?_);rintro v44 K44 hs44 ⟨le,m',dh',rfl,hW',hd',rfl⟩;rw[<-hB] at hW' hd' ⊢;refine cmpS hT 0 I fun b45 h45=>fin hT 1 I (th (ifP h45 I (fun e12=>?_) (fun e12=>?_)))
       ·rw[if_pos hneed,if_pos e12];obtain ⟨ob2,aL2,cL2,aO2,cO2,oH2,rH2,gL2,gO2,rfl,hop2,hL2,hO2⟩:=id hW';exact sq (rg (ldp hT 3 0 I I I (fin hT 1 I (th (rt (rT (ret1 I I ⟨le,_,_,I,hW',hd',I⟩)))))))
       ·have e12:=Decidable.not_not.1 e12;exact sk (jxK ((B.1,B.2),(m',dh'),K44) ⟨le,hW',hd',oB,bB,e12,oB2 e12,by rw[rB2.1,rB2.2];unfold wTop at hlast ⊢;omega,by rw[if_pos hneed,if_neg (by rw[e12];simp)]⟩ ⟨rfl,rfl,trivial⟩ rfl rfl)
      ·have hneed:¬wNeed (some o)=true:=by simp only[wNeed,decide_eq_true_eq];omega
       exact fin hT 9 I (th (ifF I (sk (jxK ((W,D),([_,_,_,_,_],dh),K21) ⟨Le.refl _,hW,hd,oD.up qo,hb.up qo,hcode,by rw[hwo];simp,by dsimp only;unfold wTop at hlast ⊢;omega,by rw[if_neg hneed]⟩ ⟨rfl,rfl,trivial⟩ rfl rfl))))
    ·clear oB2 rB2 bB oB hop hL hO;rintro ⟨⟨V,E⟩,⟨m1,eh⟩,K1⟩ ⟨le,hV,hE,oE,bV,hcV,hoV,hlV,heq⟩;dsimp only at *;rw[heq];clear heq;obtain ⟨ob,aL,cL,aO,cO,oH,rH,gL,gO,rfl,hop,hL,hO⟩:=id hV;obtain ⟨op,first,recs,old,next,code⟩:=V;dsimp only at *;subst hcV;cases op with
     | none=>exact absurd rfl hoV
     | some o=>
      obtain ⟨b1,aR,cR,rfl,rfl,oR⟩:=hop;have hq:=bV.op o rfl;have hr:=bV.rest o rfl rfl;have hrl:=bV.recs;unfold wMany at hq;dsimp only at hq hr hrl;have hpb:=putBytes_le (b:=b) qo;have eL:wLay ⟨some o,first,recs,old,next,0⟩ b E=(⟨some (wrO o (putBytes b) E).1,first,if (wrO o (putBytes b) E).2.2=0 then recs++[b] else recs,old,next,(wrO o (putBytes b) E).2.2⟩,(wrO o (putBytes b) E).2.1,(wrO o (putBytes b) E).2.2):=rfl;rw[eL];refine sq (sq (rg (WL.em ?_)));obtain ⟨hv',hin',lev⟩:=hin.le le;refine cl hT 2 I (putBytesC none 0 [] ab cb b (Own.nil _ _) (hin'.tail (_::_::_::_::_::[eh])) (x.le lev) (by decide) qo) ?_;rintro v53 K53 hs53 ⟨hu,rfl,rfl,ao',c',rfl,ou⟩;rw[List.nil_append] at ou;refine WL.frz fun K2 l1 l2=>?_;obtain ⟨hv2,hin2,lev2⟩:=hin'.le l1;refine cl hT 0 I (writeWC wb db b1 first _ _ next o aR cR oR qo E (c+2) oE.ok qo (hE.le l1) qo qo ao' c' (putBytes b) ⟨hpb.1,by omega⟩ (.inl I) (ou.isS.le l2)) ?_
      rintro v54 K54 hs54 ⟨le3,aR',cR',rH',dh',rfl,oR',hd',rfl⟩;obtain ⟨hv3,hin3,lev3⟩:=hin2.le le3;have le4:=le.trans (l1.trans le3);refine cmpS hT 0 I fun b55 h55=>fin hT 0 I (th (ifP h55 I (fun e14=>?_) (fun e14=>?_)))
      ·rw[if_pos e14];refine rga [pt wb (wlA db (some b1) first (.slice aL recs.length cL) (.slice aO old.length cO) next (wrO o (putBytes b) E).2.2) 146] 11 [0,2,4,6,8,10,13,15,17,18,20,23] (by simp) qk qk (dldpw hT qk 4 0 I qk I I (dact hT qk 1 I (cl hT 0 I (cloneB ab cb b (hin3.tail (_::_::_::_::_::[dh'])) (((x.le lev).le lev2).le lev3) qo) ?_)));rintro v62 K62 hs62 ⟨rfl,g,aoc,cc,rfl,rfl,og⟩;refine WL.frz fun K3 l3 l4=>dnexL [pt wb (wlA db (some b1) first (.slice aL recs.length cL) (.slice aO old.length cO) next (wrO o (putBytes b) E).2.2) 146] (by simp) (by simp) l3 (dact hT qk 0 I (lit hT 0 #[.slice aoc b.length cc] I (by decide) qk fun b63=>dnex [pt wb (wlA db (some b1) first (.slice aL recs.length cL) (.slice aO old.length cO) next (wrO o (putBytes b) E).2.2) 146] (by simp) (by simp) I (dact hT qk 0 I (appSq (R:=recR K3) hT 0 4 [.slice aoc b.length cc] b I I I (hL.imp fun _ _ h=>((h.le l1).le le3).le l3) ⟨aoc,cc,I,og.isS.le l4⟩ I (by simp[Value.oneCell']) I (by decide) (by show (recs.length+1)*24<=_;omega) (by simp only[maxLen];omega) fun ao64 c64 g64 o64=>dnex [pt wb (wlA db (some b1) first (.slice aL recs.length cL) (.slice aO old.length cO) next (wrO o (putBytes b) E).2.2) 146] (by simp) (by simp) rfl (dact hT qk 2 rfl (stp hT 0 1 rfl rfl rfl rfl (dnext (.inl qk) (dend hT qk 0 rfl (th (sq (rg (WL.drop ?_))))))))))))
       refine ldp hT 3 0 I I I<|fin hT 1 I (th<|rt (ret1 I I ⟨le4.trans l3,[_,_,_,_,_],dh',I,⟨some b1,ao64,c64,aO,cO,_,rH',g64,gO,?_,⟨b1,aR',cR',I,I,oR'⟩,?_,hO⟩,hd'.le l3,I⟩))
       ·dsimp only;rw[List.length_append];rfl
       ·dsimp only;rw[List.length_append];exact o64
      ·rw[if_neg e14];exact sk (th (sq (rg (ldp hT 3 0 I I I (fin hT 1 I (th (rt (ret1 I I ⟨le4,[_,_,_,_,_],dh',I,⟨some b1,aL,cL,aO,cO,_,rH',gL,gO,I,⟨b1,aR',cR',I,I,oR'⟩,hL.imp fun _ _ h=>(h.le l1).le le3,hO⟩,hd',I⟩))))))))
theorem truncWC{w0:World}{K dh:PH}{m hs:List PH}(wb db:Nat)(W:Wl)(hW:WalM K wb db W m)(D:Dk)(c:Nat)(oD:DOk c D)(hc:c<=999999000)(hb:WBd c W)(hd:DskH K db D dh)(i:Nat)(hi:i<18446744073709551616):
  Ct Tryz.prog w0 40 [.pointer (some ⟨wb,0,none⟩),.int .u64 (i:Nat)] K (m++dh::hs)
   (fun v K' hs'=>Le K K'/\∃ m' dh',hs'=m'++dh'::hs/\WalM K' wb db (W.truncate i D).1 m'/\DskH K' db (W.truncate i D).2.1 dh'/\v=.int .i64 (W.truncate i D).2.2):=by
 obtain ⟨ob,aL,cL,aO,cO,oH,rH,gL,gO,rfl,hop,hL,hO⟩:=id hW;have hlast:=hb.last;have hrl:=hb.recs;unfold wTop at hlast;refine enter Tryz.func40 qk I I I (sq (rg (fin hT 1 I (th (sq (bk (sq (rg (ldp hT 3 0 I I I (cmpS hT 0 I fun b10 h10=>fin hT 1 I (th (ifP h10 I (fun e2=>?_) (fun e2=>?_)))))))))))))
 ·have e:W.truncate i D=(W,D,W.code):=by unfold Wl.truncate;rw[if_pos e2]
  rw[e];exact sq (rg (ldp hT 3 0 I I I (fin hT 1 I (th (rt (rB (rT (ret1 I I ⟨Le.refl _,_,_,I,hW,hd,I⟩))))))))
 ·have hcode:W.code=0:=Decidable.not_not.1 e2;refine sq (rga [pt wb (wlA db ob W.first (.slice aL W.recs.length cL) (.slice aO W.old.length cO) W.next W.code) 146] 22 [0,2,4,6,8,10,12,14,16,18,20,22,24,26,28,30,32,34,36,38,40,42] (by simp) qk qk (dldp hT qk 4 0 I I I (dcmp hT qk 0 (i<W.first) I (by simp) (fun h3=>?_) (fun h3=>?_))))
  ·have e:W.truncate i D=(W,D,51):=by unfold Wl.truncate;rw[if_neg e2,if_pos (.inl h3)]
   rw[e];exact dend hT qk 16 I (th (ifT I (sq (rg (fin hT 1 I (th (rt (rB (rT (ret1 I I ⟨Le.refl _,_,_,I,hW,hd,I⟩))))))))))
  ·refine dldp hT qk 5 0 I I I (dar hT qk 0 I (v':=.int .u64 (i-W.first:Nat)) (by rw[show ((i:Nat):Int)-((W.first:Nat):Int)=((i-W.first:Nat):Int) from by omega];exact u64w qo) (dldp hT qk 3 0 I I I (dar hT qk 1 I (u64w (x:=((W.recs.length:Nat):Int)) qo) (dcbS hT qk 0 (W.recs.length<i-W.first) I (by simp) fun b35 h35=>dend hT qk 2 I (th (ifP h35 I (fun e4=>?_) (fun e4=>?_)))))))
   ·have e:W.truncate i D=(W,D,51):=by unfold Wl.truncate;rw[if_neg e2,if_pos (.inr e4)]
    rw[e];exact sq (rg (fin hT 1 I (th (rt (rB (rT (ret1 I I ⟨Le.refl _,_,_,I,hW,hd,I⟩)))))))
   ·refine sq (rga [pt wb (wlA db ob W.first (.slice aL W.recs.length cL) (.slice aO W.old.length cO) W.next W.code) 146] 14 [0,2,4,6,8,10,12,14,16,18,20,22,24,26] (by simp) qk qk (dldp hT qk 4 0 I I I (dar hT qk 0 I (v':=.int .u64 (i-W.first:Nat)) (by rw[show ((i:Nat):Int)-((W.first:Nat):Int)=((i-W.first:Nat):Int) from by omega];exact u64w qo) (dldp hT qk 3 0 I I I (dar hT qk 1 I (u64w (x:=((W.recs.length:Nat):Int)) qo) (dcbS hT qk 0 (i-W.first=W.recs.length) I (by simp;omega) fun b50 h50=>dend hT qk 1 rfl (th (ifP h50 rfl (fun e5=>?_) (fun e5=>?_)))))))))
    ·have e:W.truncate i D=(W,D,0):=by unfold Wl.truncate;rw[if_neg e2,if_neg qo,if_pos e5]
     rw[e];exact sq (rg (fin hT 1 I (th (rt (rB (rT (ret1 I I ⟨Le.refl _,_,_,I,hW,hd,I⟩)))))))
    ·have e:W.truncate i D=(if (W.begin i D).1.code=0 then { (W.begin i D).1 with recs:=W.recs.take (i-W.first) } else (W.begin i D).1,(W.begin i D).2,(W.begin i D).1.code):=by
      unfold Wl.truncate;rw[if_neg e2,if_neg qo,if_neg e5]
     rw[e];refine sk (bl (th (sq (sq (rg (cl hT 2 I (beginWC wb db W hW D c oD.ok qo hb hd i hi) ?_))))));rintro v53 K53 hs53 ⟨le,m',dh',rfl,hW',hd',rfl⟩;have hr:=begin_recs W i D;obtain ⟨B,hB⟩:∃ B,B=W.begin i D:=⟨_,rfl⟩;rw[<-hB] at hW' hd' hr ⊢;refine cmpS hT 0 I fun b54 h54=>fin hT 0 I (th (ifP h54 I (fun e7=>?_) (fun e7=>?_)))
     ·rw[if_pos e7];obtain ⟨ob2,aL2,cL2,aO2,cO2,oH2,rH2,gL2,gO2,rfl,hop2,hL2,hO2⟩:=hW';obtain ⟨⟨op,first,recs,old,next,code⟩,E⟩:=B;dsimp only at *;obtain ⟨rfl,rfl⟩:=hr;have hcap:=hL2.caps;refine rga [pt wb (wlA db ob2 W.first (.slice aL2 W.recs.length cL2) (.slice aO2 old.length cO2) next code) 146] 14 [0,2,4,6,8,10,12,14,16,18,20,22,24,26,29] (by simp) qk qk (dldpw hT qk 4 0 I qk I I (dldpw hT qk 4 0 I qk I I (dar hT qk 0 I (v':=.int .u64 (i-W.first:Nat)) (by rw[show ((i:Nat):Int)-((W.first:Nat):Int)=((i-W.first:Nat):Int) from by omega];exact u64w qo) (dslx hT qk 0 0 (i-W.first) I I I (by show ((i-W.first:Nat):Int)=((0+(i-W.first):Nat):Int);omega) qo (dact hT qk 2 rfl (stp hT 0 0 rfl rfl rfl rfl (dnext (.inl qk) ?_)))))));obtain ⟨gL3,hg3,hL3⟩:=hL2.cut 0 (i-W.first) qo
      refine dend hT qk 0 I (th (sq (WC.loss 3 gL3 I hg3 (rg (ldp hT 3 0 I I I (fin hT 1 I (th (rt ?_))))))));have hlen:(W.recs.take (i-W.first)).length=i-W.first:=by rw[List.length_take];omega
      refine ret1 I I ⟨le,[_,_,_,_,_],dh',I,⟨ob2,cutA aL2 cL2 0 1,cL2-0,aO2,cO2,oH2,rH2,gL3,gO2,?_,hop2,?_,hO2⟩,hd',I⟩
      ·dsimp only;rw[hlen];rfl
      ·dsimp only;rw[hlen,<-List.drop_zero (l:=W.recs)];exact hL3
     ·rw[if_neg e7];obtain ⟨ob2,aL2,cL2,aO2,cO2,oH2,rH2,gL2,gO2,rfl,hop2,hL2,hO2⟩:=id hW';exact sk (th (sq (rg (ldp hT 3 0 I I I (fin hT 1 I (th (rt (ret1 I I ⟨le,_,_,I,hW',hd',I⟩))))))))
end
section
theorem SlZ.gets{α:Type}{R:List Value->α->Prop}{size e:Nat}{h:PH}{ao:Option Addr}{n cap:Nat}{xs:List α}(x:SlZ size e R h ao n cap xs)(hs:0<size){i:Nat}{y:α}(hy:xs[i]?=some y):
  ∃ c,R c y/\c.length=size/\∃ g off cur,ao=some ⟨g,off,none⟩/\h=pt g cur e/\∀ (j:Nat) v,c[j]?=some v->cur[off+i*size+j]?=some v:=by
 obtain ⟨css,h1,h2,h3,h4⟩:=x;obtain ⟨c,hc,hR⟩:=h3.get hy;have hl:=h4 c (List.mem_of_getElem? hc);have hi:i<n:=by rw[h1];exact (List.getElem?_eq_some_iff.1 hy).1
 refine ⟨c,hR,hl,?_⟩;rcases h2 with ⟨g1,g2,g3,⟨g4,g5,g6⟩|⟨g,off,cur,g4,g5,g6,g7⟩⟩|⟨rfl,_⟩
 ·omega
 ·refine ⟨g,off,cur,g4,g5,fun j v hv=>?_⟩;have hj:j<size:=by rw[<-hl];exact (List.getElem?_eq_some_iff.1 hv).1
  have hf:=flat_get h4 hc j v hv
  have hlt:i*size+j<n*size:=by
   have:(i+1)*size<=n*size:=Nat.mul_le_mul_right _ hi;rw[Nat.add_mul] at this;omega
  rw[<-g7,List.getElem?_take_of_lt hlt,List.getElem?_drop] at hf;rw[Nat.add_assoc];simpa using hf
 ·omega
theorem wfree_step(i f:Nat)(old:List (Nat×Nat))(D:Dk):wfree i (f+1) old D=if 1<old.length/\wfreed old i=true then
   (if (D.free (segA (old.headD (0,0)).1)).2≠0 then (old,(D.free (segA (old.headD (0,0)).1)).1,(D.free (segA (old.headD (0,0)).1)).2)
    else wfree i f (old.drop 1) (D.free (segA (old.headD (0,0)).1)).1)
  else (old,D,0):=rfl
attribute [local irreducible] Code.wp wpList Calls
theorem freedC{w0:World}{K oH rH gL gO:PH}{hs:List PH}(wb db:Nat)(ob:Option Nat)(first:Nat)(lv:Value)(next:Nat)(code:Int)(aO:Option Addr)(cO:Nat)(old:List (Nat×Nat))(hO:SlZ 2 173 segR gO aO old.length cO old)(h1:1<old.length)(hl:old.length<=1099511627776)(i:Nat):
  Ct Tryz.prog w0 130 [.pointer (some ⟨wb,0,none⟩),.int .u64 (i:Nat)] K (pt wb (wlA db ob first lv (.slice aO old.length cO) next code) 146::oH::rH::gL::gO::hs)
   (fun v K' hs'=>K'=K/\hs'=pt wb (wlA db ob first lv (.slice aO old.length cO) next code) 146::oH::rH::gL::gO::hs/\v=.bool (wfreed old i)):=by
 have hcap:=hO.caps;have hS:=hO.slS.cut 1 qo;obtain ⟨a,ha⟩:=hS.addr qo (by decide);rw[ha] at hS;obtain ⟨vs,xs⟩:=hS.isS;refine enter Tryz.func130 qk I I I (sq (rg (fin hT 1 I (th (sq (sq (rg (ldp hT 3 0 I I I (slx hT 0 1 (old.length-1) I I (by show ((old.length:Nat):Int)=_;omega) qo ?_)))))))));rw[show cutA aO cO 1 2=some a from ha];refine fin hT 2 I (th (bk ?_))
 refine loop (σ:=Nat) (fun j=>[(1,.int .u64 (i:Nat)),(11,.slice (some a) (old.length-1) (cO-1)),(12,.int .i64 (old.length-1:Nat)),(13,.int .i64 (j:Nat))]) (fun _=>K) (fun _=>pt wb (wlA db ob first lv (.slice aO old.length cO) next code) 146::oH::rH::gL::gO::hs)
  (fun j=>j<=old.length-1/\((old.drop 1).take j).any (fun s=>decide (s.2<=i))=false) (fun j=>old.length-1-j) 0 ⟨Nat.zero_le _,rfl⟩ ⟨rfl,rfl,rfl,rfl,trivial⟩ rfl rfl ?_
 rintro j ⟨hj,hno⟩;refine sq (rg (cmpS hT 0 I fun b14 h14=>fin hT 0 I (th (sq (ifP h14 I (fun e2=>?_) (fun e2=>?_))))))
 ·have hjl:j<(old.drop 1).length:=by rw[List.length_drop];omega
  obtain ⟨cs,hc,hcl,hcell⟩:=hS.cells (i:=j) (x:=(old.drop 1)[j]) (List.getElem?_eq_getElem hjl);obtain ⟨s,hs0⟩:∃ s,s=(old.drop 1)[j]:=⟨_,rfl⟩;rw[<-hs0] at hc;have hc:cs=[.int .u64 s.1,.int .u64 s.2]:=hc;subst hc;refine sk (th (sq (bk (sq (rg (ixs hT 0 j I I xs qo (by decide) fun a15 h15=>?_))))));cases h15;refine lds hT 0 [.int .u64 s.1,.int .u64 s.2] I qk (.inr ⟨4,I⟩) hcell (al hT 0 (.agg #[.int .u64 0,.int .u64 0]) I qk fun b6=>stS hT 0 0 I I qk I I (fin hT 0 I (th (sq (rg (ldp hT 1 0 I I I (cmpS hT 1 I fun b20 h20=>?_)))))));have htk:((old.drop 1).take (j+1))=((old.drop 1).take j)++[s]:=by rw[List.take_add_one,List.getElem?_eq_getElem hjl,hs0];rfl
  refine fin hT 0 I<|th (ifP h20 I (fun e4=>?_) (fun e4=>?_))
  ·have he:wfreed old i=true:=by
    unfold wfreed;rw[List.any_eq_true];exact ⟨s,by rw[hs0];exact List.getElem_mem _,decide_eq_true qo⟩
   rw[he];exact sq (rg (fin hT 1 I (th (rt (rB (rT (rT (rB (rT (WQ.drop (ret1 I I ⟨I,I,I⟩)))))))))))
  ·refine sk (bl (th (rg (ar hT 0 I (i64w (x:=((j+1:Nat):Int)) qo) (fin hT 1 I (WQ.drop (again (x:=j) (j+1) ⟨I,I,I,I,trivial⟩ I I ⟨by omega,?_⟩ qo)))))));rw[htk,List.any_append,hno];simp only[List.any_cons,List.any_nil,Bool.or_false,Bool.false_or,decide_eq_false_iff_not];omega
 ·have he:wfreed old i=false:=by
   unfold wfreed;rw[List.take_of_length_le (by rw[List.length_drop];omega)] at hno;exact hno
  rw[he];exact ex (xt (xt (xb (th (sq (rg (fin hT 1 I (th (rt (ret1 I I ⟨I,I,I⟩))))))))))
theorem compactWC{w0:World}{K dh:PH}{m hs:List PH}(wb db:Nat)(W:Wl)(hW:WalM K wb db W m)(D:Dk)(c:Nat)(oD:DOk c D)(hc:c<=499999000)(hb:WBd c W)(hol:W.old.length<=c)(hd:DskH K db D dh)(i:Nat)(hi:i<18446744073709551616):
  Ct Tryz.prog w0 83 [.pointer (some ⟨wb,0,none⟩),.int .u64 (i:Nat)] K (m++dh::hs)
   (fun v K' hs'=>Le K K'/\∃ m' dh',hs'=m'++dh'::hs/\WalM K' wb db (W.compact i D).1 m'/\DskH K' db (W.compact i D).2.1 dh'/\v=.int .i64 (W.compact i D).2.2):=by
 obtain ⟨ob,aL,cL,aO,cO,oH,rH,gL,gO,rfl,hop,hL,hO⟩:=id hW;have hlast:=hb.last;have hlast0:=hb.last;have hrl:=hb.recs;unfold wTop at hlast;refine enter Tryz.func83 qk I I I (sq (rg (fin hT 1 I (th (sq (bk (sq (rg (ldp hT 3 0 I I I (cmpS hT 0 I fun b10 h10=>fin hT 1 I (th (ifP h10 I (fun e2=>?_) (fun e2=>?_)))))))))))))
 ·have e:W.compact i D=(W,D,W.code):=by unfold Wl.compact;rw[if_pos e2]
  rw[e];exact sq (rg (ldp hT 3 0 I I I (fin hT 1 I (th (rt (rB (rT (ret1 I I ⟨Le.refl _,_,_,I,hW,hd,I⟩))))))))
 ·have hcode:W.code=0:=Decidable.not_not.1 e2;refine sq (rg (ldp hT 4 0 I I I (cmpS hT 0 I fun b21 h21=>fin hT 1 I (th (ifP h21 I (fun e4=>?_) (fun e4=>?_))))))
  ·have e:W.compact i D=(W,D,0):=by unfold Wl.compact;rw[if_neg e2,if_pos qo]
   rw[e];exact sq (rg (fin hT 1 I (th (rt (rB (rT (ret1 I I ⟨Le.refl _,_,_,I,hW,hd,I⟩)))))))
  ·refine sq (rga [pt wb (wlA db ob W.first (.slice aL W.recs.length cL) (.slice aO W.old.length cO) W.next W.code) 146] 14 [0,2,4,6,8,10,12,14,16,18,20,22,24,26] (by simp) qk qk (dldp hT qk 4 0 I I I (dar hT qk 0 I (v':=.int .u64 (i-W.first:Nat)) (by rw[show ((i:Nat):Int)-((W.first:Nat):Int)=((i-W.first:Nat):Int) from by omega];exact u64w qo) (dldp hT qk 3 0 I I I (dar hT qk 1 I (u64w (x:=((W.recs.length:Nat):Int)) qo) (dcbS hT qk 0 (W.recs.length<i-W.first) I (by simp) fun b35 h35=>dend hT qk 1 I (th (ifP h35 I (fun e5=>?_) (fun e5=>?_)))))))))
   ·have e:W.compact i D=(W,D,51):=by unfold Wl.compact;rw[if_neg e2,if_neg qo,if_pos e5]
    rw[e];exact sq (rg (fin hT 1 I (th (rt (rB (rT (ret1 I I ⟨Le.refl _,_,_,I,hW,hd,I⟩)))))))
   ·refine sk (bl (th (jnK (σ:=(List PH×PH)×PH) (fun _=>[(0,.pointer (some ⟨wb,0,none⟩)),(1,.int .u64 (i:Nat))]) (fun s=>s.2) (fun s=>s.1.1++s.1.2::hs)
     (fun s=>Le K s.2/\WalM s.2 wb db (W.compact1 i D).1 s.1.1/\DskH s.2 db (W.compact1 i D).2 s.1.2) ?_ ?_)))
    ·refine sq (rg (cl hT 2 I (lastWC wb db W hW hlast0) ?_));rintro v38 K38 hs38 ⟨rfl,rfl,rfl⟩;refine ar hT 0 I (u64back _ qo) (cmpS hT 0 I fun b40 h40=>fin hT 0 I (th (ifP h40 I (fun e7=>?_) (fun e7=>?_))))
     ·have e:W.compact1 i D=W.begin i D:=by unfold Wl.compact1;rw[if_pos qo]
      rw[e];refine rg (cl hT 2 I (beginWC wb db W hW D c oD.ok qo hb hd i hi) ?_);rintro v43 K43 hs43 ⟨le,m',dh',rfl,hW',hd',rfl⟩;exact fin hT 0 I (jxK ((m',dh'),K43) ⟨le,hW',hd'⟩ ⟨I,I,trivial⟩ I I)
     ·have e:W.compact1 i D=(W,D):=by unfold Wl.compact1;rw[if_neg qo]
      rw[e];exact sk (jxK (([_,_,_,_,_],dh),K38) ⟨Le.refl _,hW,hd⟩ ⟨I,I,trivial⟩ I I)
    ·rintro ⟨⟨m1,eh⟩,K1⟩ ⟨le,hV,hE⟩;dsimp only at *;have o1:=oD.compact1 hb qo i hi;have b1:=hb.compact1 i D;have o2:=oD.compact2 hb qo i hi;have b2:=hb.compact2 i D;have r2:=compact2_recs W i D
     have hol2:(W.compact2 i D).1.old.length<=c+1:=by
      unfold Wl.compact2;rw[Wl.sync_eq];unfold Wl.compact1
      split
      ·unfold Wl.begin
       split
       ·rw[Wl.sync_eq];dsimp only;omega
       ·rw[Wl.sync_eq];dsimp only;rw[List.length_append];simp only[List.length_cons,List.length_nil];omega
      ·dsimp only;omega
     refine sq (sq (rg (cl hT 1 I (syncWC wb db (W.compact1 i D).1 hV (W.compact1 i D).2 (c+2) o1.ok qo (b1.up qo) hE) ?_)));rintro v45 K45 hs45 ⟨rfl,m2,eh2,rfl,hV2,hE2,rfl⟩;have hc2:((W.compact1 i D).1.sync (W.compact1 i D).2)=W.compact2 i D:=rfl;rw[hc2] at hV2 hE2 ⊢
     have e0:W.compact i D=if (W.compact2 i D).1.code≠0 then ((W.compact2 i D).1,(W.compact2 i D).2,(W.compact2 i D).1.code)
      else if (wfree i ((W.compact2 i D).1.old.length+1) (W.compact2 i D).1.old (W.compact2 i D).2).2.2≠0 then
       ({ (W.compact2 i D).1 with old:=(wfree i ((W.compact2 i D).1.old.length+1) (W.compact2 i D).1.old (W.compact2 i D).2).1,code:=(wfree i ((W.compact2 i D).1.old.length+1) (W.compact2 i D).1.old (W.compact2 i D).2).2.2 },(wfree i ((W.compact2 i D).1.old.length+1) (W.compact2 i D).1.old (W.compact2 i D).2).2.1,(wfree i ((W.compact2 i D).1.old.length+1) (W.compact2 i D).1.old (W.compact2 i D).2).2.2)
      else ({ (W.compact2 i D).1 with old:=(wfree i ((W.compact2 i D).1.old.length+1) (W.compact2 i D).1.old (W.compact2 i D).2).1,recs:=W.recs.drop (i-W.first),first:=i },(wfree i ((W.compact2 i D).1.old.length+1) (W.compact2 i D).1.old (W.compact2 i D).2).2.1,0):=by
      unfold Wl.compact;rw[if_neg e2,if_neg qo,if_neg e5]
     rw[e0];clear e0 hc2;obtain ⟨Z,hZ⟩:∃ Z,Z=W.compact2 i D:=⟨_,rfl⟩;rw[<-hZ] at hV2 hE2 r2 o2 b2 hol2 ⊢;clear hZ hV hE o1 b1;obtain ⟨⟨op,first,recs,old,next,code⟩,E⟩:=Z;dsimp only at *;obtain ⟨rfl,rfl⟩:=r2;refine cmpS hT 0 I fun b46 h46=>fin hT 0 I (th (ifP h46 I (fun e9=>?_) (fun e9=>?_)))
     ·rw[if_pos e9];obtain ⟨ob2,aL2,cL2,aO2,cO2,oH2,rH2,gL2,gO2,rfl,hop2,hL2,hO2⟩:=id hV2;exact sq (rg (ldp hT 3 0 I I I (fin hT 1 I (th (rt (rT (ret1 I I ⟨le,_,_,I,hV2,hE2,I⟩)))))))
     ·obtain rfl:code=0:=Decidable.not_not.1 e9;rw[if_neg (by simp)];obtain ⟨ob2,aL2,cL2,aO2,cO2,oH2,rH2,gL2,gO2,rfl,hop2,hL2,hO2⟩:=hV2;dsimp only at *;have hcapL:=hL2.caps;obtain ⟨R,hR⟩:∃ R,R=wfree i (old.length+1) old E:=⟨_,rfl⟩;rw[<-hR];refine sk (th (sq (bk ?_)))
      refine loop (σ:=(Nat×List (Nat×Nat)×Dk)×(Option Addr×Nat×PH×PH)) (fun _=>[(0,.pointer (some ⟨wb,0,none⟩)),(1,.int .u64 (i:Nat))]) (fun _=>K45)
       (fun s=>pt wb (wlA db ob2 W.first (.slice aL2 W.recs.length cL2) (.slice s.2.1 s.1.2.1.length s.2.2.1) next 0) 146::oH2::rH2::gL2::s.2.2.2.1::s.2.2.2.2::hs)
       (fun s=>wfree i s.1.1 s.1.2.1 s.1.2.2=R/\s.1.2.1.length<s.1.1/\s.1.2.1.length<=old.length/\(∀ x∈s.1.2.1,x.1<=wMany+(c+1))/\DOk (c+3+(old.length-s.1.2.1.length)) s.1.2.2/\DskH K45 db s.1.2.2 s.2.2.2.2/\SlZ 2 173 segR s.2.2.2.1 s.2.1 s.1.2.1.length s.2.2.1 s.1.2.1)
       (fun s=>s.1.1) ((old.length+1,old,E),(aO2,cO2,gO2,eh2)) ⟨hR.symm,by dsimp only;omega,Nat.le_refl _,fun x hx=>(b2.olds x hx).1,by dsimp only;exact o2.up qo,hE2,hO2⟩ ⟨I,I,trivial⟩ I I ?_
      rintro ⟨⟨f,old1,E1⟩,⟨aO1,cO1,gO1,eh1⟩⟩ ⟨hw,hlf,hlo,hmany,oE,hE1,hO1⟩;dsimp only at *;obtain ⟨f,rfl⟩:∃ g,f=g+1:=⟨f-1,by omega⟩;rw[wfree_step] at hw;refine sq (sq (rg (ldp hT 3 0 I I I (cmpS hT 1 I fun b56 h56=>?_))))
      refine' bja (q:=wfreed old1 i=true) hT 1 4 61 [56,57] h56 I I I I I I I (fun hp1=>?x11) (fun b61 h61=>?_)
      case x11=>
       refine cl hT 2 I (freedC wb db ob2 W.first _ next 0 aO1 cO1 old1 hO1 qo qo i) ?_;rintro v60 K60 hs60 ⟨rfl,rfl,rfl⟩;exact nmS fun b60 h60=>fin hT 1 I (bjx h60 I I I)
      refine fin hT 0 I<|th (ifP h61 I (fun e12=>?_) (fun e12=>?_))
      ·rw[if_pos ⟨by omega,e12.2⟩] at hw;have hl1:1<old1.length:=by omega
       obtain ⟨s,hs0⟩:∃ s,old1[0]?=some s:=⟨old1[0]'qo,List.getElem?_eq_getElem qo⟩
       have hhd:old1.headD (0,0)=s:=by
        cases old1 with
        | nil=>simp at hl1
        | cons a l=>simpa using hs0
       rw[hhd] at hw;have hs1:=hmany s (List.mem_of_getElem? hs0);unfold wMany at hs1;obtain ⟨cs,hcs,hcl,g,off,cur,rfl,rfl,hcur⟩:=hO1.gets (by decide) hs0;have hcs:cs=[.int .u64 s.1,.int .u64 s.2]:=hcs;subst hcs;have hcap1:=hO1.caps;refine sk (th (bk (sq (sq (rga [pt wb (wlA db ob2 W.first (.slice aL2 W.recs.length cL2) (.slice (some ⟨g,off,none⟩) old1.length cO1) next 0) 146,pt g cur 173] 14 [0,2,4,6,8,10,12,14,16,18,20,22,25,27,29,30] (by simp) qk qk (dldtp [13] hT qk 4 0 I qk I I (dldtp [13,12,11,10,9] hT qk 3 0 I qk I I (dixs hT qk 0 0 I I qo ?_))))))));simp only[add_mk,Nat.zero_mul,Nat.add_zero];refine dldtp [13,12] hT qk 1 1 I qk I (by simpa using hcur 0 _ rfl) (dact hT qk 0 I (cl hT 0 I (areaC s.1 qo) ?_));rintro v74 K74 hs74 ⟨rfl,rfl,rfl⟩
       refine dnex [pt wb (wlA db ob2 W.first (.slice aL2 W.recs.length cL2) (.slice (some ⟨g,off,none⟩) old1.length cO1) next 0) 146,pt g cur 173] (by simp) (by simp) I (dact hT qk 0 I (cl hT 0 I (Ct.at 5 I (freeH db E1 _ oE.ok qo hE1 (segA s.1))) ?_));rintro v75 K75 hs75 ⟨eh3,rfl,rfl,hE3,rfl⟩;refine dnex [pt wb (wlA db ob2 W.first (.slice aL2 W.recs.length cL2) (.slice (some ⟨g,off,none⟩) old1.length cO1) next 0) 146,pt g cur 173] (by simp) (by simp) I (dact hT qk 0 I (cl hT 0 I (didC wb db ob2 W.first _ _ next 0 _) ?_));rintro v76 K76 hs76 ⟨_,rfl,rfl,rfl,rfl⟩;rw[if_pos rfl];refine dnext (.inl qk) (dcbS hT qk 0 ((E1.free (segA s.1)).2≠0) I (by simp) fun b77 h77=>dend hT qk 0 I (th (ifP h77 I (fun e13=>?_) (fun e13=>?_))))
       ·rw[if_pos e13] at hw;rw[<-hw,if_pos e13];exact sq (rg (ldp hT 3 0 I I I (fin hT 1 I (th (rt (rT (rB (rT (rB (rT (ret1 I I ⟨le,[_,_,_,_,_],eh3,I,⟨ob2,aL2,cL2,some ⟨g,off,none⟩,cO1,oH2,rH2,gL2,_,I,hop2,hL2,hO1⟩,hE3,I⟩)))))))))))
       ·rw[if_neg e13] at hw;rw[Decidable.not_not.1 e13];obtain ⟨gO3,hg3,hO3⟩:=hO1.cut 1 (old1.length-1) qo;refine sk (th (rg (ldp hT 4 0 I I I (slx hT 0 1 (old1.length-1) I I (by show ((old1.length:Nat):Int)=_;omega) qo (stp hT 2 0 rfl rfl rfl rfl (fin hT 0 rfl (bl (WQ.loss 4 gO3 rfl hg3 ?_))))))));have hdl:(old1.drop 1).length=old1.length-1:=by rw[List.length_drop]
        refine again (x:=((f+1,old1,E1),(some ⟨g,off,none⟩,cO1,pt g cur 173,eh1))) ((f,old1.drop 1,(E1.free (segA s.1)).1),(cutA (some ⟨g,off,none⟩) cO1 1 2,cO1-1,gO3,eh3)) ⟨I,I,trivial⟩ I ?_ ⟨hw,by dsimp only;omega,by dsimp only;omega,fun x hx=>hmany x (List.mem_of_mem_drop hx),by dsimp only;exact (oE.free _).up qo,hE3,?_⟩ (by dsimp only;omega)
        ·dsimp only;rw[hdl];rfl
        ·dsimp only;rw[hdl];rw[List.take_of_length_le qo] at hO3;exact hO3
      ·rw[if_neg (by rintro ⟨g1,g2⟩;exact e12 ⟨by omega,g2⟩)] at hw;rw[<-hw,if_neg (by simp)];dsimp only;refine ex (xt (xt (xb (th (sq (rga [pt wb (wlA db ob2 W.first (.slice aL2 W.recs.length cL2) (.slice aO1 old1.length cO1) next 0) 146] 14 [0,2,4,6,8,10,12,14,16,18,20,22,24,26,29] (by simp) qk qk (dldpw hT qk 4 0 I qk I I (dldpw hT qk 4 0 I qk I I (dar hT qk 0 I (v':=.int .u64 (i-W.first:Nat)) (by rw[show ((i:Nat):Int)-((W.first:Nat):Int)=((i-W.first:Nat):Int) from by omega];exact u64w qo) (dslx hT qk 0 (i-W.first) (W.recs.length-(i-W.first)) I I I (by show ((W.recs.length:Nat):Int)=_;omega) qo (dact hT qk 2 rfl (stp hT 0 0 rfl rfl rfl rfl (dnext (.inl qk) ?_)))))))))))));obtain ⟨gL3,hg3,hL3⟩:=hL2.cut (i-W.first) (W.recs.length-(i-W.first)) qo;refine dend hT qk 0 I (th (sq (WC.loss 3 gL3 I hg3 (rg (stp hT 4 0 I I I I (fin hT 0 I (th (sq (rg (fin hT 1 I (th (rt ?_))))))))))))
       have hlen:(W.recs.drop (i-W.first)).length=W.recs.length-(i-W.first):=by rw[List.length_drop]
       refine ret1 I I ⟨le,[_,_,_,_,_],eh1,I,⟨ob2,cutA aL2 cL2 (i-W.first) 1,cL2-(i-W.first),aO1,cO1,oH2,rH2,gL3,gO1,?_,hop2,?_,hO1⟩,hE1,I⟩
       ·dsimp only;rw[hlen];rfl
       ·dsimp only;rw[hlen];rw[List.take_of_length_le (by rw[List.length_drop];omega)] at hL3;exact hL3
end
section
theorem areasL_bd{c:Nat}{D:Dk}(o:DOk c D):∀ k∈areasL D,0<=k/\k<=18446744073709551615:=fun k hk=>o.ar k ((srtI_perm _).mem_iff.1 hk)
theorem areasL_len{c:Nat}{D:Dk}(o:DOk c D):(areasL D).length<=c:=by
 unfold areasL;rw[(srtI_perm _).length_eq,List.length_map];exact o.len
theorem ivu_get{l:List Int}{j:Nat}{a:Int}(h:l[j]?=some a):(ivu l)[j]?=some (.int .u64 a):=by simp[ivu,h]
attribute [local irreducible] Code.wp wpList Calls
theorem resetWC{w0:World}{K dh:PH}{m hs:List PH}(wb db:Nat)(W:Wl)(hW:WalM K wb db W m)(D:Dk)(c:Nat)(oD:DOk c D)(hc:c<=499999000)(hb:WBd c W)(hd:DskH K db D dh)(first:Nat)(hfi:first<18446744073709551616):
  Ct Tryz.prog w0 85 [.pointer (some ⟨wb,0,none⟩),.int .u64 (first:Nat)] K (m++dh::hs)
   (fun v K' hs'=>Le K K'/\∃ m' dh',hs'=m'++dh'::hs/\WalM K' wb db (W.reset first D).1 m'/\DskH K' db (W.reset first D).2.1 dh'/\v=.int .i64 (W.reset first D).2.2):=by
 obtain ⟨ob,aL,cL,aO,cO,oH,rH,gL,gO,rfl,hop,hL,hO⟩:=id hW;refine enter Tryz.func85 qk I I I (sq (rg (fin hT 1 I (th (sq (bk (sq (rg (ldp hT 3 0 I I I (cmpS hT 0 I fun b12 h12=>fin hT 1 I (th (ifP h12 I (fun e2=>?_) (fun e2=>?_)))))))))))))
 ·have e:W.reset first D=(W,D,W.code):=by unfold Wl.reset;rw[if_pos e2]
  rw[e];exact sq (rg (ldp hT 3 0 I I I (fin hT 1 I (th (rt (rB (rT (ret1 I I ⟨Le.refl _,_,_,I,hW,hd,I⟩))))))))
 ·have hcode:W.code=0:=Decidable.not_not.1 e2;refine sq (rg (cmpS hT 1 I fun b19 h19=>fin hT 1 I (th (ifP h19 I (fun e4=>?_) (fun e4=>?_)))))
  ·have e:W.reset first D=(W,D,51):=by unfold Wl.reset;rw[if_neg e2,if_pos (by unfold wTop;omega)]
   rw[e];exact sq (rg (fin hT 1 I (th (rt (rB (rT (ret1 I I ⟨Le.refl _,_,_,I,hW,hd,I⟩)))))))
  ·have e0:W.reset first D=if (wreset (areasL D) D).2≠0 then ({ W with code:=(wreset (areasL D) D).2 },wreset (areasL D) D)
     else ({ W with op:=none,old:=[],recs:=[],first:=first },(wreset (areasL D) D).1,0):=by unfold Wl.reset;rw[if_neg e2,if_neg (by unfold wTop;omega)]
   rw[e0];clear e0;obtain ⟨R,hR⟩:∃ R,R=wreset (areasL D) D:=⟨_,rfl⟩;rw[<-hR];have hbd:=areasL_bd oD;have hal:=areasL_len oD;obtain ⟨l,hl⟩:∃ l,l=areasL D:=⟨_,rfl⟩;rw[<-hl] at hbd hal hR;obtain ⟨op,first0,recs,old,next,code⟩:=W;dsimp only at *;subst hcode;refine sk (bl (th (sq (sq (rg (ldp hT 3 0 I I I (cl hT 0 I (Ct.at 5 I (areasH db D c oD qo hd)) ?_)))))));rintro v24 K24 hs24 ⟨_,rfl,rfl,le,ao,cc,rfl,xA⟩;rw[<-hl] at xA ⊢;refine fin hT 2 I (th (bk ?_))
   refine loop (σ:=Nat×Dk×PH) (fun s=>[(0,.pointer (some ⟨wb,0,none⟩)),(1,.int .u64 (first:Nat)),(24,.slice ao l.length cc),(25,.int .i64 l.length),(26,.int .i64 s.1)]) (fun _=>K24)
    (fun s=>pt wb (wlA db ob first0 (.slice aL recs.length cL) (.slice aO old.length cO) next 0) 146::oH::rH::gL::gO::s.2.2::hs)
    (fun s=>s.1<=l.length/\wreset (l.drop s.1) s.2.1=R/\DOk (c+s.1) s.2.1/\DskH K24 db s.2.1 s.2.2) (fun s=>l.length-s.1) (0,D,_) ⟨Nat.zero_le _,hR.symm,oD,hd.le le⟩ ⟨rfl,rfl,rfl,rfl,rfl,trivial⟩ rfl rfl ?_
   rintro ⟨j,E,eh⟩ ⟨hj,hw,oE,hE⟩;dsimp only at *;refine sq (rg (cmpS hT 0 I fun b27 h27=>fin hT 0 I (th (sq (ifP h27 I (fun e6=>?_) (fun e6=>?_))))))
   ·have hjl:j<l.length:=by omega
    obtain ⟨a,ha⟩:∃ a,l[j]?=some a:=⟨l[j],List.getElem?_eq_getElem hjl⟩;have hab:=hbd a (List.mem_of_getElem? ha);obtain ⟨n,rfl⟩:=Int.eq_ofNat_of_zero_le hab.1;rw[List.drop_eq_getElem_cons hjl,show l[j]=((n:Nat):Int) from by rw[List.getElem?_eq_getElem hjl] at ha;exact Option.some.inj ha] at hw;unfold wreset at hw;refine sk (th (sq (bk (sq (rg (ix1 hT 0 j I I I xA (ivu_get ha) fun a28 hc28=>ld hT 0 I (.inl I) hc28 (fin hT 1 I (th (sq (rg (ar hT 1 I (u_rem .u64 n 4) (cmp hT 0 I (fun h32=>?_) (fun h32=>?_)))))))))))))
    ·rw[if_pos qo] at hw;refine ldp hT 5 0 I I I (cl hT 1 I (Ct.at 5 I (freeH db E _ oE.ok qo hE ((n:Nat):Int))) ?_);rintro v40 K40 hs40 ⟨eh2,rfl,rfl,hE2,rfl⟩;refine cl hT 0 I (didC wb db ob first0 _ _ next 0 _) ?_;rintro v41 K41 hs41 ⟨_,rfl,rfl,rfl,rfl⟩;rw[if_pos rfl];refine cmpS hT 0 I fun b42 h42=>fin hT 1 I (th (ifP h42 I (fun e10=>?_) (fun e10=>?_)))
     ·rw[if_neg e10] at hw;rw[<-hw,if_pos e10];exact sq (rg (ldp hT 3 0 I I I (fin hT 1 I (th (rt (rB (rT (rT (rB (rT (ret1 I I ⟨le,[_,_,_,_,_],eh2,I,⟨ob,aL,cL,aO,cO,oH,rH,gL,gO,I,hop,hL.imp fun _ _ h=>h.le le,hO⟩,hE2,I⟩)))))))))))
     ·have e10:=Decidable.not_not.1 e10;rw[if_pos e10] at hw;rw[e10];exact sk (bl (th (rg (ar hT 0 I (i64w (x:=((j+1:Nat):Int)) qo) (fin hT 1 I (again (x:=(j,E,eh)) (j+1,(E.free ((n:Nat):Int)).1,eh2) ⟨I,I,I,I,I,trivial⟩ I I ⟨by dsimp only;omega,hw,(oE.free _).up (by dsimp only;omega),hE2⟩ (by dsimp only;omega)))))))
    ·rw[if_neg qo] at hw;exact fin hT 11 I (th (ifF I (sk (bl (th (rg (ar hT 0 I (i64w (x:=((j+1:Nat):Int)) qo) (fin hT 1 I (again (x:=(j,E,eh)) (j+1,E,eh) ⟨I,I,I,I,I,trivial⟩ I I ⟨by dsimp only;omega,hw,oE.up (by dsimp only;omega),hE⟩ (by dsimp only;omega))))))))))
   ·obtain rfl:j=l.length:=by omega
    rw[List.drop_length] at hw;have hw:(E,(0:Int))=R:=hw;rw[<-hw,if_neg (by simp)];exact ex (xt (xt (xb (th (sq (rg (stp hT 7 0 I I I I (stp hT 2 0 I I I I (stp hT 2 0 I I I I (stp hT 2 0 I I I I (fin hT 0 I (th (sq (rg (fin hT 1 I (th (rt (WQ.loss 1 em I (.inr I) (WQ.loss 2 em I (.inr I) (WQ.loss 3 em I (.inr I) (WQ.loss 4 em I (.inr I) (ret1 I I ⟨le,[_,_,_,_,_],eh,I,⟨none,none,0,none,0,em,em,em,em,I,⟨I,I,I⟩,SlZ.nil _ _,SlZ.nil _ _⟩,hE,I⟩))))))))))))))))))))))
end
section
theorem wtx_step(D:Dk)(num f n:Nat):wtx D num (f+1) n=match D.read (segA num) n with
  | none=>[]
  | some s=>(s.drop 1).take (usedB s)++(if usedB s<63 then [] else wtx D num f (n+1)):=rfl
theorem wtx_len(D:Dk)(num:Nat):∀ (f n:Nat),(wtx D num f n).length<=63*f
 | 0,n=>by simp[wtx]
 | f+1,n=>by
  rw[wtx_step];have ih:=wtx_len D num f (n+1)
  split
  ·simp
  ·rename_i s _;have:usedB s<=63:=by unfold usedB;omega
   rw[List.length_append,List.length_take]
   split
   ·simp;omega
   ·omega
theorem wtext_len(D:Dk)(num:Nat):(wtext D num).length<=4128831:=wtx_len D num 65537 0
theorem Dk.Ok.noRead{c:Nat}{D:Dk}(o:D.Ok c)(a n:Int)(h:65536<=n):D.read a n=none:=by
 unfold Dk.read;cases hs:D.sec a n with
 | none=>rfl
 | some s=>
  have hm:=mget_mem hs;obtain ⟨l,h1,h2⟩:=Dk.ar_mem _ hm;rw[h2] at hm;have:=o.at_ _ h1 _ hm;dsimp only at this;omega
attribute [local irreducible] Code.wp wpList Calls
theorem textC{w0:World}{K dh:PH}{hs:List PH}(db:Nat)(D:Dk)(c:Nat)(oD:D.Ok c)(hc:c<=1000000000)(hd:DskH K db D dh)(num:Nat)(hn:num<=2305843009213693952):
  Ct Tryz.prog w0 139 [.pointer (some ⟨db,0,none⟩),.int .u64 (num:Nat)] K (dh::hs)
   (fun v K' hs'=>∃ h',hs'=h'::hs/\h'=dh/\Le K K'/\∃ ao k,v=.slice ao (wtext D num).length k/\IsS K' ao (wtext D num).length k 1 (bv (wtext D num))):=by
 refine enter Tryz.func139 qk I I I<|sq (rg<|fin hT 1 I (th<|sq (rg<|fin hT 1 I (th<|sq (rg<|fin hT 1 I (th<|bk (WC.em ?_)))))))
 refine loop (σ:=(Nat×List UInt8)×(Option Addr×Nat×PH)×PH) (fun s=>[(0,.pointer (some ⟨db,0,none⟩)),(1,.int .u64 (num:Nat)),(5,.slice s.2.1.1 s.1.2.length s.2.1.2.1),(6,.int .i64 s.1.1)]) (fun s=>s.2.2) (fun s=>s.2.1.2.2::dh::hs)
  (fun s=>s.1.2++wtx D num (65537-s.1.1) s.1.1=wtext D num/\s.1.1<=65536/\Le K s.2.2/\Own s.2.1.2.2 s.2.1.1 s.1.2.length s.2.1.2.1 5 1 (bv s.1.2)) (fun s=>65537-s.1.1) ((0,[]),(none,0,em),K) ⟨by dsimp only;rw[List.nil_append,Nat.sub_zero,wtext],by dsimp only;omega,Le.refl _,Own.nil _ _⟩ ⟨rfl,rfl,rfl,rfl,trivial⟩ rfl rfl ?_
 rintro ⟨⟨n,b⟩,⟨ao,k,g⟩,K1⟩ ⟨hw,hn2,le,o⟩;dsimp only at *;rw[show 65537-n=(65536-n)+1 from by omega,wtx_step] at hw;have hlen:=wtext_len D num
 have hbl:b.length<=4128831:=by
  have:=congrArg List.length hw;rw[List.length_append] at this;omega
 refine sq (bk (sq (rg (cl hT 2 I (areaC num hn) ?_))));rintro v15 K15 hs15 ⟨rfl,rfl,rfl⟩;refine cl hT 1 I (Ct.at 1 I (readH db D c oD qo (hd.le le) (segA num) ((n:Nat):Int))) ?_;rintro v17 K17 hs17 ⟨_,rfl,rfl,le2,⟨hr,rfl⟩|⟨s,as',cs,hr,hsl,rfl,xs⟩⟩
 ·rw[hr] at hw;simp only[List.append_nil] at hw;refine fin hT 5 I (th (sq (sq (rg (fin hT 2 I (th (ifT I (sq (rg (fin hT 2 I (th (rt (rT (rB (rT (rT (rB (WQ.frz fun K2 l1 l2=>ret1 I I ⟨_,I,I,(le.trans le2).trans l1,ao,k,by rw[<-hw],?_⟩))))))))))))))))));rw[<-hw];exact o.isS.le l2
 ·rw[hr] at hw;dsimp only at hw
  have hn3:n<65536:=by
   rcases Nat.lt_or_ge n 65536 with h|h
   ·exact h
   ·rw[oD.noRead _ _ qo] at hr;cases hr
  obtain ⟨c0,hc0⟩:∃ c0,s[0]?=some c0:=⟨s[0]'qo,List.getElem?_eq_getElem qo⟩;have hg0:s.getD 0 0=c0:=by rw[List.getD_eq_getElem?_getD,hc0];rfl
  have hx0:(bv s)[0]?=some (.int .u8 c0.toNat):=by simp[bv,hc0]
  have hcl:=c0.toNat_lt;have hu:usedB s=min c0.toNat 63:=by unfold usedB;rw[hg0]
  obtain ⟨u,hu0⟩:∃ u,u=usedB s:=⟨_,rfl⟩;have hu63:u<=63:=by omega
  rw[<-hu0] at hw hu;obtain ⟨t,ht⟩:∃ t,t=(s.drop 1).take u:=⟨_,rfl⟩;have htl:t.length=u:=by rw[ht,List.length_take,List.length_drop];omega
  rw[<-ht] at hw;refine fin hT 5 I (th (sq (sq (rg (fin hT 2 I (th (ifF I (sk (th (sq (rg (ix1 hT 1 0 I I I xs hx0 fun a24 hc24=>ld hT 0 I (.inl I) hc24 (ar hT 0 I (i64w qo) ?_)))))))))))))
  refine ar hT 0 I (v':=.int .i64 (u:Nat)) (by
   congr 1
   rw[hu]
   split <;> omega) ?_
  refine fin hT 1 I<|th (sq<|rg (ar hT 3 I (i64w (x:=((1+u:Nat):Int)) qo) ?_))
  refine sl hT 0 1 u I xs I I qo (ys:=bv t) (by
   show ((bv s).drop (1*1)).take (u*1)=_;rw[ht];simp[bv]) fun ao32 c32 x32=>?_
  refine app hT 0 0 I I o (.inl I) x32 I (by decide) (bv_one _) (by show (b.length+u)*1<=_;omega) (by simp only[maxLen];omega) fun ao33 c33 g33 o33=>fin hT 1 rfl (th (sq (rg ?_)));have o33':Own g33 ao33 (b++t).length c33 5 1 (bv (b++t)):=own_of o33 (by rw[List.length_append,htl]) (by rw[bv_append]);refine cmpS hT 1 I fun b35 h35=>fin hT 0 I (th (ifP h35 I (fun e3=>?_) (fun e3=>?_)))
  ·rw[if_pos qo,List.append_nil] at hw;refine sq (rg (fin hT 2 I (th (rt (rB (rT (rT (rB (WQ.frz fun K2 l1 l2=>ret1 I I ⟨_,I,I,(le.trans le2).trans l1,ao33,c33,by rw[<-hw,List.length_append,htl],?_⟩)))))))));rw[<-hw];exact o33'.isS.le l2
  ·rw[if_neg qo,<-List.append_assoc] at hw;refine sk (bl (th (rg (ar hT 1 I (i64w (x:=((n+1:Nat):Int)) qo) (fin hT 1 I (again (x:=((n,b),(ao,k,g),K15)) ((n+1,b++t),(ao33,c33,g33),K17) ⟨I,I,?_,I,trivial⟩ I I ⟨by dsimp only;rw[show 65537-(n+1)=65536-n from by omega];exact hw,by dsimp only;omega,le.trans le2,o33'⟩ (by dsimp only;omega)))))));dsimp only;rw[List.length_append,htl]
   rfl
theorem errC{w0:World}{K h hb:PH}{R:List PH}(rb:Nat)(s:Rd)(r:IsRd rb hb s h):Ct Tryz.prog w0 140 [.pointer (some ⟨rb,0,none⟩)] K (h::R) (fun v K' hs'=>K'=K/\hs'=h::R/\v=.int .i64 s.2):=by
 obtain ⟨ao,cap,rfl,x⟩:=r;exact enter Tryz.func140 qk I I I (sq (rg (fin hT 1 I (th (sq (rg (ldp hT 3 0 I I I (fin hT 1 I (th (rt (ret1 I I ⟨I,I,I⟩)))))))))))
theorem followsC{w0:World}{K:PH}{m hs:List PH}(wb db:Nat)(W:Wl)(hW:WalM K wb db W m)(hb:W.first+W.recs.length<=wTop)(hr:W.recs.length<=1000000000000)(hol:W.old.length<=10000000000)(n idx:Nat)(hi:idx<=wTop):
  Ct Tryz.prog w0 106 [.pointer (some ⟨wb,0,none⟩),.agg #[.int .u64 (n:Nat),.int .u64 (idx:Nat)]] K (m++hs)
   (fun v K' hs'=>K'=K/\∃ m',hs'=m'++hs/\WalM K wb db (W.follows n idx).1 m'/\v=.bool (W.follows n idx).2):=by
 obtain ⟨ob,aL,cL,aO,cO,oH,rH,gL,gO,rfl,hop,hL,hO⟩:=hW;obtain ⟨op,first,recs,old,next,code⟩:=W;dsimp only at *;unfold wTop at hb hi;refine enter Tryz.func106 qk I I I (sq (rg (bx hT 0 I fun b3=>WL.hs (pt b3 #[.int .u64 (n:Nat),.int .u64 (idx:Nat)] 173::pt wb (wlA db ob first (.slice aL recs.length cL) (.slice aO old.length cO) next code) 146::oH::rH::gL::gO::hs) I (fin hT 1 I (th ?_)))))
 refine jn (σ:=Nat×List (List UInt8)×(Option Addr×Nat×PH)) (fun _=>[(0,.pointer (some ⟨wb,0,none⟩)),(3,.pointer (some ⟨b3,0,none⟩))])
  (fun s=>pt b3 #[.int .u64 (n:Nat),.int .u64 (idx:Nat)] 173::pt wb (wlA db ob s.1 (.slice s.2.2.1 s.2.1.length s.2.2.2.1) (.slice aO old.length cO) next code) 146::oH::rH::s.2.2.2.2::gO::hs)
  (fun s=>SlZ 1 30 (recR K) s.2.2.2.2 s.2.2.1 s.2.1.length s.2.2.2.1 s.2.1/\s.1<=idx/\idx-s.1<=s.2.1.length/\(Wl.follows ⟨op,first,recs,old,next,code⟩ n idx)=(⟨op,s.1,s.2.1.take (idx-s.1),old++[(n,idx)],next,code⟩,true)) ?_ ?_
 ·refine bk<|sq (rga [pt b3 #[.int .u64 (n:Nat),.int .u64 (idx:Nat)] 173,pt wb (wlA db ob first (.slice aL recs.length cL) (.slice aO old.length cO) next code) 146] 16 [0,2,4,6,8,10,12,14,16,18,20,22,24,26,28,30] (by simp) qk qk<|dldp hT qk 3 1 I I I (dcmp hT qk 1 (old.length=0) I (by simp) (fun h1=>?_) (fun h1=>?_)))
  ·have e:(Wl.follows ⟨op,first,recs,old,next,code⟩ n idx)=(⟨op,idx,[],old++[(n,idx)],next,code⟩,true):=by unfold Wl.follows;rw[if_pos (.inl h1)]
   exact dend hT qk 10 I (th (ifT I (rg (ldp hT 3 0 I I I (stp hT 2 1 I I I I (stp hT 2 1 I I I I (fin hT 0 I (bl (WQ.loss 4 em I (.inr I) (jx (idx,[],(none,0,em)) ⟨SlZ.nil _ _,Nat.le_refl _,by dsimp only;omega,by rw[e];simp⟩ ⟨rfl,rfl,trivial⟩ rfl rfl))))))))))
  ·refine dldp hT qk 2 0 I I I<|dldp hT qk 3 1 I I I (dcbS hT qk 0 (idx<first) I (by simp) fun b19 h19=>dend hT qk 2 I<|th (ifP h19 I (fun e2=>?_) (fun e2=>?_)))
   ·have e:(Wl.follows ⟨op,first,recs,old,next,code⟩ n idx)=(⟨op,idx,[],old++[(n,idx)],next,code⟩,true):=by unfold Wl.follows;rw[if_pos (.inr e2)]
    exact rg (ldp hT 3 0 I I I (stp hT 2 1 I I I I (stp hT 2 1 I I I I (fin hT 0 I (bl (WQ.loss 4 em I (.inr I) (jx (idx,[],(none,0,em)) ⟨SlZ.nil _ _,Nat.le_refl _,by dsimp only;omega,by rw[e];simp⟩ ⟨rfl,rfl,trivial⟩ rfl rfl)))))))
   ·refine sq (rga [pt b3 #[.int .u64 (n:Nat),.int .u64 (idx:Nat)] 173,pt wb (wlA db ob first (.slice aL recs.length cL) (.slice aO old.length cO) next code) 146] 15 [0,2,4,6,8,10,12,14,16,18,20,22,24,26,28] (by simp) qk qk (dldp hT qk 1 0 I I I (dldp hT qk 3 1 I I I (dar hT qk 0 I (v':=.int .u64 (idx-first:Nat)) (by rw[show ((idx:Nat):Int)-((first:Nat):Int)=((idx-first:Nat):Int) from by omega];exact u64w qo) (dldp hT qk 3 1 I I I (dar hT qk 1 I (u64w (x:=((recs.length:Nat):Int)) qo) (dcbS hT qk 0 (recs.length<idx-first) I (by simp) fun b43 h43=>dend hT qk 1 I (th (ifP h43 I (fun e3=>?_) (fun e3=>?_))))))))))
    ·have e:(Wl.follows ⟨op,first,recs,old,next,code⟩ n idx)=(⟨op,first,recs,old,next,code⟩,false):=by unfold Wl.follows;rw[if_neg (by rintro (g|g);exact h1 g;exact e2 g),if_pos e3]
     rw[e];exact sq (rg (fin hT 1 I (th (rt (rB (jr (WQ.drop (ret1 I I ⟨I,[_,_,_,_,_],I,⟨ob,aL,cL,aO,cO,oH,rH,gL,gO,I,hop,hL,hO⟩,I⟩))))))))
    ·have e:(Wl.follows ⟨op,first,recs,old,next,code⟩ n idx)=(⟨op,first,recs.take (idx-first),old++[(n,idx)],next,code⟩,true):=by unfold Wl.follows;rw[if_neg (by rintro (g|g);exact h1 g;exact e2 g),if_neg e3]
     exact sk (bl (jx (first,recs,(aL,cL,gL)) ⟨hL,by dsimp only;omega,by dsimp only;omega,e⟩ ⟨rfl,rfl,trivial⟩ rfl rfl))
 ·clear hL;rintro ⟨fi,rs,⟨aR,cR,gR⟩⟩ ⟨hL,h1,h2,e⟩;dsimp only at *;rw[e];have hcap:=hL.caps;refine sq (rga [pt b3 #[.int .u64 (n:Nat),.int .u64 (idx:Nat)] 173,pt wb (wlA db ob fi (.slice aR rs.length cR) (.slice aO old.length cO) next code) 146] 15 [0,2,4,6,8,10,12,14,16,18,20,22,24,26,28,31] (by simp) qk qk (dldpw hT qk 4 1 I qk I I (dldpw hT qk 1 0 I qk I I (dldpw hT qk 3 1 I qk I I (dar hT qk 0 I (v':=.int .u64 (idx-fi:Nat)) (by rw[show ((idx:Nat):Int)-((fi:Nat):Int)=((idx-fi:Nat):Int) from by omega];exact u64w qo) (dslx hT qk 0 0 (idx-fi) I I I (by show ((idx-fi:Nat):Int)=((0+(idx-fi):Nat):Int);omega) qo (dact hT qk 2 rfl (stp hT 0 1 rfl rfl rfl rfl (dnext (.inl qk) ?_)))))))));obtain ⟨gR2,hg2,hL2⟩:=hL.cut 0 (idx-fi) qo
  have hlen:(rs.take (idx-fi)).length=idx-fi:=by rw[List.length_take];omega
  refine dend hT qk 0 I (th (WC.loss 4 gR2 I hg2 (sq (rga [pt wb (wlA db ob fi (.slice (cutA aR cR 0 1) (idx-fi) (cR-0)) (.slice aO old.length cO) next code) 146,pt b3 #[.int .u64 (n:Nat),.int .u64 (idx:Nat)] 173] 10 [0,2,4,6,8,10,13,15,16,18,21] (by intro h hm;simp at hm;rcases hm with rfl|rfl;exact List.mem_cons_of_mem _ (List.mem_cons_self ..);exact List.mem_cons_self ..) qk qk (dldpw hT qk 4 0 I qk I I (dldS hT qk 0 1 I qk I qk (dact hT qk 0 I (lit hT 0 #[.int .u64 (n:Nat),.int .u64 (idx:Nat)] I (by decide) qk fun b65=>?_))))))))
  have hA:∀ h∈[pt wb (wlA db ob fi (.slice (cutA aR cR 0 1) (idx-fi) (cR-0)) (.slice aO old.length cO) next code) 146,pt b3 #[.int .u64 (n:Nat),.int .u64 (idx:Nat)] 173],∀ x:PH,∀ t:List PH,h∈x::pt b3 #[.int .u64 (n:Nat),.int .u64 (idx:Nat)] 173::pt wb (wlA db ob fi (.slice (cutA aR cR 0 1) (idx-fi) (cR-0)) (.slice aO old.length cO) next code) 146::t:=by
   intro h hm x t;simp at hm;rcases hm with rfl|rfl
   ·exact List.mem_cons_of_mem _<|List.mem_cons_of_mem _ (List.mem_cons_self ..)
   ·exact List.mem_cons_of_mem _<|List.mem_cons_self ..
  refine dnex [pt wb (wlA db ob fi (.slice (cutA aR cR 0 1) (idx-fi) (cR-0)) (.slice aO old.length cO) next code) 146,pt b3 #[.int .u64 (n:Nat),.int .u64 (idx:Nat)] 173] (fun h hm=>hA h hm _ _) (by simp) I (dact hT qk 0 I (appSq hT 0 6 [.int .u64 (n:Nat),.int .u64 (idx:Nat)] (n,idx) I I I hO I I (by simp[Value.oneCell']) I (by decide) (by show (old.length+1)*16<=_;omega) (by simp only[maxLen];omega) fun ao66 c66 g66 o66=>dnex [pt wb (wlA db ob fi (.slice (cutA aR cR 0 1) (idx-fi) (cR-0)) (.slice aO old.length cO) next code) 146,pt b3 #[.int .u64 (n:Nat),.int .u64 (idx:Nat)] 173] (fun h hm=>hA h hm _ _) (by simp) rfl (dact hT qk 2 rfl (stp hT 0 2 rfl rfl rfl rfl (dnext (.inl qk) (dend hT qk 0 rfl (th (WC.drop (WC.drop (sq (rg (fin hT 1 rfl (th (rt (ret1 rfl rfl ⟨rfl,[_,_,_,_,_],rfl,⟨ob,cutA aR cR 0 1,cR-0,ao66,c66,oH,rH,gR2,g66,?_,hop,?_,?_⟩,rfl⟩)))))))))))))))
  ·dsimp only;rw[hlen,List.length_append];rfl
  ·dsimp only;rw[hlen,<-List.drop_zero (l:=rs)];exact hL2
  ·dsimp only;rw[List.length_append];exact o66
theorem open1C{w0:World}{K rd:PH}{m hs:List PH}(wb db b8 b12:Nat)(W:Wl)(hW:WalM K wb db W m)(hb:W.first+W.recs.length<=wTop)(hr:W.recs.length<=1000000000000)(hol:W.old.length<=10000000000)(n idx:Nat)(hi:idx<=wTop):
  Ct Tryz.prog w0 105 [.int .u64 (idx:Nat),.pointer (some ⟨b8,0,none⟩),.pointer (some ⟨b12,0,none⟩)] K (m++(rd::pt b12 #[.int .u64 (n:Nat)] 23::pt b8 #[.pointer (some ⟨wb,0,none⟩)] 88::hs))
   (fun v K' hs'=>K'=K/\∃ m',hs'=m'++(rd::pt b12 #[.int .u64 (n:Nat)] 23::pt b8 #[.pointer (some ⟨wb,0,none⟩)] 88::hs)/\WalM K wb db (W.follows n idx).1 m'/\v=.bool (W.follows n idx).2):=by
 obtain ⟨ob,aL,cL,aO,cO,oH,rH,gL,gO,rfl,hop,hL,hO⟩:=id hW;refine enter Tryz.func105 qk I I I (sq (rg (fin hT 1 I (th (sq (rg (ldp hT 0 7 I I I (ldp hT 0 6 I I I (bd hT 1 (.agg #[.int .u64 (n:Nat),.int .u64 (idx:Nat)]) I (fun w=>by kernel_rfl) (cl hT 0 I (followsC wb db W hW hb hr hol n idx hi) ?_))))))))));rintro v9 K9 hs9 ⟨rfl,m',rfl,hW',rfl⟩;exact fin hT 1 I (th (rt (ret1 I I ⟨I,m',I,hW',I⟩)))
theorem open2C{w0:World}{K rd b12:PH}{m hs:List PH}(wb db b8:Nat)(W:Wl)(hW:WalM K wb db W m)(hr:W.recs.length<=1000000000000)(r:List UInt8)(ao:Option Addr)(k:Nat)(x:IsS K ao r.length k 1 (bv r)):
  Ct Tryz.prog w0 107 [.slice ao r.length k,.pointer (some ⟨b8,0,none⟩)] K (m++(rd::b12::pt b8 #[.pointer (some ⟨wb,0,none⟩)] 88::hs))
   (fun v K' hs'=>K'=K/\∃ m',hs'=m'++(rd::b12::pt b8 #[.pointer (some ⟨wb,0,none⟩)] 88::hs)/\WalM K wb db { W with recs:=W.recs++[r] } m'):=by
 obtain ⟨ob,aL,cL,aO,cO,oH,rH,gL,gO,rfl,hop,hL,hO⟩:=id hW;refine enter Tryz.func107 qk I I I (rga [pt wb (wlA db ob W.first (.slice aL W.recs.length cL) (.slice aO W.old.length cO) W.next W.code) 146,pt b8 #[.pointer (some ⟨wb,0,none⟩)] 88] 10 [0,2,4,6,8,10,13,15,16,18,21] (by simp) qk qk (dldpw hT qk 0 1 I qk I I (dldpw hT qk 0 1 I qk I I (dldpw hT qk 2 0 I qk I I (dact hT qk 1 I (lit hT 0 #[.slice ao r.length k] I (by decide) qk fun b9=>dnex [pt wb (wlA db ob W.first (.slice aL W.recs.length cL) (.slice aO W.old.length cO) W.next W.code) 146,pt b8 #[.pointer (some ⟨wb,0,none⟩)] 88] (by simp) (by simp) I (dact hT qk 0 I (appSq hT 0 4 [.slice ao r.length k] r I I I hL ⟨ao,k,I,x⟩ I (by simp[Value.oneCell']) I (by decide) (by show (W.recs.length+1)*24<=_;omega) (by simp only[maxLen];omega) fun ao10 c10 g10 o10=>dnex [pt wb (wlA db ob W.first (.slice aL W.recs.length cL) (.slice aO W.old.length cO) W.next W.code) 146,pt b8 #[.pointer (some ⟨wb,0,none⟩)] 88] (by simp) (by simp) rfl (dact hT qk 2 rfl ?_)))))))))
 refine stp hT 0 1 I I I I<|dnext (.inl qk) (dend hT qk 0 I<|WQ.drop (end0 I ⟨I,[_,_,_,_,_],I,⟨ob,ao10,c10,aO,cO,oH,rH,g10,gO,?_,hop,?_,hO⟩⟩))
 ·dsimp only;rw[List.length_append];rfl
 ·dsimp only;rw[List.length_append];exact o10
end
section
theorem rBytes_dec{m:Int}{b:List UInt8}(h:(rBytes m (b,0)).2.2=0):(rBytes m (b,0)).2.1.length<b.length/\((rBytes m (b,0)).1.length:Int)<=m.toNat:=by
 unfold rBytes at h ⊢;dsimp only at h ⊢
 by_cases h1:(rUint m.toNat (b,0)).2.2=0
 ·rw[if_pos h1] at h ⊢;obtain ⟨g1,g2⟩:=rUint_ok h1;have hp:0<(uint (rUint m.toNat (b,0)).1).length:=by rw[uint];split <;> simp
  have hl:=congrArg List.length g1;rw[List.length_append] at hl
  by_cases h2:(rUint m.toNat (b,0)).2.1.length<(rUint m.toNat (b,0)).1
  ·rw[if_pos h2] at h;simp at h
  ·rw[if_neg h2];dsimp only;rw[List.length_drop,List.length_take];omega
 ·rw[if_neg h1] at h;exact absurd h h1
theorem wrecs_step(f:Nat)(r:Rd):wrecs (f+1) r=if (rBytes 512 r).2.2=0 then (rBytes 512 r).1::wrecs f (rBytes 512 r).2 else []:=rfl
theorem uvv_get{l:List Nat}{j n:Nat}(h:l[j]?=some n):(uvv l)[j]?=some (.int .u64 (n:Nat)):=by simp[uvv,h]
theorem uvv_app(a b:List Nat):uvv (a++b)=uvv a++uvv b:=by simp[uvv]
theorem wnums_app(a b:List Int):wnums (a++b)=wnums a++wnums b:=by simp[wnums]
theorem wnext_snoc(a:List Int)(x:Int):wnext (a++[x])=if x % 4=1 then x.toNat / 4+1 else wnext a:=by
 unfold wnext;rw[wnums_app,List.foldl_append];unfold wnums
 by_cases h:x % 4=1
 ·simp[h]
 ·simp[h]
theorem wnums_len(a:List Int):(wnums a).length<=a.length:=by
 unfold wnums;rw[List.length_map];exact List.length_filter_le _ _
theorem wsettle_step(g:List Nat)(n:Nat)(r:List Nat)(D:Dk):wsettle g (n::r) D=if (wset1 D g n).2=0 then wsettle g r (wset1 D g n).1 else wset1 D g n:=rfl
theorem DOk.set1{c:Nat}{D:Dk}(o:DOk c D)(g:List Nat)(n:Nat):DOk (c+1) (wset1 D g n).1:=by
 unfold wset1
 split
 ·exact o.free _
 ·exact o.sync _
theorem DOk.settle:∀ (l:List Nat) (g:List Nat) (D:Dk) (c:Nat),DOk c D->DOk (c+l.length) (wsettle g l D).1
 | [],g,D,c,o=>o.up qo
 | n::r,g,D,c,o=>by
  rw[wsettle_step]
  split
  ·exact (DOk.settle r g _ _ (o.set1 g n)).up (by simp only[List.length_cons];omega)
  ·exact (o.set1 g n).up (by simp only[List.length_cons];omega)
attribute [local irreducible] Code.wp wpList Calls
theorem IsRd.up{rb:Nat}{hb hb':PH}{s:Rd}{h:PH}(l:Le hb hb')(r:IsRd rb hb s h):IsRd rb hb' s h:=let ⟨a,c,h1,h2⟩:=r;⟨a,c,h1,h2.le l⟩
theorem readWC{w0:World}{K dh:PH}{m hs:List PH}(wb db b8 b12:Nat)(W:Wl)(hW:WalM K wb db W m)(hb:W.first+W.recs.length<=wTop)(hr:W.recs.length<=900000000000)(hol:W.old.length<=10000000000)(D:Dk)(c:Nat)(oD:D.Ok c)(hc:c<=1000000000)(hd:DskH K db D dh)(n:Nat)(hn:n<=2305843009213693952):
  Ct Tryz.prog w0 104 [.pointer (some ⟨db,0,none⟩),.int .u64 (n:Nat),.func (.func 105) #[] #[.pointer (some ⟨b8,0,none⟩),.pointer (some ⟨b12,0,none⟩)],.func (.func 107) #[] #[.pointer (some ⟨b8,0,none⟩)]] K
   (m++(pt b12 #[.int .u64 (n:Nat)] 23::pt b8 #[.pointer (some ⟨wb,0,none⟩)] 88::dh::hs))
   (fun v K' hs'=>Le K K'/\∃ m',hs'=m'++(pt b12 #[.int .u64 (n:Nat)] 23::pt b8 #[.pointer (some ⟨wb,0,none⟩)] 88::dh::hs)/\WalM K' wb db (wread D n W).1 m'/\v=.tuple #[.bool (wread D n W).2.1,.bool (wread D n W).2.2]):=by
 obtain ⟨ob,aL,cL,aO,cO,oH,rH,gL,gO,rfl,hop,hL,hO⟩:=id hW;obtain ⟨X,hX⟩:∃ X,X=wtext D n:=⟨_,rfl⟩;have hXl:=wtext_len D n;rw[<-hX] at hXl
 have e0:wread D n W=if (rUint wTop (X,0)).2.2≠0 then (W,true,true)
  else if (W.follows n (rUint wTop (X,0)).1).2=false then ((W.follows n (rUint wTop (X,0)).1).1,false,false)
  else ({ (W.follows n (rUint wTop (X,0)).1).1 with recs:=(W.follows n (rUint wTop (X,0)).1).1.recs++wrecs (X.length+1) (rUint wTop (X,0)).2 },true,false):=by rw[hX];rfl
 rw[e0];clear e0;refine enter Tryz.func104 qk I I I (sq (rg (fin hT 2 I (th (sq (rg (cl hT 2 I (Ct.at 7 I (textC db D c oD hc hd n hn)) ?_)))))));rintro v15 K15 hs15 ⟨dh,rfl,rfl,le,ao,k,rfl,xX⟩;rw[<-hX] at xX ⊢;refine cl hT 0 I (readC ao k X (.inl I) xX qo) ?_;rintro v16 K16 hs16 ⟨rfl,rb,rd,hbb,rfl,rfl,ir⟩;refine WL.perm (List.Perm.swap _ _ _) (WL.frz fun K1 l1 l2=>?_)
 replace ir:=ir.up l2
 refine WL.perm (hs':=[_,_,_,_,_]++(rd::_::_::_::hs)) (List.perm_middle (l₁:=[_,_,_,_,_])).symm ?_;have le1:=le.trans l1;have hW1:WalM K1 wb db W [pt wb (wlA db ob W.first (.slice aL W.recs.length cL) (.slice aO W.old.length cO) W.next W.code) 146,oH,rH,gL,gO]:=hW.le le1;refine fin hT 1 I (th (sq (rg (cl hT 1 I (Ct.at 5 I (uintC (.inl I) wTop (X,0) (by dsimp only;omega) ir)) ?_))));rintro v18 K18 hs18 ⟨rd2,rfl,rfl,rfl,ir2⟩;obtain ⟨U,hU⟩:∃ U,U=rUint wTop (X,0):=⟨_,rfl⟩;have hUl:=(rUint_bd wTop X 0).2;have hU0:U.2.2=0->U.1<=wTop:=by rw[hU];exact fun h=>(rUint_ok h).2
 rw[<-hU] at ir2 hUl ⊢;refine fin hT 1 I (th (sq (sq (rg (cl hT 1 I (Ct.keep 5 I (errC rb U.2 ir2)) ?_)))));rintro v20 K20 hs20 ⟨rfl,rfl,rfl⟩;refine cmpS hT 0 I fun b21 h21=>fin hT 0 I (th (ifP h21 I (fun e2=>?_) (fun e2=>?_)))
 ·rw[if_pos e2];exact sq (rg (fin hT 2 I (th (rt (rT (WQ.del 5 I (ret2 I I I ⟨le1,[_,_,_,_,_],I,hW1,I⟩)))))))
 ·have e2:=Decidable.not_not.1 e2;have hUt:=hU0 e2;rw[if_neg (by rw[e2];simp)];refine sk (th (sq (sq (rg (cl hT 2 I (open1C wb db b8 b12 W hW1 hb qo hol n U.1 hUt) ?_)))));rintro v24 K24 hs24 ⟨rfl,m2,rfl,hW2,rfl⟩;obtain ⟨V,hV⟩:∃ V,V=W.follows n U.1:=⟨_,rfl⟩
  have hVr:V.1.recs.length<=W.recs.length:=by
   rw[hV];unfold Wl.follows
   split
   ·simp
   ·split
    ·exact Nat.le_refl _
    ·dsimp only;rw[List.length_take];omega
  rw[<-hV] at hW2 ⊢;refine nmS fun b24 h24=>cbS hT 0 _ I (bnot h24) fun b25 h25=>fin hT 0 I (th (ifP h25 I (fun e3=>?_) (fun e3=>?_)))
  ·have e3:V.2=false:=by cases h:V.2 with|false=>rfl|true=>exact absurd h e3
   rw[if_pos e3];obtain ⟨ob2,aL2,cL2,aO2,cO2,oH2,rH2,gL2,gO2,rfl,_⟩:=id hW2;exact sq (rg (fin hT 2 I (th (rt (rT (WQ.del 5 I (ret2 I I I ⟨le1,[_,_,_,_,_],I,hW2,I⟩)))))))
  ·have e3:V.2=true:=Decidable.not_not.1 e3;rw[if_neg (by rw[e3];simp)];refine sk (th (bk ?_))
   refine loop (σ:=(Wl×Rd×Nat)×(List PH×PH)×PH) (fun _=>[(3,.func (.func 107) #[] #[.pointer (some ⟨b8,0,none⟩)]),(10,.pointer (some ⟨rb,0,none⟩))]) (fun s=>s.2.2) (fun s=>s.2.1.1++(s.2.1.2::pt b12 #[.int .u64 (n:Nat)] 23::pt b8 #[.pointer (some ⟨wb,0,none⟩)] 88::dh::hs))
    (fun s=>{ s.1.1 with recs:=s.1.1.recs++wrecs s.1.2.2 s.1.2.1 }={ V.1 with recs:=V.1.recs++wrecs (X.length+1) U.2 }/\s.1.2.1.1.length<s.1.2.2/\s.1.2.1.2=0/\s.1.1.recs.length+s.1.2.1.1.length<=999000000000/\s.1.2.1.1.length<=4128831/\Le K s.2.2/\WalM s.2.2 wb db s.1.1 s.2.1.1/\IsRd rb s.2.2 s.1.2.1 s.2.1.2) (fun s=>s.1.2.2)
    ((V.1,U.2,X.length+1),(m2,rd2),K24) ⟨rfl,by dsimp only;omega,e2,by dsimp only;omega,by dsimp only;omega,le1,hW2,ir2⟩ ⟨rfl,rfl,trivial⟩ rfl rfl ?_
   clear hW2 hVr;clear m2;rintro ⟨⟨Y,⟨rs,re⟩,f⟩,⟨m2,rd3⟩,K2⟩ ⟨hw,hlf,rfl,hbd,hrs,le2,hW2,ir3⟩;dsimp only at *;obtain ⟨f,rfl⟩:∃ g,f=g+1:=⟨f-1,by omega⟩;rw[wrecs_step] at hw;obtain ⟨G,hG⟩:∃ G,G=rBytes 512 (rs,0):=⟨_,rfl⟩;have hGd:G.2.2=0->G.2.1.length<rs.length:=by rw[hG];exact fun h=>(rBytes_dec h).1
   rw[<-hG] at hw;obtain ⟨ob2,aL2,cL2,aO2,cO2,oH2,rH2,gL2,gO2,rfl,hop2,hL2,hO2⟩:=id hW2;refine bk (sq (rg (cl hT 1 I (Ct.atN 5 I (bytesC (.inl I) 512 (by decide) (rs,0) (by dsimp only;omega) ir3)) ?_)));rintro v27 K27 hs27 ⟨rd4,_,rfl,rfl,hx,ao',c',rfl,rfl,ox,ir4⟩;rw[<-hG] at ox ir4 ⊢;refine WL.frz fun K3 l3 l4=>fin hT 1 I (th (sq (sq (rg (cl hT 1 I (Ct.keep 5 I (errC rb G.2 (ir4.up l3))) ?_)))));rintro v29 K29 hs29 ⟨rfl,rfl,rfl⟩;refine cmpS hT 0 I fun b30 h30=>fin hT 0 I (th (ifP h30 I (fun e5=>?_) (fun e5=>?_)))
   ·rw[if_neg e5,List.append_nil] at hw;refine sq (rg (fin hT 2 I (th (rt (rT (rB (rT (rB (WQ.del 5 I ?_)))))))));rw[<-hw];exact ret2 I I I ⟨le2.trans l3,[_,_,_,_,_],I,hW2.le l3,I⟩
   ·have e5:=Decidable.not_not.1 e5;have hgd:=hGd e5;rw[if_pos e5] at hw;refine sk (th (rg ?_));have hW3:WalM K29 wb db Y [pt wb (wlA db ob2 Y.first (.slice aL2 Y.recs.length cL2) (.slice aO2 Y.old.length cO2) Y.next Y.code) 146,oH2,rH2,gL2,gO2]:=hW2.le l3;refine cl hT 2 I (open2C wb db b8 Y hW3 qo G.1 ao' c' (ox.isS.le l4)) ?_;rintro v33 K33 hs33 ⟨rfl,m5,rfl,hW5⟩;refine fin hT 0 I (bl ?_);refine again (x:=((Y,(rs,0),f+1),(m5,rd4),K33)) (({ Y with recs:=Y.recs++[G.1] },G.2,f),(m5,rd4),K33) ⟨I,I,trivial⟩ I I ⟨by dsimp only;rw[List.append_assoc];exact hw,by dsimp only;omega,e5,by dsimp only;rw[List.length_append];simp only[List.length_cons,List.length_nil];omega,by dsimp only;omega,le2.trans l3,hW5,ir4.up l3⟩ (by dsimp only;omega)
theorem numbersC{w0:World}{K dh x:PH}{m hs:List PH}(wb db:Nat)(W:Wl)(hW:WalM K wb db W m)(D:Dk)(c:Nat)(oD:DOk c D)(hc:c<=1000000000)(hd:DskH K db D dh)(h0:W.next=0):
  Ct Tryz.prog w0 103 [.pointer (some ⟨wb,0,none⟩)] K (m++(x::dh::hs))
   (fun v K' hs'=>Le K K'/\∃ m',hs'=m'++(x::dh::hs)/\WalM K' wb db { W with next:=wnext (areasL D) } m'/\∃ ao k,v=.slice ao (wnums (areasL D)).length k/\IsS K' ao (wnums (areasL D)).length k 1 (uvv (wnums (areasL D)))):=by
 obtain ⟨ob,aL,cL,aO,cO,oH,rH,gL,gO,rfl,hop,hL,hO⟩:=hW;obtain ⟨op,first,recs,old,next,code⟩:=W;dsimp only at *;subst h0;have hbd:=areasL_bd oD;have hal:=areasL_len oD;obtain ⟨l,hl⟩:∃ l,l=areasL D:=⟨_,rfl⟩;rw[<-hl] at hbd hal ⊢;refine enter Tryz.func103 qk I I I (sq (rg (fin hT 1 I (th (sq (rg (fin hT 1 I (th (sq (sq (rg (ldp hT 3 0 I I I (cl hT 0 I (Ct.at 6 I (areasH db D c oD qo hd)) ?_)))))))))))));rintro v10 K10 hs10 ⟨dh,rfl,rfl,le,ao,cc,rfl,xA⟩;rw[<-hl] at xA ⊢;refine fin hT 2 I (th (bk (WC.em ?_)))
 refine loop (σ:=Nat×(Option Addr×Nat×PH)) (fun s=>[(0,.pointer (some ⟨wb,0,none⟩)),(3,.slice s.2.1 (wnums (l.take s.1)).length s.2.2.1),(10,.slice ao l.length cc),(11,.int .i64 l.length),(12,.int .i64 s.1)]) (fun _=>K10)
  (fun s=>s.2.2.2::pt wb (wlA db ob first (.slice aL recs.length cL) (.slice aO old.length cO) (wnext (l.take s.1)) code) 146::oH::rH::gL::gO::x::dh::hs)
  (fun s=>s.1<=l.length/\Own s.2.2.2 s.2.1 (wnums (l.take s.1)).length s.2.2.1 23 1 (uvv (wnums (l.take s.1)))) (fun s=>l.length-s.1) (0,(none,0,em)) ⟨Nat.zero_le _,Own.nil _ _⟩ ⟨rfl,rfl,rfl,rfl,rfl,trivial⟩ rfl rfl ?_
 rintro ⟨j,⟨an,cn,gn⟩⟩ ⟨hj,o⟩;dsimp only at *;refine sq (rg (cmpS hT 0 I fun b13 h13=>fin hT 0 I (th (sq (ifP h13 I (fun e2=>?_) (fun e2=>?_))))))
 ·have hjl:j<l.length:=by omega
  obtain ⟨a,ha⟩:∃ a,l[j]?=some a:=⟨l[j],List.getElem?_eq_getElem hjl⟩;have hab:=hbd a (List.mem_of_getElem? ha);obtain ⟨n,rfl⟩:=Int.eq_ofNat_of_zero_le hab.1;have htk:l.take (j+1)=l.take j++[((n:Nat):Int)]:=by rw[List.take_add_one,ha];rfl
  have hnl:=wnums_len (l.take j);rw[List.length_take] at hnl;refine sk (th (sq (bk (sq (rg (ix1 hT 0 j I I I xA (ivu_get ha) fun a14 hc14=>ld hT 0 I (.inl I) hc14 (fin hT 1 I (th (sq (rg (ar hT 1 I (u_rem .u64 n 4) (cmpS hT 0 I fun b18 h18=>fin hT 0 I (th (ifP h18 I (fun e4=>?_) (fun e4=>?_)))))))))))))))
  ·have en:wnums [((n:Nat):Int)]=[n / 4]:=by
    unfold wnums;have:((n:Nat):Int) % 4=1:=by omega
    simp[this]
   have en1:wnums (l.take (j+1))=wnums (l.take j)++[n / 4]:=by rw[htk,wnums_app,en]
   have en2:wnext (l.take (j+1))=n / 4+1:=by rw[htk,wnext_snoc,if_pos qo];rfl
   refine sq (rg (ar hT 2 I (u64quo n 4 qo) (lit hT 0 #[.int .u64 (n / 4:Nat)] I (by decide) qk fun b22=>app hT 0 1 I I o (.inr ⟨0,I⟩) (Own.ofPt (n:=1) (size:=1) I (by decide)).isS I (by decide) (by simp[Value.oneCell']) (by show ((wnums (l.take j)).length+1)*8<=_;omega) (by simp only[maxLen];omega) fun ao23 c23 g23 o23=>fin hT 1 rfl (th (rg (ar hT 2 rfl (u64quo n 4 qo) (ar hT 0 rfl (u64w (x:=((n / 4+1:Nat):Int)) qo) (stp hT 2 2 rfl rfl rfl rfl (fin hT 0 rfl (bl (th (rg (WL.drop (ar hT 0 rfl (i64w (x:=((j+1:Nat):Int)) qo) (fin hT 1 rfl (again (x:=(j,(an,cn,gn))) (j+1,(ao23,c23,g23)) ⟨rfl,?_,rfl,rfl,rfl,trivial⟩ rfl ?_ ⟨by dsimp only;omega,?_⟩ (by dsimp only;omega)))))))))))))))))
   ·dsimp only;rw[en1,List.length_append];rfl
   ·dsimp only;rw[en2];rfl
   ·dsimp only;rw[en1,List.length_append,uvv_app];exact o23
  ·have en:wnums [((n:Nat):Int)]=[]:=by
    unfold wnums;have:¬((n:Nat):Int) % 4=1:=by omega
    simp[this]
   have en1:wnums (l.take (j+1))=wnums (l.take j):=by rw[htk,wnums_app,en,List.append_nil]
   have en2:wnext (l.take (j+1))=wnext (l.take j):=by rw[htk,wnext_snoc,if_neg qo]
   refine sk (bl (th (rg (ar hT 0 I (i64w (x:=((j+1:Nat):Int)) qo) (fin hT 1 I ?_)))));refine again (x:=(j,(an,cn,gn))) (j+1,(an,cn,gn)) ⟨I,by dsimp only;rw[en1];rfl,rfl,rfl,rfl,trivial⟩ rfl (by dsimp only;rw[en2]) ⟨by dsimp only;omega,by dsimp only;rw[en1];exact o⟩ (by dsimp only;omega)
 ·obtain rfl:j=l.length:=by omega
  rw[List.take_length] at o ⊢;exact ex (xt (xt (xb (th (sq (rg (fin hT 2 I (th (rt (WQ.frz fun K2 l1 l2=>ret1 I I ⟨le.trans l1,[_,_,_,_,_],I,⟨ob,aL,cL,aO,cO,oH,rH,gL,gO,I,hop,hL.imp fun _ _ h=>h.le (le.trans l1),hO⟩,an,cn,I,o.isS.le l2⟩))))))))))
theorem containsC{w0:World}{K:PH}{hs:List PH}(ao:Option Addr)(k:Nat)(l:List Nat)(x:IsS K ao l.length k 1 (uvv l))(hl:l.length<=1099511627776)(n:Nat):
  Ct Tryz.prog w0 142 [.slice ao l.length k,.int .u64 (n:Nat)] K hs (fun v K' hs'=>K'=K/\hs'=hs/\∃ t:Bool,v=.bool t/\(t=true↔n∈l)):=by
 have hidx:Ct Tryz.prog w0 163 [.slice ao l.length k,.int .u64 (n:Nat)] K hs (fun v K' hs'=>K'=K/\hs'=hs/\∃ i:Int,v=.int .i64 i/\(0<=i↔n∈l)):=by
  refine enter Tryz.func163 qk I I I (sq (rg (fin hT 1 I (th (sq (sq (rg (fin hT 3 I (th (bk (loop (σ:=Nat) (fun j=>[(0,.slice ao l.length k),(1,.int .u64 (n:Nat)),(7,.int .i64 l.length),(8,.int .i64 (j:Nat))]) (fun _=>K) (fun _=>hs) (fun j=>j<=l.length/\n∉l.take j) (fun j=>l.length-j) 0 ⟨Nat.zero_le _,by simp⟩ ⟨I,I,I,I,trivial⟩ I I ?_)))))))))));rintro j ⟨hj,hno⟩;refine sq (rg (cmpS hT 0 I fun b9 h9=>fin hT 0 I (th (sq (ifP h9 I (fun e2=>?_) (fun e2=>?_))))))
  ·have hjl:j<l.length:=by omega
   obtain ⟨a,ha⟩:∃ a,l[j]?=some a:=⟨l[j],List.getElem?_eq_getElem hjl⟩;refine sk (th (sq (bk (sq (rg (fin hT 2 I (th (sq (rg (ix1 hT 3 j I I I x (uvv_get ha) fun a14 hc14=>ld hT 0 I (.inl I) hc14 (cmpS hT 0 I fun b16 h16=>fin hT 0 I (th (ifP h16 I (fun e4=>?_) (fun e4=>?_))))))))))))))
   ·refine sq (rg (fin hT 2 I (th (rt (rB (rT (rT (rB (rT (ret1 I I ⟨I,I,((j:Nat):Int),I,fun _=>?_,fun _=>by omega⟩))))))))));have:n=a:=by omega
    rw[this];exact List.mem_of_getElem? ha
   ·refine sk (bl (th (rg (ar hT 0 I (i64w (x:=((j+1:Nat):Int)) qo) (fin hT 1 I (again (x:=j) (j+1) ⟨I,I,I,I,trivial⟩ I I ⟨by omega,?_⟩ qo))))));rw[List.take_add_one,ha];simp only[Option.toList_some,List.mem_append,List.mem_singleton,not_or];exact ⟨hno,by omega⟩
  ·rw[List.take_of_length_le qo] at hno;exact ex (xt (xt (xb (th (sq (rg (fin hT 1 I (th (rt (ret1 I I ⟨I,I,-1,I,fun h=>absurd h (by decide),fun h=>absurd h hno⟩))))))))))
 refine enter Tryz.func142 qk I I I (sq (rg (fin hT 1 I (th (sq (rg (cl hT 2 I hidx ?_)))))));rintro v7 K7 hs7 ⟨rfl,rfl,i,rfl,hi⟩;exact cmpS hT 0 I fun b8 h8=>fin hT 1 I (th (rt (ret1 I I ⟨I,I,b8,I,h8.trans hi⟩)))
theorem settleC{w0:World}{K dh x:PH}{m hs:List PH}(wb db:Nat)(W:Wl)(hW:WalM K wb db W m)(D:Dk)(c:Nat)(oD:DOk c D)(hc:c<=499000000)(hd:DskH K db D dh)(l g:List Nat)(al:Option Addr)(kl:Nat)(xl:IsS K al l.length kl 1 (uvv l))(ag:Option Addr)(kg:Nat)(xg:IsS K ag g.length kg 1 (uvv g))(hll:l.length<=c)(hgl:g.length<=c)(hbd:∀ n∈l,n<=2305843009213693952):
  Ct Tryz.prog w0 108 [.pointer (some ⟨wb,0,none⟩),.slice al l.length kl,.slice ag g.length kg] K (m++(x::dh::hs))
   (fun v K' hs'=>K'=K/\∃ dh',hs'=m++(x::dh'::hs)/\DskH K db (wsettle g l D).1 dh'/\v=.int .i64 (wsettle g l D).2):=by
 obtain ⟨ob,aL,cL,aO,cO,oH,rH,gL,gO,rfl,hop,hL,hO⟩:=hW;obtain ⟨R,hR⟩:∃ R,R=wsettle g l D:=⟨_,rfl⟩;rw[<-hR];obtain ⟨S,hS⟩:∃ S,S=wlA db ob W.first (.slice aL W.recs.length cL) (.slice aO W.old.length cO) W.next W.code:=⟨_,rfl⟩
 have hS1:S[1]?=some (.pointer (some ⟨db,0,none⟩)):=by rw[hS];rfl
 rw[<-hS];refine enter Tryz.func108 qk I I I (sq (rg (fin hT 1 I (th (sq (sq (rg (fin hT 3 I (th (bk ?_))))))))))
 refine loop (σ:=Nat×Dk×PH) (fun s=>[(0,.pointer (some ⟨wb,0,none⟩)),(2,.slice ag g.length kg),(10,.slice al l.length kl),(11,.int .i64 l.length),(12,.int .i64 s.1)]) (fun _=>K)
  (fun s=>pt wb S 146::oH::rH::gL::gO::x::s.2.2::hs)
  (fun s=>s.1<=l.length/\wsettle g (l.drop s.1) s.2.1=R/\DOk (c+s.1) s.2.1/\DskH K db s.2.1 s.2.2) (fun s=>l.length-s.1) (0,D,dh) ⟨Nat.zero_le _,hR.symm,oD,hd⟩ ⟨rfl,rfl,rfl,rfl,rfl,trivial⟩ rfl rfl ?_
 rintro ⟨j,E,eh⟩ ⟨hj,hw,oE,hE⟩;dsimp only at *;refine sq (rg (cmpS hT 0 I fun b13 h13=>fin hT 0 I (th (sq (ifP h13 I (fun e2=>?_) (fun e2=>?_))))))
 ·have hjl:j<l.length:=by omega
  obtain ⟨n,ha⟩:∃ a,l[j]?=some a:=⟨l[j],List.getElem?_eq_getElem hjl⟩;have hnb:=hbd n (List.mem_of_getElem? ha);rw[List.drop_eq_getElem_cons hjl,show l[j]=n from by rw[List.getElem?_eq_getElem hjl] at ha;exact Option.some.inj ha,wsettle_step] at hw;refine sk (th (sq (bk (sq (rg (ix1 hT 0 j I I I xl (uvv_get ha) fun a14 hc14=>ld hT 0 I (.inl I) hc14 (fin hT 1 I (th (sq (rg (fin hT 1 I (th ?_))))))))))))
  refine jn (σ:=PH) (fun _=>[(0,.pointer (some ⟨wb,0,none⟩)),(2,.slice ag g.length kg),(9,.int .i64 (wset1 E g n).2),(10,.slice al l.length kl),(11,.int .i64 l.length),(12,.int .i64 (j:Nat))])
   (fun s=>pt wb S 146::oH::rH::gL::gO::x::s::hs) (fun s=>DskH K db (wset1 E g n).1 s) ?_ ?_
  ·refine sq (rg (cl hT 2 I (containsC ag kg g xg qo n) ?_));rintro v18 K18 hs18 ⟨rfl,rfl,t18,rfl,h18⟩;refine fin hT 0 I (th (ifP h18 I (fun e3=>?_) (fun e3=>?_)))
   ·have e:wset1 E g n=E.free (segA n):=by unfold wset1;rw[if_pos e3]
    rw[e];refine rga [pt wb S 146] 8 [0,2,4,6,8,11,13,14] (by simp) qk qk (dldp hT qk 3 0 I I hS1 (dact hT qk 1 I (cl hT 0 I (areaC n hnb) ?_)));rintro v24 K24 hs24 ⟨rfl,rfl,rfl⟩;refine dnex [pt wb S 146] (by simp) (by simp) I (dact hT qk 0 I (cl hT 0 I (Ct.at 6 I (freeH db E _ oE.ok qo hE (segA n))) ?_));rintro v25 K25 hs25 ⟨eh2,rfl,rfl,hE2,rfl⟩;exact dnex [pt wb S 146] (by simp) (by simp) I (dend hT qk 1 I (jx eh2 hE2 ⟨I,I,I,I,I,I,trivial⟩ I I))
   ·have e:wset1 E g n=E.sync (segA n):=by unfold wset1;rw[if_neg e3]
    rw[e];refine rga [pt wb S 146] 8 [0,2,4,6,8,11,13,14] (by simp) qk qk (dldp hT qk 3 0 I I hS1 (dact hT qk 1 I (cl hT 0 I (areaC n hnb) ?_)));rintro v24 K24 hs24 ⟨rfl,rfl,rfl⟩;refine dnex [pt wb S 146] (by simp) (by simp) I (dact hT qk 0 I (cl hT 0 I (Ct.at 6 I (syncH db E _ oE.ok qo hE (segA n))) ?_));rintro v25 K25 hs25 ⟨eh2,rfl,rfl,hE2,rfl⟩;exact dnex [pt wb S 146] (by simp) (by simp) I (dend hT qk 1 I (jx eh2 hE2 ⟨I,I,I,I,I,I,trivial⟩ I I))
  ·rintro eh2 hE2;refine sq (rg (cmpS hT 1 I fun b34 h34=>fin hT 0 I (th (ifP h34 I (fun e5=>?_) (fun e5=>?_)))))
   ·rw[if_neg e5] at hw;refine sq (rg (fin hT 2 I (th (rt (rB (rT (rT (rB (rT ?_)))))))));rw[<-hw];exact ret1 I I ⟨I,eh2,I,hE2,I⟩
   ·rw[if_pos (Decidable.not_not.1 e5)] at hw;exact sk (bl (th (rg (ar hT 0 I (i64w (x:=((j+1:Nat):Int)) qo) (fin hT 1 I (again (x:=(j,E,eh)) (j+1,(wset1 E g n).1,eh2) ⟨I,I,I,I,I,trivial⟩ I I ⟨by dsimp only;omega,hw,(oE.set1 g n).up (by dsimp only;omega),hE2⟩ (by dsimp only;omega)))))))
 ·obtain rfl:j=l.length:=by omega
  rw[List.drop_length] at hw;have hw:(E,(0:Int))=R:=hw;rw[<-hw];exact ex (xt (xt (xb (th (sq (rg (fin hT 1 I (th (rt (ret1 I I ⟨I,eh,I,hE,I⟩))))))))))
end
section
theorem wtx_run(D:Dk)(num:Nat):∀ (f n:Nat),∃ m,(wtx D num f n).length<=63*m/\∀ i,i<m->(((n+i:Nat):Int))∈(D.ar (segA num)).map (·.1)
 | 0,n=>⟨0,by simp[wtx],fun i h=>by omega⟩
 | f+1,n=>by
  obtain ⟨m,h1,h2⟩:=wtx_run D num f (n+1);rw[wtx_step];cases hr:D.read (segA num) n with
  | none=>exact ⟨0,by simp,fun i h=>by omega⟩
  | some s=>
   refine ⟨m+1,?_,fun i hi=>?_⟩
   ·have:usedB s<=63:=by unfold usedB;omega
    dsimp only;rw[List.length_append,List.length_take]
    split
    ·simp;omega
    ·omega
   ·by_cases e:i=0
    ·subst e;unfold Dk.read Dk.sec at hr;cases hg:mget ((n:Nat):Int) (D.ar (segA num)) with
     | none=>rw[hg] at hr;cases hr
     | some x=>exact List.mem_map.2 ⟨_,mget_mem hg,rfl⟩
    ·have:=h2 (i-1) qo
     rwa [show n+1+(i-1)=n+i from by omega] at this
theorem wtext_ar{c:Nat}{D:Dk}(o:D.Ok c)(num:Nat):(wtext D num).length<=63*(D.ar (segA num)).length:=by
 obtain ⟨m,h1,h2⟩:=wtx_run D num 65537 0
 have hm:m<=(D.ar (segA num)).length:=by
  have hnd:((List.range m).map fun i=>((i:Nat):Int)).Nodup:=by
   rw[List.nodup_iff_pairwise_ne,List.pairwise_map];exact (List.nodup_iff_pairwise_ne.1 List.nodup_range).imp fun h e=>h qo
  have:=hnd.length_le_of_subset (l₂:=(D.ar (segA num)).map (·.1)) (fun x hx=>by
   obtain ⟨i,hi,rfl⟩:=List.mem_map.1 hx;have:=h2 i (List.mem_range.1 hi)
   rwa [Nat.zero_add] at this)
  simpa using this
 have:(wtext D num).length<=63*m:=by unfold wtext;exact h1
 omega
def sumK(m:List (Int×Ar))(ks:List Int):Nat:=(ks.map fun k=>((mget k m).getD []).length).sum
theorem sumK_cons(k0:Int)(u:Ar)(m:List (Int×Ar)):∀ ks:List Int,ks.Nodup->sumK ((k0,u)::m) ks<=(if k0∈ks then u.length else 0)+sumK m ks
 | [],_=>by simp[sumK]
 | k::ks,h=>by
  simp only[List.nodup_cons] at h;have ih:=sumK_cons k0 u m ks h.2;have e0:∀ mm,sumK mm (k::ks)=((mget k mm).getD []).length+sumK mm ks:=fun mm=>rfl;have e1:mget k ((k0,u)::m)=if k=k0 then some u else mget k m:=rfl;rw[e0,e0,e1]
  by_cases e:k=k0
  ·subst e;rw[if_neg h.1] at ih;simp only[if_true,Option.getD_some,List.mem_cons,true_or];omega
  ·simp only[if_neg e,List.mem_cons]
   by_cases e2:k0∈ks
   ·rw[if_pos e2] at ih;rw[if_pos (.inr e2)];omega
   ·rw[if_neg e2] at ih;rw[if_neg (by rintro (g|g);exact e g.symm;exact e2 g)];omega
theorem sumK_le:∀ (m:List (Int×Ar)) (ks:List Int),ks.Nodup->sumK m ks<=totA m
 | [],ks,_=>by
  have:∀ ks:List Int,sumK [] ks=0:=fun ks=>by
   induction ks with
   | nil=>rfl
   | cons k ks ih=>
    have e0:sumK [] (k::ks)=0+sumK [] ks:=rfl;rw[e0,ih]
  rw[this];exact Nat.zero_le _
 | (k0,u)::m,ks,h=>by
  have h1:=sumK_cons k0 u m ks h;have h2:=sumK_le m ks h;have h3:totA ((k0,u)::m)=u.length+totA m:=by simp[totA]
  rw[h3]
  split at h1 <;> omega
def sumSeg(D:Dk)(l:List Nat):Nat:=(l.map fun n=>(D.ar (segA n)).length).sum
theorem sumSeg_eq(D:Dk)(l:List Nat):sumSeg D l=sumK D.areas (l.map segA):=by
 unfold sumSeg sumK;rw[List.map_map]
 rfl
theorem segA_inj{a b:Nat}(h:segA a=segA b):a=b:=by unfold segA at h;omega
theorem sumSeg_le{D:Dk}{l:List Nat}(h:l.Nodup):sumSeg D l<=totA D.areas:=by
 rw[sumSeg_eq];refine sumK_le _ _ ?_;rw[List.nodup_iff_pairwise_ne,List.pairwise_map];exact (List.nodup_iff_pairwise_ne.1 h).imp fun h e=>h (segA_inj e)
theorem sumSeg_app(D:Dk)(a b:List Nat):sumSeg D (a++b)=sumSeg D a+sumSeg D b:=by simp[sumSeg]
theorem areasL_nodup{c:Nat}{D:Dk}(o:D.Ok c):(areasL D).Nodup:=(srtI_perm _).symm.nodup o.keys
theorem wnums_nodup{l:List Int}(h:l.Nodup)(h0:∀ k∈l,0<=k):(wnums l).Nodup:=by
 unfold wnums;rw[List.nodup_iff_pairwise_ne,List.pairwise_map];have h1:=(List.nodup_iff_pairwise_ne.1 h).filter (fun a=>decide (a % 4=1));refine List.Pairwise.imp_of_mem ?_ h1;intro a b ha hb hne e;rw[List.mem_filter] at ha hb;have ha1:=h0 a ha.1;have hb1:=h0 b hb.1;have ha2:=of_decide_eq_true ha.2;have hb2:=of_decide_eq_true hb.2;exact hne qo
theorem wnums_mem{l:List Int}{n:Nat}(h:n∈wnums l):∃ a∈l,a % 4=1/\a.toNat / 4=n:=by
 unfold wnums at h;obtain ⟨a,ha,rfl⟩:=List.mem_map.1 h;rw[List.mem_filter] at ha;exact ⟨a,ha.1,of_decide_eq_true ha.2,I⟩
theorem last_lt:∀ (l:List Nat) (z:Nat),l.Pairwise (· <= ·)->(∀ n∈l,n<l.foldl (fun _ n=>n+1) z)/\∀ y,(∀ n∈l,y<=n)->y<z->y<l.foldl (fun _ n=>n+1) z
 | [],z,_=>⟨fun n h=>by simp at h,fun y _ h=>h⟩
 | a::t,z,h=>by
  have h1:=List.pairwise_cons.1 h;obtain ⟨g1,g2⟩:=last_lt t (a+1) h1.2;simp only[List.foldl_cons];refine ⟨fun n hn=>?_,fun y hy hz=>?_⟩
  ·rcases List.mem_cons.1 hn with rfl|hn
   ·exact g2 n h1.1<|Nat.lt_succ_self n
   ·exact g1 n hn
  ·have:=hy a (by simp);exact g2 y (fun n hn=>hy n (by simp[hn])) qo
theorem wnums_lt{l:List Int}(h:l.Pairwise (· <= ·)):∀ n∈wnums l,n<wnext l:=by
 refine (last_lt (wnums l) 0 ?_).1;unfold wnums;rw[List.pairwise_map];exact (h.filter _).imp fun {a b} hab=>Nat.div_le_div_right (by omega)
structure SInv (D:Dk) (mx:Nat) (don:List Nat) (W:Wl):Prop where
 op:W.op=none
 code:W.code=0
 next:W.next=mx
 recs:W.recs.length<=63*sumSeg D don
 last:W.first+W.recs.length<=wTop
 old:W.old.length<=don.length
 olds:∀ s∈W.old,s.1∈don/\s.2<=wTop
 recl:∀ r∈W.recs,r.length<=512
theorem follows_facts(W:Wl)(n idx:Nat):(W.follows n idx).1.recs.length<=W.recs.length/\(∀ r∈(W.follows n idx).1.recs,r∈W.recs)/\(W.follows n idx).1.op=W.op/\(W.follows n idx).1.code=W.code/\(W.follows n idx).1.next=W.next /\
  (W.follows n idx).1.old.length<=W.old.length+1/\∀ s∈(W.follows n idx).1.old,s∈W.old\/s=(n,idx):=by
 unfold Wl.follows
 split
 ·exact ⟨by simp,by simp,I,I,I,by simp,fun s hs=>by simpa using hs⟩
 ·split
  ·exact ⟨Nat.le_refl _,fun _ h=>h,I,I,I,Nat.le_succ _,fun s hs=>.inl hs⟩
  ·exact ⟨by dsimp only;rw[List.length_take];omega,fun r hr=>List.mem_of_mem_take hr,rfl,rfl,rfl,by simp,fun s hs=>by simpa using hs⟩
theorem wrecs_len:∀ (f:Nat) (r:Rd),r.2=0->(wrecs f r).length<=r.1.length/\∀ x∈wrecs f r,x.length<=512
 | 0,r,_=>⟨by simp[wrecs],by simp[wrecs]⟩
 | f+1,(b,e),he=>by
  have he:e=0:=he;subst he;rw[wrecs_step]
  split
  ·rename_i h;obtain ⟨g1,g2⟩:=rBytes_dec h;obtain ⟨g3,g4⟩:=wrecs_len f (rBytes 512 (b,0)).2 h;refine ⟨by simp only[List.length_cons];omega,fun x hx=>?_⟩;rcases List.mem_cons.1 hx with rfl|hx
   ·have:((512:Int)).toNat=512:=rfl;omega
   ·exact g4 x hx
  ·exact ⟨by simp,by simp⟩
theorem SInv.step{c:Nat}{D:Dk}(o:D.Ok c){mx fr n:Nat}{don:List Nat}{W:Wl}(h:SInv D mx don W)(hchk:(wstep D fr n W).1.first+(wstep D fr n W).1.recs.length<=wTop):SInv D mx (don++[n]) (wstep D fr n W).1:=by
 have hsum:=sumSeg_app D don [n];have hs1:sumSeg D [n]=(D.ar (segA n)).length:=by simp[sumSeg]
 have keep:SInv D mx (don++[n]) W:=⟨h.op,h.code,h.next,by have:=h.recs;omega,h.last,by have:=h.old;simp;omega,fun s hs=>⟨by simp[(h.olds s hs).1],(h.olds s hs).2⟩,h.recl⟩;unfold wstep at hchk ⊢
 split
 ·exact keep
 ·rename_i hfr;rw[if_neg hfr] at hchk;have hx:=wtext_ar o n;unfold wread at hchk ⊢
  split
  ·exact keep
  ·rename_i h1;rw[if_neg h1] at hchk;have h1:=Decidable.not_not.1 h1;have hU:=(rUint_ok h1).2;have hUl:=(rUint_bd wTop (wtext D n) 0).2;obtain ⟨f1,f2,f3,f4,f5,f6,f7⟩:=follows_facts W n (rUint wTop (wtext D n,0)).1
   have holds:∀ s∈(W.follows n (rUint wTop (wtext D n,0)).1).1.old,s.1∈don++[n]/\s.2<=wTop:=fun s hs=>by
    rcases f7 s hs with g|rfl
    ·exact ⟨by simp[(h.olds s g).1],(h.olds s g).2⟩
    ·exact ⟨by simp,hU⟩
   split
   ·rename_i h2;rw[if_pos h2] at hchk;exact ⟨f3.trans h.op,f4.trans h.code,f5.trans h.next,by have:=h.recs;dsimp only;omega,hchk,by have:=h.old;simp only[List.length_append,List.length_cons,List.length_nil];omega,holds,fun r hr=>h.recl r (f2 r hr)⟩
   ·rename_i h2;rw[if_neg h2] at hchk;obtain ⟨g1,g2⟩:=wrecs_len ((wtext D n).length+1) (rUint wTop (wtext D n,0)).2 h1;refine ⟨f3.trans h.op,f4.trans h.code,f5.trans h.next,?_,hchk,?_,holds,?_⟩
    ·have:=h.recs;dsimp only;rw[List.length_append];omega
    ·have:=h.old;simp only[List.length_append,List.length_cons,List.length_nil];omega
    ·intro r hr;rcases List.mem_append.1 hr with hr|hr
     ·exact h.recl r<|f2 r hr
     ·exact g2 r hr
theorem SInv.scan{c:Nat}{D:Dk}(o:D.Ok c){mx fr:Nat}:∀ (l don:List Nat) (W:Wl) (g:List Nat),SInv D mx don W->(wscan D fr l W g).2.2=true->SInv D mx (don++l) (wscan D fr l W g).1
 | [],don,W,g,h,_=>by simpa[wscan] using h
 | n::r,don,W,g,h,hok=>by
  unfold wscan at hok ⊢
  split
  ·rename_i h1;rw[if_pos h1] at hok;cases hok
  ·rename_i h1;rw[if_neg h1] at hok;have hs:=SInv.step o h (fr:=fr) (n:=n) (by rcases Nat.lt_or_ge wTop ((wstep D fr n W).1.first+(wstep D fr n W).1.recs.length) with g|g;exact absurd (.inr g) h1;exact g);have:=SInv.scan o r (don++[n]) _ _ hs hok
   rwa [List.append_assoc] at this
theorem WBd.opened{c:Nat}{D:Dk}(o:DOk c D){fr first:Nat}{W:Wl}{E:Dk}(h:wOpen D fr first=(some W,E,0)):WBd c W/\W.op=none/\W.code=0/\W.old.length<=c:=by
 unfold wOpen at h
 split at h
 ·cases h
 ·split at h
  ·cases h
  ·rename_i h1
   split at h
   ·cases h
   ·rename_i h2
    split at h
    ·cases h
    ·rename_i h3
     split at h
     ·cases h
     ·simp only[Prod.mk.injEq,Option.some.injEq] at h;obtain ⟨rfl,_⟩:=h
      have h3:(wscan D fr (wnums (areasL D)) (wl0 fr first (areasL D)) []).2.2=true:=by
       cases hh:(wscan D fr (wnums (areasL D)) (wl0 fr first (areasL D)) []).2.2 with
       | false=>exact absurd hh h3
       | true=>rfl
      have h0:SInv D (wl0 fr first (areasL D)).next [] (wl0 fr first (areasL D)):=⟨rfl,rfl,rfl,by simp[wl0],by simp[wl0];omega,by simp[wl0],by simp[wl0],by simp[wl0]⟩;have hS:=SInv.scan o.ok _ _ _ _ h0 h3;rw[List.nil_append] at hS;have hnd:=wnums_nodup (areasL_nodup o.ok) (fun k hk=>(areasL_bd o k hk).1);have hsum:=sumSeg_le (D:=D) hnd;have hcap:=o.cap;have hroom:=o.ok.room;have hlen:=areasL_len o;have hnl:=wnums_len (areasL D);have hol:=hS.old;have hre:=hS.recs;have hnx:=hS.next;refine ⟨⟨hS.last,by omega,by omega,by omega,fun q hq=>(by rw[hS.op] at hq;cases hq),fun q hq=>(by rw[hS.op] at hq;cases hq),fun s hs=>?_,hS.recl⟩,hS.op,hS.code,by omega⟩;obtain ⟨g1,g2⟩:=hS.olds s hs;have:=wnums_lt (l:=areasL D) (srtI_srt _) s.1 g1;have hle:wnext (areasL D)<=(wl0 fr first (areasL D)).next:=by unfold wl0;exact Nat.le_max_left _ _
      refine ⟨?_,g2⟩;have:s.1<wnext (areasL D):=this;omega
theorem DOk.opened{c:Nat}{D:Dk}(o:DOk c D)(fr first:Nat):DOk (c+D.areas.length) (wOpen D fr first).2.1:=by
 have hs:=DOk.settle (wnums (areasL D)) (wscan D fr (wnums (areasL D)) (wl0 fr first (areasL D)) []).2.1 D c o;have hlen:(areasL D).length=D.areas.length:=by unfold areasL;rw[(srtI_perm _).length_eq,List.length_map]
 have hnl:=wnums_len (areasL D);have hs:=hs.up (d:=c+D.areas.length) qo;unfold wOpen
 split
 ·exact o.up qo
 ·split
  ·exact o.up qo
  ·split
   ·exact o.up qo
   ·split
    ·exact o.up qo
    ·split
     ·exact hs
     ·exact hs
end
end Go.En
