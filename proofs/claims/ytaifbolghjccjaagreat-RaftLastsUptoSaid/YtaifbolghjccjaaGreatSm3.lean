/-
  Part 3.
-/
import Derived.Test.YtaifbolghjccjaaGreatSm2
set_option linter.defProp false
set_option linter.unusedSectionVars false
set_option linter.unusedSimpArgs false
set_option linter.unusedVariables false
set_option maxRecDepth 4000
namespace Go.En
open Go.Proofs Go.Proofs.YtaifbolghjccjaaGreat
open List renaming length -> eq
attribute [local irreducible] Code.wp wpList Calls
variable {w0 : World} {K : PH} {hs : List PH}
section
def LB(kd:Bool)(g cap:Nat)(pre post:List Value)(xs:List Nat)(a b pv:Nat)(hab:a<b)(hpv:a<=pv/\pv<b)(hb:b<=eq xs)(hc:eq xs<=cap)(hl:eq xs<=1099511627776):
  aj w0 (sf kd 261 223) [.slice (some ⟨g,eq pre,none⟩) (eq xs) cap,.int .i64 (a:Nat),.int .i64 (b:Nat),.int .i64 (pv:Nat)] K (pt g (kA kd pre xs post) (sf kd 29 3)::hs)
   (fun v K' hs'=>K'=K/\∃ ys,∃ i:Nat,hs'=pt g (kA kd pre ys post) (sf kd 29 3)::hs/\v=.int .i64 (i:Nat)/\bF a b xs ys/\a+1<=i/\i<=b/\(∀ p,a+1<=p->p<i->ys.getD p 0<=ys.getD a 0)/\(∀ p,i<=p->p<b->ys.getD a 0<ys.getD p 0)/\ys.getD a 0=xs.getD pv 0):=by
 cases kd
 let kd:Bool:=false
 rewrite [show sf false=sf kd from rfl]
 try rewrite [show kA false=kA kd from rfl]
 refine enter Tryz.func223 qk I I I ?_
 rotate_left
 let kd:Bool:=true
 rewrite [show sf true=sf kd from rfl]
 try rewrite [show kA true=kA kd from rfl]
 refine enter Tryz.func261 qk I I I ?_
 rotate_left
 all_goals
  refine acI ?_;have hgi:(kA kd pre xs post)[eq pre+a]?=some (.int (kI kd) ((xs.getD a 0:Nat):Int)):=bI qo;have hgj:(kA kd pre xs post)[eq pre+pv]?=some (.int (kI kd) ((xs.getD pv 0:Nat):Int)):=bI qo;have hgj2:(kA kd pre (xs.set a (xs.getD pv 0)) post)[eq pre+pv]?=some (.int (kI kd) (((xs.set a (xs.getD pv 0)).getD pv 0:Nat):Int)):=bI (by rw[aaw];omega);refine fin 1 I (th (sq (bG [pt g (kA kd pre xs post) (sf kd 29 3)] 13 [0,2,4,6,8,10,12,14,16,18,20,22,24,27,28,31] Nm qk qk (bt qk 6 pv I I qo ?_))));simp only[bf,aaf];refine bP qk 0 0 I qk I hgj (bt qk 2 a I I qo ?_);simp only[bf,aaf];refine bP qk 0 0 I qk I hgi (bt qk 0 a I I qo ?_);simp only[bf,aaf];refine aJ qk 0 I (stp 0 0 I I hgi I (ci (.inl qk) (bt qk 0 pv I I qo ?_)))
  simp only[bf,aaf];refine aJ qk 0 I ?_;refine WL.hs (pt g (kA kd pre (xs.set a (xs.getD pv 0)) post) (sf kd 29 3)::hs) (congrArg (fun z=>pt g z (sf kd 29 3)::hs) (dZ qo)) (stp 0 0 I I hgj2 I ?_);refine WL.hs (pt g (kA kd pre (swp a pv xs) post) (sf kd 29 3)::hs) (congrArg (fun z=>pt g z (sf kd 29 3)::hs) (dZ (by rw[aaw];omega))) (ci (.inl qk) (aM qk 0 rfl (acF ?_)));have hswl:=ly a pv xs
  have hva:(swp a pv xs).getD a 0=xs.getD pv 0:=by
   rw[jg qo qo]
   by_cases e:a=pv
   ·rw[aab e,e]
   rw[aaa e,aab rfl]
  refine ar 1 I (aC (x:=((a+1:Nat):Int)) qo) (ar 1 I (v':=.int .i64 (b-1:Nat)) (by rw[show ((b:Nat):Int)-1=((b-1:Nat):Int) from qo];exact aC qo) (fin 2 I (th (sq (bk ?_)))))
  refine loop (σ:=Nat×Nat×List Nat) (fun s=>[(0,.slice (some ⟨g,eq pre,none⟩) (eq xs) cap),(1,.int .i64 (a:Nat)),(9,.int .i64 s.1),(10,.int .i64 s.2.1)]) (fun _=>K) (fun s=>pt g (kA kd pre s.2.2 post) (sf kd 29 3)::hs)
   (fun s=>bF a b xs s.2.2/\eF (fun x y=>x<=y) (fun x y=>y<x) a b s.1 s.2.1 s.2.2/\s.2.2.getD a 0=xs.getD pv 0) (fun s=>s.2.1+1-s.1) (a+1,b-1,swp a pv xs) ⟨bF.swp ⟨qo,qo⟩ ⟨qo,qo⟩ hb,eF.start _ _ hab,hva⟩ ⟨rfl,rfl,rfl,rfl,trivial⟩ rfl rfl ?_
  rintro ⟨i0,j0,ys⟩ ⟨hP,hI0,hv0⟩;dsimp only at *;have hyl:eq ys=eq xs:=hP.len;refine bk (jn (σ:=Nat) (fun i=>[(0,.slice (some ⟨g,eq pre,none⟩) (eq xs) cap),(1,.int .i64 (a:Nat)),(9,.int .i64 (i:Nat)),(10,.int .i64 (j0:Nat))]) (fun _=>pt g (kA kd pre ys post) (sf kd 29 3)::hs) (fun i=>i0<=i/\eF (fun x y=>x<=y) (fun x y=>y<x) a b i j0 ys/\(i<=j0->ys.getD a 0<ys.getD i 0)) ?_ ?_)
  ·refine bk (loop (σ:=Nat) (fun i=>[(0,.slice (some ⟨g,eq pre,none⟩) (eq xs) cap),(1,.int .i64 (a:Nat)),(9,.int .i64 (i:Nat)),(10,.int .i64 (j0:Nat))]) (fun _=>K) (fun _=>pt g (kA kd pre ys post) (sf kd 29 3)::hs) (fun i=>i0<=i/\eF (fun x y=>x<=y) (fun x y=>y<x) a b i j0 ys) (fun i=>j0+1-i) i0 ⟨aac _,hI0⟩ ⟨I,I,I,I,trivial⟩ I I ?_);rintro i ⟨hi0,hI⟩;have q1:=hI.i1;have q2:=hI.ij;have q3:=hI.jb;refine sq (sq (bG [pt g (kA kd pre ys post) (sf kd 29 3)] 15 [0,2,4,6,8,10,12,14,16,18,20,22,25,26,28] Nm qk qk (dN qk 2 (i<=j0) I Nm (fun h1=>?_) (fun h1=>?_))))
   ·refine bt qk 3 a I I qo ?_;simp only[bf,aaf];refine bS qk 0 0 I I (bI qo) (bt qk 2 i I I qo ?_);simp only[bf,aaf];refine bS qk 0 0 I I (bI qo) (aJ qk 0 I (cl 0 I (iL kd (ys.getD a 0) (ys.getD i 0)) ?_));rintro v41 K41 hs41 ⟨rfl,rfl,rfl⟩;refine ba Nm I ?_
    by_cases hlt:ys.getD a 0<ys.getD i 0
    ·rw[decide_eq_true hlt];exact aM qk 2 I (th (bY I (ex (xt (xt (xb (jx i ⟨hi0,hI,fun _=>hlt⟩ sb I I)))))))
    rw[decide_eq_false hlt];exact aM qk 2 I (th (cU I (sk (th (bk (rg (ar 1 I (aC (x:=((i+1:Nat):Int)) qo) (fin 1 I (bl (bw (x:=i) (i+1) sb I I ⟨qo,hI.up h1 (abg hlt)⟩ qo))))))))))
   exact aJ qk 9 I<|WL.pures 1 I (ba Nm I<|aM qk 2 I (th<|bY I (ex<|xt (xt<|xb (jx i ⟨hi0,hI,fun h=>absurd h h1⟩ sb I I)))))
  rintro i ⟨hi0,hI,hq⟩;refine jn (σ:=Nat) (fun j=>[(0,.slice (some ⟨g,eq pre,none⟩) (eq xs) cap),(1,.int .i64 (a:Nat)),(9,.int .i64 (i:Nat)),(10,.int .i64 (j:Nat))]) (fun _=>pt g (kA kd pre ys post) (sf kd 29 3)::hs) (fun j=>j<=j0/\eF (fun x y=>x<=y) (fun x y=>y<x) a b i j ys/\(i<=j->ys.getD a 0<ys.getD i 0)/\(i<=j->ys.getD j 0<=ys.getD a 0)) ?_ ?_
  ·refine bk (loop (σ:=Nat) (fun j=>[(0,.slice (some ⟨g,eq pre,none⟩) (eq xs) cap),(1,.int .i64 (a:Nat)),(9,.int .i64 (i:Nat)),(10,.int .i64 (j:Nat))]) (fun _=>K) (fun _=>pt g (kA kd pre ys post) (sf kd 29 3)::hs) (fun j=>j<=j0/\eF (fun x y=>x<=y) (fun x y=>y<x) a b i j ys) (fun j=>j+1-i) j0 ⟨aac _,hI⟩ ⟨I,I,I,I,trivial⟩ I I ?_);rintro j ⟨hj0,hJ⟩;have q1:=hJ.i1;have q2:=hJ.ij;have q3:=hJ.jb;refine sq (sq (bG [pt g (kA kd pre ys post) (sf kd 29 3)] 14 [0,2,4,6,8,10,12,14,16,18,20,22,25,26] Nm qk qk (dN qk 2 (i<=j) I Nm (fun h1=>?_) (fun h1=>?_))))
   ·refine bt qk 3 a I I qo ?_;simp only[bf,aaf];refine bS qk 0 0 I I (bI qo) (bt qk 2 j I I qo ?_);simp only[bf,aaf];refine bS qk 0 0 I I (bI qo) (aJ qk 0 I (cl 0 I (iL kd (ys.getD a 0) (ys.getD j 0)) ?_));rintro v58 K58 hs58 ⟨rfl,rfl,rfl⟩;refine ba Nm I ?_
    by_cases hlt:ys.getD a 0<ys.getD j 0
    ·rw[decide_eq_true hlt];exact aM qk 1 I (th (cU I (sk (th (bk (rg (ar 1 I (v':=.int .i64 (j-1:Nat)) (by rw[show ((j:Nat):Int)-1=((j-1:Nat):Int) from qo];exact aC qo) (fin 1 I (bl (bw (x:=j) (j-1) sb I I ⟨qo,hJ.down h1 hlt⟩ qo))))))))))
    rw[decide_eq_false hlt];exact aM qk 1 I (th (bY I (ex (xt (xt (xb (jx j ⟨hj0,hJ,fun h=>hq qo,fun _=>abg hlt⟩ sb I I)))))))
   exact aJ qk 9 I<|WL.pures 1 I (ba Nm I<|aM qk 1 I (th<|bY I (ex<|xt (xt<|xb (jx j ⟨hj0,hJ,fun h=>absurd h h1,fun h=>absurd h h1⟩ sb I I)))))
  rintro j ⟨hj0,hJ,hqi,hqj⟩;have q1:=hJ.i1;have q2:=hJ.ij;have q3:=hJ.jb;refine sq (acI (ai 2 I fun b64 h64=>fin 0 I (th (ax h64 I (fun e6=>?_) (fun e6=>?_)))))
  ·obtain rfl:i=j+1:=qo
   exact ex<|xt (xn I<|xt (xb<|acF (fin 2 I<|acK<|ah I I ⟨I,ys,j+1,I,I,hP,qo,qo,hJ.lo,fun p g1 g2=>hJ.hi p qo g2,hv0⟩)))
  have hij:i<j:=by
   rcases aaL i j with h|h
   ·exact h
   have h1:=hqi qo;have h2:=hqj qo;have:i=j:=qo
   subst this;omega
  have hgi:(kA kd pre ys post)[eq pre+i]?=some (.int (kI kd) ((ys.getD i 0:Nat):Int)):=bI qo;have hgj:(kA kd pre ys post)[eq pre+j]?=some (.int (kI kd) ((ys.getD j 0:Nat):Int)):=bI qo;have hgj2:(kA kd pre (ys.set i (ys.getD j 0)) post)[eq pre+j]?=some (.int (kI kd) (((ys.set i (ys.getD j 0)).getD j 0:Nat):Int)):=bI (by rw[aaw];omega);refine sk (th (sq (bG [pt g (kA kd pre ys post) (sf kd 29 3)] 13 [0,2,4,6,8,10,12,14,16,18,20,22,24,27,28,31] Nm qk qk (bt qk 6 j I I qo ?_))));simp only[bf,aaf];refine bP qk 0 0 I qk I hgj (bt qk 2 i I I qo ?_);simp only[bf,aaf];refine bP qk 0 0 I qk I hgi (bt qk 0 i I I qo ?_);simp only[bf,aaf];refine aJ qk 0 I (stp 0 0 I I hgi I (ci (.inl qk) (bt qk 0 j I I qo ?_)))
  simp only[bf,aaf];refine aJ qk 0 I ?_;refine WL.hs (pt g (kA kd pre (ys.set i (ys.getD j 0)) post) (sf kd 29 3)::hs) (congrArg (fun z=>pt g z (sf kd 29 3)::hs) (dZ qo)) (stp 0 0 I I hgj2 I ?_);refine WL.hs (pt g (kA kd pre (swp i j ys) post) (sf kd 29 3)::hs) (congrArg (fun z=>pt g z (sf kd 29 3)::hs) (dZ (by rw[aaw];omega))) (ci (.inl qk) (aM qk 0 rfl (acF (ar 1 rfl (aC (x:=((i+1:Nat):Int)) qo) (fin 1 rfl (acH (ar 1 rfl (v':=.int .i64 (j-1:Nat)) (by rw[show ((j:Nat):Int)-1=((j-1:Nat):Int) from qo];exact aC qo) (fin 1 I (bl ?_)))))))));exact bw (x:=(i0,j0,ys)) (i+1,j-1,swp i j ys) sb I I ⟨hP.trans (bF.swp ⟨qo,qo⟩ ⟨qo,qo⟩ qo),hJ.swap hij qo (hqj qo) (hqi qo),by rw[jg qo qo,aaa qo,aaa qo];exact hv0⟩ aH
end
section
def gu(a b:Nat)(xs:List Nat):Prop:=∀ p q,p<a->a<=q->q<b->xs.getD p 0<=xs.getD q 0
def bF.outD{a b:Nat}{xs ys:List Nat}(h:bF a b xs ys){i:Nat}(hi:i<a\/b<=i):ys.getD i 0=xs.getD i 0:=by
 rw[aaG,h.out i hi,aaG]
def gu.zero(b:Nat)(xs:List Nat):gu 0 b xs:=fun p q h=>by omega
theorem gu.perm{a b:Nat}{xs ys:List Nat}(h:gu a b xs)(hP:bF a b xs ys)(hb:b<=eq xs):gu a b ys:=fun p q h1 h2 h3=>by
 obtain ⟨r,r1,r2,r3⟩:=hP.mem hb h2 h3;rw[hP.outD (.inl h1),r3];exact h p r h1 r1 r2
def gu.cut{a b m:Nat}{xs:List Nat}(h:gu a b xs)(hm:m<=b):gu a m xs:=fun p q h1 h2 h3=>h p q h1 h2 qo
def de.same{a b:Nat}{xs ys:List Nat}(h:de a b xs)(he:∀ p,a<=p->p<b->ys.getD p 0=xs.getD p 0):de a b ys:=fun i j h1 h2 h3=>by
 rw[he i h1 qo,he j qo h3];exact h i j h1 h2 h3
def gq(a b c d:Nat)(xs:List Nat):Prop:=∀ zs,bF c d xs zs->de c d zs->de a b zs
def gq.self(a b:Nat)(xs:List Nat):gq a b a b xs:=fun _ _ h=>h
def gq.step{a b c d:Nat}{xs ys:List Nat}(h:gq a b c d xs)(hP:bF c d xs ys):gq a b c d ys:=fun zs h1 h2=>h zs (hP.trans h1) h2
structure jV (c d m:Nat) (ys:List Nat):Prop where
 m1:c<=m
 m2:m<d
 lo:∀ p,c<=p->p<m->ys.getD p 0<=ys.getD m 0
 hi:∀ p,m<p->p<d->ys.getD m 0<=ys.getD p 0
def jV.left{c d m:Nat}{ys zs:List Nat}(h:jV c d m ys)(hP:bF c m ys zs)(hd:d<=eq ys):jV c d m zs:=by
 have h2:=h.m2;refine ⟨h.m1,h.m2,fun p p1 p2=>?_,fun p p1 p2=>?_⟩
 ·obtain ⟨q,q1,q2,q3⟩:=hP.mem qo p1 p2;rw[q3,hP.outD (.inr (aac _))];exact h.lo q q1 q2
 rw[hP.outD (.inr (aac _)),hP.outD (i:=p) (.inr qo)];exact h.hi p p1 p2
def jV.right{c d m:Nat}{ys zs:List Nat}(h:jV c d m ys)(hP:bF (m+1) d ys zs)(hd:d<=eq ys):jV c d m zs:=by
 have h2:=h.m2;refine ⟨h.m1,h.m2,fun p p1 p2=>?_,fun p p1 p2=>?_⟩
 ·rw[hP.outD (i:=p) (.inl qo),hP.outD (.inl (Nat.lt_succ_self _))];exact h.lo p p1 p2
 obtain ⟨q,q1,q2,q3⟩:=hP.mem hd qo p2;rw[q3,hP.outD (.inl (Nat.lt_succ_self _))];exact h.hi q qo q2
def jV.loB{c d m:Nat}{ys:List Nat}(h:jV c d m ys)(hl:gu c d ys):gu (m+1) d ys:=fun p q h1 h2 h3=>by
 have g1:=h.m1
 by_cases e:p<c
 ·exact hl p q e qo h3
 by_cases e2:p=m
 ·rw[e2];exact h.hi q qo h3
 exact aas (h.lo p qo qo)<|h.hi q qo h3
theorem gq.left{a b c d m:Nat}{ys zs:List Nat}(h:gq a b c d ys)(hA:jV c d m ys)(hd:d<=eq ys)(hP:bF c m ys zs)(hS:de c m zs):gq a b (m+1) d zs:=fun us h1 h2=>by
 have g1:=hA.m1;have g2:=hA.m2;have hA2:=(hA.left hP hd).right h1 (by rw[hP.len];exact hd);refine h us ((hP.wide (aac _) qo).trans (h1.wide qo (aac _))) (de.join (m:=m) (hS.same fun p p1 p2=>h1.outD (.inl qo)) h2 hA2.lo hA2.hi)
theorem gq.right{a b c d m:Nat}{ys zs:List Nat}(h:gq a b c d ys)(hA:jV c d m ys)(hd:d<=eq ys)(hP:bF (m+1) d ys zs)(hS:de (m+1) d zs):gq a b c m zs:=fun us h1 h2=>by
 have g1:=hA.m1;have g2:=hA.m2;have hA2:=(hA.right hP hd).left h1 (by rw[hP.len];exact hd);refine h us ((hP.wide qo (aac _)).trans (h1.wide (aac _) qo)) (de.join (m:=m) h2 (hS.same fun p p1 p2=>h1.outD (.inr qo)) hA2.lo hA2.hi)
def gq.equal{a b c d i:Nat}{ys:List Nat}(h:gq a b c d ys)(hc:0<c)(hci:c+1<=i)(hid:i<=d)(hd:d<=eq ys)(hl:gu c d ys)(hle:ys.getD c 0<=ys.getD (c-1) 0)(h1:∀ p,c+1<=p->p<i->ys.getD p 0<=ys.getD c 0)(h2:∀ p,i<=p->p<d->ys.getD c 0<ys.getD p 0):
  gq a b i d ys/\gu i d ys:=by
 have heq:∀ p,c<=p->p<i->ys.getD p 0=ys.getD c 0:=fun p p1 p2=>by
  by_cases e:p=c
  ·rw[e]
  have:=h1 p qo p2;have:=hl (c-1) p qo p1 qo;omega
 refine ⟨fun us g1 g2=>h us (g1.wide qo<|aac _) fun p q q1 q2 q3=>?_,fun p q q1 q2 q3=>?_⟩
 ·by_cases e1:q<i
  ·rw[g1.outD (i:=p) (.inl qo),g1.outD (i:=q) (.inl qo),heq p q1 qo,heq q qo e1];omega
  by_cases e2:p<i
  ·obtain ⟨r,r1,r2,r3⟩:=g1.mem hd (by omega:i<=q) q3;rw[g1.outD (i:=p) (.inl e2),heq p q1 e2,r3];exact abz (h2 r r1 r2)
  exact g2 p q qo q2 q3
 by_cases e:p<c
 ·exact hl p q e qo q3
 grind
def de.one{a b:Nat}{xs:List Nat}(h:b<=a+1):de a b xs:=fun i j h1 h2 h3=>by omega
def de.snoc{a b:Nat}{xs:List Nat}(h:de a b xs)(hab:a<b)(hle:xs.getD (b-1) 0<=xs.getD b 0):de a (b+1) xs:=fun i j h1 h2 h3=>by
 by_cases e:j=b
 ·rw[e]
  by_cases e2:i=b-1
  ·rw[e2];exact hle
  exact aas (h i (b-1) h1 qo qo) hle
 exact h i j h1 h2 qo
end
section
def Ml(kd:Bool)(g cap:Nat)(pre post:List Value)(xs:List Nat)(a b pv:Nat)(hab:a<b)(hpv:a<=pv/\pv<b)(hb:b<=eq xs)(hc:eq xs<=cap)(hl:eq xs<=1099511627776):
  aj w0 (sf kd 262 224) [.slice (some ⟨g,eq pre,none⟩) (eq xs) cap,.int .i64 (a:Nat),.int .i64 (b:Nat),.int .i64 (pv:Nat)] K (pt g (kA kd pre xs post) (sf kd 29 3)::hs)
   (fun v K' hs'=>K'=K/\∃ ys,∃ m:Nat,∃ t:Bool,hs'=pt g (kA kd pre ys post) (sf kd 29 3)::hs/\v=.tuple #[.int .i64 (m:Nat),.bool t]/\bF a b xs ys/\jV a b m ys):=by
 cases kd
 let kd:Bool:=false
 rewrite [show sf false=sf kd from rfl]
 try rewrite [show kA false=kA kd from rfl]
 refine enter Tryz.func224 qk I I I ?_
 rotate_left
 let kd:Bool:=true
 rewrite [show sf true=sf kd from rfl]
 try rewrite [show kA true=kA kd from rfl]
 refine enter Tryz.func262 qk I I I ?_
 rotate_left
 all_goals
  refine acI (fin 2 I (th (sq ?_)));have hgi:(kA kd pre xs post)[eq pre+a]?=some (.int (kI kd) ((xs.getD a 0:Nat):Int)):=bI qo;have hgj:(kA kd pre xs post)[eq pre+pv]?=some (.int (kI kd) ((xs.getD pv 0:Nat):Int)):=bI qo;have hgj2:(kA kd pre (xs.set a (xs.getD pv 0)) post)[eq pre+pv]?=some (.int (kI kd) (((xs.set a (xs.getD pv 0)).getD pv 0:Nat):Int)):=bI (by rw[aaw];omega);refine bG [pt g (kA kd pre xs post) (sf kd 29 3)] 13 [0,2,4,6,8,10,12,14,16,18,20,22,24,27,28,31] Nm qk qk (bt qk 6 pv I I qo ?_);simp only[bf,aaf];refine bP qk 0 0 I qk I hgj (bt qk 2 a I I qo ?_);simp only[bf,aaf];refine bP qk 0 0 I qk I hgi (bt qk 0 a I I qo ?_);simp only[bf,aaf];refine aJ qk 0 I (stp 0 0 I I hgi I (ci (.inl qk) (bt qk 0 pv I I qo ?_)))
  simp only[bf,aaf];refine aJ qk 0 I ?_;refine WL.hs (pt g (kA kd pre (xs.set a (xs.getD pv 0)) post) (sf kd 29 3)::hs) (congrArg (fun z=>pt g z (sf kd 29 3)::hs) (dZ qo)) (stp 0 0 I I hgj2 I ?_);refine WL.hs (pt g (kA kd pre (swp a pv xs) post) (sf kd 29 3)::hs) (congrArg (fun z=>pt g z (sf kd 29 3)::hs) (dZ (by rw[aaw];omega))) (ci (.inl qk) (aM qk 0 rfl (acF ?_)));have hswl:=ly a pv xs;have hP0:bF a b xs (swp a pv xs):=bF.swp ⟨qo,qo⟩ ⟨qo,qo⟩ hb;refine ar 1 I (aC (x:=((a+1:Nat):Int)) qo) (ar 1 I (v':=.int .i64 (b-1:Nat)) (by rw[show ((b:Nat):Int)-1=((b-1:Nat):Int) from qo];exact aC qo) ?_);obtain ⟨ys,hys⟩:=be (swp a pv xs);rw[<-hys] at hswl hP0 ⊢;clear hys;have hyl:eq ys=eq xs:=hswl;refine fin 2 I (th (jn (σ:=Nat) (fun i=>[(0,.slice (some ⟨g,eq pre,none⟩) (eq xs) cap),(1,.int .i64 (a:Nat)),(10,.int .i64 (i:Nat)),(11,.int .i64 (((b-1):Nat):Int))]) (fun _=>pt g (kA kd pre ys post) (sf kd 29 3)::hs) (fun i=>(a+1)<=i/\eF (fun x y=>x<y) (fun x y=>y<=x) a b i (b-1) ys/\(i<=(b-1)->ys.getD a 0<=ys.getD i 0)) ?_ ?_))
  ·refine bk (loop (σ:=Nat) (fun i=>[(0,.slice (some ⟨g,eq pre,none⟩) (eq xs) cap),(1,.int .i64 (a:Nat)),(10,.int .i64 (i:Nat)),(11,.int .i64 (((b-1):Nat):Int))]) (fun _=>K) (fun _=>pt g (kA kd pre ys post) (sf kd 29 3)::hs) (fun i=>(a+1)<=i/\eF (fun x y=>x<y) (fun x y=>y<=x) a b i (b-1) ys) (fun i=>(b-1)+1-i) (a+1) ⟨aac _,eF.start _ _ hab⟩ ⟨I,I,I,I,trivial⟩ I I ?_);rintro i ⟨hi0,hI⟩;have q1:=hI.i1;have q2:=hI.ij;have q3:=hI.jb;refine sq (sq (bG [pt g (kA kd pre ys post) (sf kd 29 3)] 14 [0,2,4,6,8,10,12,14,16,18,20,22,25,26] Nm qk qk (dN qk 2 (i<=(b-1)) I Nm (fun h1=>?_) (fun h1=>?_))))
   ·refine bt qk 3 i I I qo ?_;simp only[bf,aaf];refine bS qk 0 0 I I (bI qo) (bt qk 2 a I I qo ?_);simp only[bf,aaf];refine bS qk 0 0 I I (bI qo) (aJ qk 0 I (cl 0 I (iL kd (ys.getD i 0) (ys.getD a 0)) ?_));rintro v41 K41 hs41 ⟨rfl,rfl,rfl⟩;refine ba Nm I ?_
    by_cases hlt:ys.getD i 0<ys.getD a 0
    ·rw[decide_eq_true hlt];exact aM qk 1 I (th (cU I (sk (th (bk (rg (ar 1 I (aC (x:=((i+1:Nat):Int)) qo) (fin 1 I (bl (bw (x:=i) (i+1) sb I I ⟨qo,hI.up h1 hlt⟩ qo))))))))))
    rw[decide_eq_false hlt];exact aM qk 1 I (th (bY I (ex (xt (xt (xb (jx i ⟨hi0,hI,fun _=>abg hlt⟩ sb I I)))))))
   exact aJ qk 9 I<|WL.pures 1 I (ba Nm I<|aM qk 1 I (th<|bY I (ex<|xt (xt<|xb (jx i ⟨hi0,hI,fun h=>absurd h h1⟩ sb I I)))))
  rintro i ⟨hi0,hI,hq⟩;refine jn (σ:=Nat) (fun j=>[(0,.slice (some ⟨g,eq pre,none⟩) (eq xs) cap),(1,.int .i64 (a:Nat)),(10,.int .i64 (i:Nat)),(11,.int .i64 (j:Nat))]) (fun _=>pt g (kA kd pre ys post) (sf kd 29 3)::hs) (fun j=>j<=(b-1)/\eF (fun x y=>x<y) (fun x y=>y<=x) a b i j ys/\(i<=j->ys.getD a 0<=ys.getD i 0)/\(i<=j->ys.getD j 0<ys.getD a 0)) ?_ ?_
  ·refine bk (loop (σ:=Nat) (fun j=>[(0,.slice (some ⟨g,eq pre,none⟩) (eq xs) cap),(1,.int .i64 (a:Nat)),(10,.int .i64 (i:Nat)),(11,.int .i64 (j:Nat))]) (fun _=>K) (fun _=>pt g (kA kd pre ys post) (sf kd 29 3)::hs) (fun j=>j<=(b-1)/\eF (fun x y=>x<y) (fun x y=>y<=x) a b i j ys) (fun j=>j+1-i) ((b-1)) ⟨aac _,hI⟩ ⟨I,I,I,I,trivial⟩ I I ?_);rintro j ⟨hj0,hJ⟩;have q1:=hJ.i1;have q2:=hJ.ij;have q3:=hJ.jb;refine sq (sq (bG [pt g (kA kd pre ys post) (sf kd 29 3)] 15 [0,2,4,6,8,10,12,14,16,18,20,22,25,26,28] Nm qk qk (dN qk 2 (i<=j) I Nm (fun h1=>?_) (fun h1=>?_))))
   ·refine bt qk 3 j I I qo ?_;simp only[bf,aaf];refine bS qk 0 0 I I (bI qo) (bt qk 2 a I I qo ?_);simp only[bf,aaf];refine bS qk 0 0 I I (bI qo) (aJ qk 0 I (cl 0 I (iL kd (ys.getD j 0) (ys.getD a 0)) ?_));rintro v58 K58 hs58 ⟨rfl,rfl,rfl⟩;refine ba Nm I ?_
    by_cases hlt:ys.getD j 0<ys.getD a 0
    ·rw[decide_eq_true hlt];exact aM qk 2 I (th (bY I (ex (xt (xt (xb (jx j ⟨hj0,hJ,fun h=>hq qo,fun _=>hlt⟩ sb I I)))))))
    rw[decide_eq_false hlt];exact aM qk 2 I (th (cU I (sk (th (bk (rg (ar 1 I (v':=.int .i64 (j-1:Nat)) (by rw[show ((j:Nat):Int)-1=((j-1:Nat):Int) from qo];exact aC qo) (fin 1 I (bl (bw (x:=j) (j-1) sb I I ⟨qo,hJ.down h1 (abg hlt)⟩ qo))))))))))
   exact aJ qk 9 I<|WL.pures 1 I (ba Nm I<|aM qk 2 I (th<|bY I (ex<|xt (xt<|xb (jx j ⟨hj0,hJ,fun h=>absurd h h1,fun h=>absurd h h1⟩ sb I I)))))
  rintro j ⟨hj0,hJ,hqi,hqj⟩;have q1:=hJ.i1;have q2:=hJ.ij;have q3:=hJ.jb;refine sq (acI (ai 2 I fun b65 h65=>fin 0 I (th (ax h65 I (fun e6=>?_) (fun e6=>?_)))))
  ·obtain rfl:i=j+1:=qo
   have hgi:(kA kd pre ys post)[eq pre+j]?=some (.int (kI kd) ((ys.getD j 0:Nat):Int)):=bI qo;have hgj:(kA kd pre ys post)[eq pre+a]?=some (.int (kI kd) ((ys.getD a 0:Nat):Int)):=bI qo;have hgj2:(kA kd pre (ys.set j (ys.getD a 0)) post)[eq pre+a]?=some (.int (kI kd) (((ys.set j (ys.getD a 0)).getD a 0:Nat):Int)):=bI (by rw[aaw];omega);refine sq (bG [pt g (kA kd pre ys post) (sf kd 29 3)] 13 [0,2,4,6,8,10,12,14,16,18,20,22,24,27,28,31] Nm qk qk (bt qk 6 a I I qo ?_));simp only[bf,aaf];refine bP qk 0 0 I qk I hgj (bt qk 2 j I I qo ?_);simp only[bf,aaf];refine bP qk 0 0 I qk I hgi (bt qk 0 j I I qo ?_);simp only[bf,aaf];refine aJ qk 0 I (stp 0 0 I I hgi I (ci (.inl qk) (bt qk 0 a I I qo ?_)))
   simp only[bf,aaf];refine aJ qk 0 I ?_;refine WL.hs (pt g (kA kd pre (ys.set j (ys.getD a 0)) post) (sf kd 29 3)::hs) (congrArg (fun z=>pt g z (sf kd 29 3)::hs) (dZ qo)) (stp 0 0 I I hgj2 I ?_);refine WL.hs (pt g (kA kd pre (swp j a ys) post) (sf kd 29 3)::hs) (congrArg (fun z=>pt g z (sf kd 29 3)::hs) (dZ (by rw[aaw];omega))) (ci (.inl qk) (aM qk 0 rfl (acF (fin 3 rfl (acK ?_)))));have hA:=hJ.last qo;exact bM I I I ⟨I,swp j a ys,j,true,I,I,hP0.trans (bF.swp ⟨qo,qo⟩ ⟨qo,qo⟩ qo),⟨qo,qo,fun p p1 p2=>abz (hA.1 p p1 p2),hA.2⟩⟩
  have hij:i<j:=by
   rcases aaL i j with h|h
   ·exact h
   have h1:=hqi qo;have h2:=hqj qo;have:i=j:=qo
   subst this;omega
  have hgi:(kA kd pre ys post)[eq pre+i]?=some (.int (kI kd) ((ys.getD i 0:Nat):Int)):=bI qo;have hgj:(kA kd pre ys post)[eq pre+j]?=some (.int (kI kd) ((ys.getD j 0:Nat):Int)):=bI qo;have hgj2:(kA kd pre (ys.set i (ys.getD j 0)) post)[eq pre+j]?=some (.int (kI kd) (((ys.set i (ys.getD j 0)).getD j 0:Nat):Int)):=bI (by rw[aaw];omega);refine sk (th (sq (bG [pt g (kA kd pre ys post) (sf kd 29 3)] 13 [0,2,4,6,8,10,12,14,16,18,20,22,24,27,28,31] Nm qk qk (bt qk 6 j I I qo ?_))));simp only[bf,aaf];refine bP qk 0 0 I qk I hgj (bt qk 2 i I I qo ?_);simp only[bf,aaf];refine bP qk 0 0 I qk I hgi (bt qk 0 i I I qo ?_);simp only[bf,aaf];refine aJ qk 0 I (stp 0 0 I I hgi I (ci (.inl qk) (bt qk 0 j I I qo ?_)))
  simp only[bf,aaf];refine aJ qk 0 I ?_;refine WL.hs (pt g (kA kd pre (ys.set i (ys.getD j 0)) post) (sf kd 29 3)::hs) (congrArg (fun z=>pt g z (sf kd 29 3)::hs) (dZ qo)) (stp 0 0 I I hgj2 I ?_);refine WL.hs (pt g (kA kd pre (swp i j ys) post) (sf kd 29 3)::hs) (congrArg (fun z=>pt g z (sf kd 29 3)::hs) (dZ (by rw[aaw];omega))) (ci (.inl qk) (aM qk 0 rfl (acF (ar 1 rfl (aC (x:=((i+1:Nat):Int)) qo) (fin 1 rfl (acF (ar 1 rfl (v':=.int .i64 (j-1:Nat)) (by rw[show ((j:Nat):Int)-1=((j-1:Nat):Int) from qo];exact aC qo) ?_)))))));have hJ2:=hJ.swap hij qo (hqj qo) (hqi qo);have hP2:bF a b xs (swp i j ys):=hP0.trans (bF.swp ⟨qo,qo⟩ ⟨qo,qo⟩ qo);refine fin 1 I (th (jn (σ:=Nat×List Nat) (fun s=>[(0,.slice (some ⟨g,eq pre,none⟩) (eq xs) cap),(1,.int .i64 (a:Nat)),(10,.int .i64 (s.1+1:Nat)),(11,.int .i64 s.1)]) (fun s=>pt g (kA kd pre s.2 post) (sf kd 29 3)::hs) (fun s=>bF a b xs s.2/\eF (fun x y=>x<y) (fun x y=>y<=x) a b (s.1+1) s.1 s.2) ?_ ?_))
  ·refine bk ?_
   refine loop (σ:=Nat×Nat×List Nat) (fun s=>[(0,.slice (some ⟨g,eq pre,none⟩) (eq xs) cap),(1,.int .i64 (a:Nat)),(10,.int .i64 s.1),(11,.int .i64 s.2.1)]) (fun _=>K) (fun s=>pt g (kA kd pre s.2.2 post) (sf kd 29 3)::hs)
    (fun s=>bF a b xs s.2.2/\eF (fun x y=>x<y) (fun x y=>y<=x) a b s.1 s.2.1 s.2.2) (fun s=>s.2.1+1-s.1) (i+1,j-1,swp i j ys) ⟨hP2,hJ2⟩ sb rfl rfl ?_
   clear hJ2 hP2 hij hgj2 hgj hgi e6 hqj hqi q3 q2 q1 hJ hj0 hq hI hi0;clear h65 b65 j i hyl hP0 hswl ys;rintro ⟨i0,j0,ys⟩ ⟨hP,hI0⟩;dsimp only at *;have hyl:eq ys=eq xs:=hP.len;refine bk (jn (σ:=Nat) (fun i=>[(0,.slice (some ⟨g,eq pre,none⟩) (eq xs) cap),(1,.int .i64 (a:Nat)),(10,.int .i64 (i:Nat)),(11,.int .i64 (j0:Nat))]) (fun _=>pt g (kA kd pre ys post) (sf kd 29 3)::hs) (fun i=>i0<=i/\eF (fun x y=>x<y) (fun x y=>y<=x) a b i j0 ys/\(i<=j0->ys.getD a 0<=ys.getD i 0)) ?_ ?_)
   ·refine bk (loop (σ:=Nat) (fun i=>[(0,.slice (some ⟨g,eq pre,none⟩) (eq xs) cap),(1,.int .i64 (a:Nat)),(10,.int .i64 (i:Nat)),(11,.int .i64 (j0:Nat))]) (fun _=>K) (fun _=>pt g (kA kd pre ys post) (sf kd 29 3)::hs) (fun i=>i0<=i/\eF (fun x y=>x<y) (fun x y=>y<=x) a b i j0 ys) (fun i=>j0+1-i) i0 ⟨aac _,hI0⟩ ⟨I,I,I,I,trivial⟩ I I ?_);rintro i ⟨hi0,hI⟩;have q1:=hI.i1;have q2:=hI.ij;have q3:=hI.jb;refine sq (sq (bG [pt g (kA kd pre ys post) (sf kd 29 3)] 14 [0,2,4,6,8,10,12,14,16,18,20,22,25,26] Nm qk qk (dN qk 2 (i<=j0) I Nm (fun h1=>?_) (fun h1=>?_))))
    ·refine bt qk 3 i I I qo ?_;simp only[bf,aaf];refine bS qk 0 0 I I (bI qo) (bt qk 2 a I I qo ?_);simp only[bf,aaf];refine bS qk 0 0 I I (bI qo) (aJ qk 0 I (cl 0 I (iL kd (ys.getD i 0) (ys.getD a 0)) ?_));rintro v41 K41 hs41 ⟨rfl,rfl,rfl⟩;refine ba Nm I ?_
     by_cases hlt:ys.getD i 0<ys.getD a 0
     ·rw[decide_eq_true hlt];exact aM qk 1 I (th (cU I (sk (th (bk (rg (ar 1 I (aC (x:=((i+1:Nat):Int)) qo) (fin 1 I (bl (bw (x:=i) (i+1) sb I I ⟨qo,hI.up h1 hlt⟩ qo))))))))))
     rw[decide_eq_false hlt];exact aM qk 1 I (th (bY I (ex (xt (xt (xb (jx i ⟨hi0,hI,fun _=>abg hlt⟩ sb I I)))))))
    exact aJ qk 9 I<|WL.pures 1 I (ba Nm I<|aM qk 1 I (th<|bY I (ex<|xt (xt<|xb (jx i ⟨hi0,hI,fun h=>absurd h h1⟩ sb I I)))))
   rintro i ⟨hi0,hI,hq⟩;refine jn (σ:=Nat) (fun j=>[(0,.slice (some ⟨g,eq pre,none⟩) (eq xs) cap),(1,.int .i64 (a:Nat)),(10,.int .i64 (i:Nat)),(11,.int .i64 (j:Nat))]) (fun _=>pt g (kA kd pre ys post) (sf kd 29 3)::hs) (fun j=>j<=j0/\eF (fun x y=>x<y) (fun x y=>y<=x) a b i j ys/\(i<=j->ys.getD a 0<=ys.getD i 0)/\(i<=j->ys.getD j 0<ys.getD a 0)) ?_ ?_
   ·refine bk (loop (σ:=Nat) (fun j=>[(0,.slice (some ⟨g,eq pre,none⟩) (eq xs) cap),(1,.int .i64 (a:Nat)),(10,.int .i64 (i:Nat)),(11,.int .i64 (j:Nat))]) (fun _=>K) (fun _=>pt g (kA kd pre ys post) (sf kd 29 3)::hs) (fun j=>j<=j0/\eF (fun x y=>x<y) (fun x y=>y<=x) a b i j ys) (fun j=>j+1-i) (j0) ⟨aac _,hI⟩ ⟨I,I,I,I,trivial⟩ I I ?_);rintro j ⟨hj0,hJ⟩;have q1:=hJ.i1;have q2:=hJ.ij;have q3:=hJ.jb;refine sq (sq (bG [pt g (kA kd pre ys post) (sf kd 29 3)] 15 [0,2,4,6,8,10,12,14,16,18,20,22,25,26,28] Nm qk qk (dN qk 2 (i<=j) I Nm (fun h1=>?_) (fun h1=>?_))))
    ·refine bt qk 3 j I I qo ?_;simp only[bf,aaf];refine bS qk 0 0 I I (bI qo) (bt qk 2 a I I qo ?_);simp only[bf,aaf];refine bS qk 0 0 I I (bI qo) (aJ qk 0 I (cl 0 I (iL kd (ys.getD j 0) (ys.getD a 0)) ?_));rintro v58 K58 hs58 ⟨rfl,rfl,rfl⟩;refine ba Nm I ?_
     by_cases hlt:ys.getD j 0<ys.getD a 0
     ·rw[decide_eq_true hlt];exact aM qk 2 I (th (bY I (ex (xt (xt (xb (jx j ⟨hj0,hJ,fun h=>hq qo,fun _=>hlt⟩ sb I I)))))))
     rw[decide_eq_false hlt];exact aM qk 2 I (th (cU I (sk (th (bk (rg (ar 1 I (v':=.int .i64 (j-1:Nat)) (by rw[show ((j:Nat):Int)-1=((j-1:Nat):Int) from qo];exact aC qo) (fin 1 I (bl (bw (x:=j) (j-1) sb I I ⟨qo,hJ.down h1 (abg hlt)⟩ qo))))))))))
    exact aJ qk 9 I<|WL.pures 1 I (ba Nm I<|aM qk 2 I (th<|bY I (ex<|xt (xt<|xb (jx j ⟨hj0,hJ,fun h=>absurd h h1,fun h=>absurd h h1⟩ sb I I)))))
   rintro j ⟨hj0,hJ,hqi,hqj⟩;have q1:=hJ.i1;have q2:=hJ.ij;have q3:=hJ.jb;refine sq (acI (ai 2 I fun b134 h134=>fin 0 I (th (ax h134 I (fun e6=>?_) (fun e6=>?_)))))
   ·obtain rfl:i=j+1:=qo
    exact ex<|xt (xn I<|xt (xb<|jx (j,ys) ⟨hP,hJ⟩ sb I I))
   have hij:i<j:=by
    rcases aaL i j with h|h
    ·exact h
    have h1:=hqi qo;have h2:=hqj qo;have:i=j:=qo
    subst this;omega
   have hgi:(kA kd pre ys post)[eq pre+i]?=some (.int (kI kd) ((ys.getD i 0:Nat):Int)):=bI qo;have hgj:(kA kd pre ys post)[eq pre+j]?=some (.int (kI kd) ((ys.getD j 0:Nat):Int)):=bI qo;have hgj2:(kA kd pre (ys.set i (ys.getD j 0)) post)[eq pre+j]?=some (.int (kI kd) (((ys.set i (ys.getD j 0)).getD j 0:Nat):Int)):=bI (by rw[aaw];omega);refine sk (th (sq (bG [pt g (kA kd pre ys post) (sf kd 29 3)] 13 [0,2,4,6,8,10,12,14,16,18,20,22,24,27,28,31] Nm qk qk (bt qk 6 j I I qo ?_))));simp only[bf,aaf];refine bP qk 0 0 I qk I hgj (bt qk 2 i I I qo ?_);simp only[bf,aaf];refine bP qk 0 0 I qk I hgi (bt qk 0 i I I qo ?_);simp only[bf,aaf];refine aJ qk 0 I (stp 0 0 I I hgi I (ci (.inl qk) (bt qk 0 j I I qo ?_)))
   simp only[bf,aaf];refine aJ qk 0 I ?_;refine WL.hs (pt g (kA kd pre (ys.set i (ys.getD j 0)) post) (sf kd 29 3)::hs) (congrArg (fun z=>pt g z (sf kd 29 3)::hs) (dZ qo)) (stp 0 0 I I hgj2 I ?_);exact WL.hs (pt g (kA kd pre (swp i j ys) post) (sf kd 29 3)::hs) (congrArg (fun z=>pt g z (sf kd 29 3)::hs) (dZ (by rw[aaw];omega))) (ci (.inl qk) (aM qk 0 rfl (acF (ar 1 rfl (aC (x:=((i+1:Nat):Int)) qo) (fin 1 rfl (acH (ar 1 rfl (v':=.int .i64 (j-1:Nat)) (by rw[show ((j:Nat):Int)-1=((j-1:Nat):Int) from qo];exact aC qo) (fin 1 I (bl (bw (x:=(i0,j0,ys)) (i+1,j-1,swp i j ys) sb I I ⟨hP.trans (bF.swp ⟨qo,qo⟩ ⟨qo,qo⟩ qo),hJ.swap hij qo (hqj qo) (hqi qo)⟩ aH))))))))))
  rintro ⟨j,ys⟩ ⟨hP,hJ⟩;dsimp only at *;have hyl:eq ys=eq xs:=hP.len;have q1:=hJ.i1;have q2:=hJ.ij;have q3:=hJ.jb;have hgi:(kA kd pre ys post)[eq pre+j]?=some (.int (kI kd) ((ys.getD j 0:Nat):Int)):=bI qo;have hgj:(kA kd pre ys post)[eq pre+a]?=some (.int (kI kd) ((ys.getD a 0:Nat):Int)):=bI qo;have hgj2:(kA kd pre (ys.set j (ys.getD a 0)) post)[eq pre+a]?=some (.int (kI kd) (((ys.set j (ys.getD a 0)).getD a 0:Nat):Int)):=bI (by rw[aaw];omega);refine sq (bG [pt g (kA kd pre ys post) (sf kd 29 3)] 13 [0,2,4,6,8,10,12,14,16,18,20,22,24,27,28,31] Nm qk qk (bt qk 6 a I I qo ?_));simp only[bf,aaf];refine bP qk 0 0 I qk I hgj (bt qk 2 j I I qo ?_);simp only[bf,aaf];refine bP qk 0 0 I qk I hgi (bt qk 0 j I I qo ?_)
  simp only[bf,aaf];refine aJ qk 0 I (stp 0 0 I I hgi I (ci (.inl qk) (bt qk 0 a I I qo ?_)));simp only[bf,aaf];refine aJ qk 0 I ?_;refine WL.hs (pt g (kA kd pre (ys.set j (ys.getD a 0)) post) (sf kd 29 3)::hs) (congrArg (fun z=>pt g z (sf kd 29 3)::hs) (dZ qo)) (stp 0 0 I I hgj2 I ?_);refine WL.hs (pt g (kA kd pre (swp j a ys) post) (sf kd 29 3)::hs) (congrArg (fun z=>pt g z (sf kd 29 3)::hs) (dZ (by rw[aaw];omega))) (ci (.inl qk) (aM qk 0 rfl (acF (fin 3 rfl (acK ?_)))));have hA:=hJ.last qo;exact bM I I I ⟨I,swp j a ys,j,false,I,I,hP.trans (bF.swp ⟨qo,qo⟩ ⟨qo,qo⟩ qo),⟨qo,qo,fun p p1 p2=>abz (hA.1 p p1 p2),hA.2⟩⟩
end
section
def Mj(kd:Bool)(g cap:Nat)(pre post:List Value)(xs:List Nat)(a b:Nat)(hab:a<b)(hb:b<=eq xs)(hc:eq xs<=cap)(hl:eq xs<=1099511627776)(hlo:gu a b xs):
  aj w0 (sf kd 259 221) [.slice (some ⟨g,eq pre,none⟩) (eq xs) cap,.int .i64 (a:Nat),.int .i64 (b:Nat)] K (pt g (kA kd pre xs post) (sf kd 29 3)::hs)
   (fun v K' hs'=>K'=K/\∃ ys,∃ t:Bool,hs'=pt g (kA kd pre ys post) (sf kd 29 3)::hs/\v=.bool t/\bF a b xs ys/\(t=true->de a b ys)):=by
 cases kd
 let kd:Bool:=false
 rewrite [show sf false=sf kd from rfl]
 try rewrite [show kA false=kA kd from rfl]
 refine enter Tryz.func221 qk I I I ?_
 rotate_left
 let kd:Bool:=true
 rewrite [show sf true=sf kd from rfl]
 try rewrite [show kA true=kA kd from rfl]
 refine enter Tryz.func259 qk I I I ?_
 rotate_left
 all_goals
  refine acI (fin 1 I<|acF (ar 1 I (aC (x:=((a+1:Nat):Int)) qo)<|fin 1 I (acE (fin 1 I<|th (bk ?_)))))
  refine loop (σ:=Nat×Nat×List Nat) (fun s=>[(0,.slice (some ⟨g,eq pre,none⟩) (eq xs) cap),(1,.int .i64 (a:Nat)),(2,.int .i64 (b:Nat)),(7,.int .i64 s.2.1),(8,.int .i64 s.1)]) (fun _=>K) (fun s=>pt g (kA kd pre s.2.2 post) (sf kd 29 3)::hs)
   (fun s=>s.1<=5/\a+1<=s.2.1/\s.2.1<=b/\bF a b xs s.2.2/\de a s.2.1 s.2.2) (fun s=>5-s.1) (0,a+1,xs) ⟨qo,aac _,aH,bF.refl _ _ _,de.zero _ _⟩ ⟨rfl,rfl,rfl,rfl,rfl,trivial⟩ rfl rfl ?_
  rintro ⟨k,i0,ys⟩ ⟨hk,hi0,hi0b,hP,hS0⟩;dsimp only at *;have hyl:eq ys=eq xs:=hP.len;refine sq (acI (ai 1 I fun b14 h14=>fin 0 I (th (ax h14 I (fun e2=>?_) (fun e2=>?_)))))
  ·refine sk<|th (sq<|bk (jn (σ:=Nat) (fun i=>[(0,.slice (some ⟨g,eq pre,none⟩) (eq xs) cap),(1,.int .i64 (a:Nat)),(2,.int .i64 (b:Nat)),(7,.int .i64 (i:Nat)),(8,.int .i64 (k:Nat))]) (fun _=>pt g (kA kd pre ys post) (sf kd 29 3)::hs) (fun i=>a+1<=i/\i<=b/\de a i ys) ?_ ?_))
   ·refine bk (loop (σ:=Nat) (fun i=>[(0,.slice (some ⟨g,eq pre,none⟩) (eq xs) cap),(1,.int .i64 (a:Nat)),(2,.int .i64 (b:Nat)),(7,.int .i64 (i:Nat)),(8,.int .i64 (k:Nat))]) (fun _=>K) (fun _=>pt g (kA kd pre ys post) (sf kd 29 3)::hs) (fun i=>a+1<=i/\i<=b/\de a i ys) (fun i=>b-i) i0 ⟨hi0,hi0b,hS0⟩ sb I I ?_);rintro i ⟨hi1,hi2,hS⟩;refine sq (sq (bG [pt g (kA kd pre ys post) (sf kd 29 3)] 16 [0,2,4,6,8,10,12,14,16,18,20,22,24,27,28,30] Nm qk qk (dN qk 2 (i<b) I Nm (fun h3=>?_) (fun h3=>?_))))
    ·refine bt qk 3 i I I qo ?_;simp only[bf,aaf];refine bS qk 0 0 I I (bI qo) (bA qk 2 I (v':=.int .i64 (i-1:Nat)) (by rw[show ((i:Nat):Int)-1=((i-1:Nat):Int) from qo];exact aC qo) (bt qk 0 (i-1) I I qo ?_));simp only[bf,aaf];refine bS qk 0 0 I I (bI qo) (aJ qk 0 I (cl 0 I (iL kd (ys.getD i 0) (ys.getD (i-1) 0)) ?_));rintro v30 K30 hs30 ⟨rfl,rfl,rfl⟩;refine ba Nm I ?_
     by_cases hlt:ys.getD i 0<ys.getD (i-1) 0
     ·rw[decide_eq_true hlt];exact aM qk 2 I (th (bY I (ex (xt (xt (xb (jx i ⟨hi1,hi2,hS⟩ sb I I)))))))
     rw[decide_eq_false hlt];exact aM qk 2 I (th (cU I (sk (th (bk (rg (ar 1 I (aC (x:=((i+1:Nat):Int)) qo) (fin 1 I (bl (bw (x:=i) (i+1) sb I I ⟨qo,qo,hS.snoc qo (abg hlt)⟩ qo))))))))))
    exact aJ qk 10 I<|WL.pures 1 I (ba Nm I<|aM qk 2 I (th<|bY I (ex<|xt (xt<|xb (jx i ⟨hi1,hi2,hS⟩ sb I I)))))
   rintro i ⟨hi1,hi2,hS⟩;refine sq (acI (ai 2 I fun b37 h37=>fin 0 I (th (ax h37 I (fun e6=>?_) (fun e6=>?_)))))
   ·obtain rfl:i=b:=qo
    exact acI (fin 1 I<|acK<|rT (rB<|rT (rT<|rB (rT<|ah I I ⟨I,ys,true,I,I,hP,fun _=>hS⟩))))
   refine sk<|acE<|ar 2 I (aC qo) (ai 0 I fun b41 h41=>fin 0 I<|th (ax h41 I (fun e8=>?_) (fun e8=>?_)))
   ·exact acI (fin 1 I<|acK<|rT (rB<|rT (rT<|rB (rT<|ah I I ⟨I,ys,false,I,I,hP,fun h=>by cases h⟩))))
   have hib:i<b:=qo
   have hgj:(kA kd pre ys post)[eq pre+i]?=some (.int (kI kd) ((ys.getD i 0:Nat):Int)):=bI qo;have hgj1:(kA kd pre ys post)[eq pre+(i-1)]?=some (.int (kI kd) ((ys.getD (i-1) 0:Nat):Int)):=bI qo;have hgj2:(kA kd pre (ys.set i (ys.getD (i-1) 0)) post)[eq pre+(i-1)]?=some (.int (kI kd) (((ys.set i (ys.getD (i-1) 0)).getD (i-1) 0:Nat):Int)):=bI (by rw[aaw];omega);refine sk (th (sq (bG [pt g (kA kd pre ys post) (sf kd 29 3)] 15 [0,2,4,6,8,10,12,14,16,18,20,22,24,26,28,31,32,35] Nm qk qk (bA qk 4 I (v':=.int .i64 (i-1:Nat)) (by rw[show ((i:Nat):Int)-1=((i-1:Nat):Int) from qo];exact aC qo) (bA qk 2 I (v':=.int .i64 (i-1:Nat)) (by rw[show ((i:Nat):Int)-1=((i-1:Nat):Int) from qo];exact aC qo) (bt qk 0 (i-1) I I qo ?_))))))
   simp only[bf,aaf];refine bP qk 0 0 I qk I hgj1 (bt qk 2 i I I qo ?_);simp only[bf,aaf];refine bP qk 0 0 I qk I hgj (bt qk 0 i I I qo ?_);simp only[bf,aaf];refine aJ qk 0 I (stp 0 0 I I hgj I (ci (.inl qk) (bt qk 0 (i-1) I I qo ?_)));simp only[bf,aaf];refine aJ qk 0 I ?_;refine WL.hs (pt g (kA kd pre (ys.set i (ys.getD (i-1) 0)) post) (sf kd 29 3)::hs) (congrArg (fun z=>pt g z (sf kd 29 3)::hs) (dZ qo)) (stp 0 0 I I hgj2 I ?_);refine WL.hs (pt g (kA kd pre (swp i (i-1) ys) post) (sf kd 29 3)::hs) (congrArg (fun z=>pt g z (sf kd 29 3)::hs) (dZ (by rw[aaw];omega))) (ci (.inl qk) ?_);have hP1:bF a b xs (swp i (i-1) ys):=hP.trans (bF.swp ⟨qo,qo⟩ ⟨qo,qo⟩ qo)
   have hS1:de a (i-1) (swp i (i-1) ys):=de.same (xs:=ys) (fun p q p1 p2 p3=>hS p q p1 p2 qo) fun p p1 p2=>by rw[jg qo qo,aaa qo,aaa qo]
   refine aM qk 0 I<|th (jn (σ:=List Nat) (fun _=>[(0,.slice (some ⟨g,eq pre,none⟩) (eq xs) cap),(1,.int .i64 (a:Nat)),(2,.int .i64 (b:Nat)),(7,.int .i64 (i:Nat)),(8,.int .i64 (k:Nat))]) (fun zs=>pt g (kA kd pre zs post) (sf kd 29 3)::hs) (fun zs=>bF a b xs zs/\de a i zs) ?_ ?_)
   ·refine acI (ar 2 I (aC qo) (ai 0 I fun b61 h61=>fin 0 I<|th (ax h61 I (fun e10=>?_) (fun e10=>?_))))
    ·refine acI (ar 1 I (v':=.int .i64 (i-1:Nat)) (by rw[show ((i:Nat):Int)-1=((i-1:Nat):Int) from qo];exact aC qo) (fin 1 I (th (bk ?_))))
     refine loop (σ:=Nat×List Nat) (fun s=>[(0,.slice (some ⟨g,eq pre,none⟩) (eq xs) cap),(1,.int .i64 (a:Nat)),(2,.int .i64 (b:Nat)),(7,.int .i64 (i:Nat)),(8,.int .i64 (k:Nat)),(9,.int .i64 s.1)]) (fun _=>K) (fun s=>pt g (kA kd pre s.2 post) (sf kd 29 3)::hs)
      (fun s=>a<=s.1/\s.1<=i-1/\bF a b xs s.2/\i8 a (i-1) s.1 s.2) (fun s=>s.1) (i-1,swp i (i-1) ys) ⟨aH,aac _,hP1,i8.start hS1⟩ ⟨rfl,rfl,rfl,rfl,rfl,rfl,trivial⟩ rfl rfl ?_
     rintro ⟨j,zs⟩ ⟨hj1,hj2,hQ,hV⟩;dsimp only at *;have hzl:eq zs=eq xs:=hQ.len;have hlz:=hlo.perm hQ hb;refine sq (acI (ai 1 I fun b65 h65=>fin 0 I (th (ax h65 I (fun e12=>?_) (fun e12=>?_)))))
     ·refine sk (th (sq (bk (sq (sq (bG [pt g (kA kd pre zs post) (sf kd 29 3)] 11 [0,2,4,6,8,10,12,14,16,19,20] Nm qk qk (bt qk 2 j I I qo ?_)))))));simp only[bf,aaf];refine bS qk 0 0 I I (bI qo) (bA qk 2 I (v':=.int .i64 (j-1:Nat)) (by rw[show ((j:Nat):Int)-1=((j-1:Nat):Int) from qo];exact aC qo) (bt qk 0 (j-1) I I qo ?_));simp only[bf,aaf];refine bS qk 0 0 I I (bI qo) (aJ qk 0 I (cl 0 I (iL kd (zs.getD j 0) (zs.getD (j-1) 0)) ?_));rintro v30 K30 hs30 ⟨rfl,rfl,rfl⟩;refine ba Nm I ?_
      by_cases hlt:zs.getD j 0<zs.getD (j-1) 0
      ·have hja:a<j:=by
        rcases aaL a j with h|h
        ·exact h
        obtain rfl:j=a:=qo
        have:=hlz (j-1) j qo (aac _) qo;omega
       rw[decide_eq_true hlt];refine aM qk 1 I (th (bY I ?_));have hgj:(kA kd pre zs post)[eq pre+j]?=some (.int (kI kd) ((zs.getD j 0:Nat):Int)):=bI qo;have hgj1:(kA kd pre zs post)[eq pre+(j-1)]?=some (.int (kI kd) ((zs.getD (j-1) 0:Nat):Int)):=bI qo;have hgj2:(kA kd pre (zs.set j (zs.getD (j-1) 0)) post)[eq pre+(j-1)]?=some (.int (kI kd) (((zs.set j (zs.getD (j-1) 0)).getD (j-1) 0:Nat):Int)):=bI (by rw[aaw];omega);refine sk (th (bG [pt g (kA kd pre zs post) (sf kd 29 3)] 15 [0,2,4,6,8,10,12,14,16,18,20,22,24,26,28,31,32,35] Nm qk qk (bA qk 4 I (v':=.int .i64 (j-1:Nat)) (by rw[show ((j:Nat):Int)-1=((j-1:Nat):Int) from qo];exact aC qo) (bA qk 2 I (v':=.int .i64 (j-1:Nat)) (by rw[show ((j:Nat):Int)-1=((j-1:Nat):Int) from qo];exact aC qo) (bt qk 0 (j-1) I I qo ?_)))))
       simp only[bf,aaf];refine bP qk 0 0 I qk I hgj1 (bt qk 2 j I I qo ?_);simp only[bf,aaf];refine bP qk 0 0 I qk I hgj (bt qk 0 j I I qo ?_);simp only[bf,aaf];refine aJ qk 0 I (stp 0 0 I I hgj I (ci (.inl qk) (bt qk 0 (j-1) I I qo ?_)));simp only[bf,aaf];refine aJ qk 0 I ?_;refine WL.hs (pt g (kA kd pre (zs.set j (zs.getD (j-1) 0)) post) (sf kd 29 3)::hs) (congrArg (fun z=>pt g z (sf kd 29 3)::hs) (dZ qo)) (stp 0 0 I I hgj2 I ?_);exact WL.hs (pt g (kA kd pre (swp j (j-1) zs) post) (sf kd 29 3)::hs) (congrArg (fun z=>pt g z (sf kd 29 3)::hs) (dZ (by rw[aaw];omega))) (ci (.inl qk) (aM qk 0 rfl (acG (ar 1 rfl (v':=.int .i64 (j-1:Nat)) (by rw[show ((j:Nat):Int)-1=((j-1:Nat):Int) from qo];exact aC qo) (fin 1 I (bw (x:=(j,zs)) (j-1,swp j (j-1) zs) sb I I ⟨aH,aH,hQ.trans (bF.swp ⟨qo,qo⟩ ⟨qo,qo⟩ qo),hV.swap hja hj2 qo hlt⟩ aH))))))
      have hdone:de a i zs:=by
       rw[show i=i-1+1 from qo];rcases aaL a j with h|h
       ·exact hV.stop h qo
       obtain rfl:j=a:=qo
       exact hV.done
      rw[decide_eq_false hlt];exact aM qk 1 I (th (cU I (ex (xt (xn I (xt (xt (xb (jx zs ⟨hQ,hdone⟩ sb I I)))))))))
     have hdone:de a i zs:=by
      rw[show i=i-1+1 from qo];obtain rfl:j=a:=qo
      exact hV.done
     exact ex<|xt (xt<|xb (jx zs ⟨hQ,hdone⟩ sb I I))
    exact sk<|jx _ ⟨hP1,de.one qo⟩ ⟨I,I,I,I,I,trivial⟩ I I
   rintro zs ⟨hQ,hSz⟩;have hzl0:eq zs=eq xs:=hQ.len;clear hS1 hP1 hgj2 hgj1 hgj hS hS0 hP hyl;refine acI (ar 2 I (aC qo) (ai 0 I fun b98 h98=>fin 0 I (th (ax h98 I (fun e15=>?_) (fun e15=>?_)))))
   ·refine acI (ar 1 I (aC (x:=((i+1:Nat):Int)) qo)<|fin 1 I (th<|bk ?_))
    refine loop (σ:=Nat×List Nat) (fun s=>[(0,.slice (some ⟨g,eq pre,none⟩) (eq xs) cap),(1,.int .i64 (a:Nat)),(2,.int .i64 (b:Nat)),(7,.int .i64 (i:Nat)),(8,.int .i64 (k:Nat)),(10,.int .i64 s.1)]) (fun _=>K) (fun s=>pt g (kA kd pre s.2 post) (sf kd 29 3)::hs)
     (fun s=>i+1<=s.1/\s.1<=b/\bF a b xs s.2/\de a i s.2) (fun s=>b-s.1) (i+1,zs) ⟨aac _,aH,hQ,hSz⟩ sb rfl rfl ?_
    clear hQ hSz hzl0;rintro ⟨j,us⟩ ⟨hj1,hj2,hQ,hSz⟩;dsimp only at *;have hul:eq us=eq xs:=hQ.len;refine sq (acI (ai 2 I fun b103 h103=>fin 0 I (th (ax h103 I (fun e17=>?_) (fun e17=>?_)))))
    ·refine sk (th (sq (bk (sq (sq (bG [pt g (kA kd pre us post) (sf kd 29 3)] 11 [0,2,4,6,8,10,12,14,16,19,20] Nm qk qk (bt qk 2 j I I qo ?_)))))));simp only[bf,aaf];refine bS qk 0 0 I I (bI qo) (bA qk 2 I (v':=.int .i64 (j-1:Nat)) (by rw[show ((j:Nat):Int)-1=((j-1:Nat):Int) from qo];exact aC qo) (bt qk 0 (j-1) I I qo ?_));simp only[bf,aaf];refine bS qk 0 0 I I (bI qo) (aJ qk 0 I (cl 0 I (iL kd (us.getD j 0) (us.getD (j-1) 0)) ?_));rintro v30 K30 hs30 ⟨rfl,rfl,rfl⟩;refine ba Nm I ?_
     by_cases hlt:us.getD j 0<us.getD (j-1) 0
     ·rw[decide_eq_true hlt];refine aM qk 1 I (th (bY I ?_));have hgj:(kA kd pre us post)[eq pre+j]?=some (.int (kI kd) ((us.getD j 0:Nat):Int)):=bI qo;have hgj1:(kA kd pre us post)[eq pre+(j-1)]?=some (.int (kI kd) ((us.getD (j-1) 0:Nat):Int)):=bI qo;have hgj2:(kA kd pre (us.set j (us.getD (j-1) 0)) post)[eq pre+(j-1)]?=some (.int (kI kd) (((us.set j (us.getD (j-1) 0)).getD (j-1) 0:Nat):Int)):=bI (by rw[aaw];omega);refine sk (th (bG [pt g (kA kd pre us post) (sf kd 29 3)] 15 [0,2,4,6,8,10,12,14,16,18,20,22,24,26,28,31,32,35] Nm qk qk (bA qk 4 I (v':=.int .i64 (j-1:Nat)) (by rw[show ((j:Nat):Int)-1=((j-1:Nat):Int) from qo];exact aC qo) (bA qk 2 I (v':=.int .i64 (j-1:Nat)) (by rw[show ((j:Nat):Int)-1=((j-1:Nat):Int) from qo];exact aC qo) (bt qk 0 (j-1) I I qo ?_)))))
      simp only[bf,aaf];refine bP qk 0 0 I qk I hgj1 (bt qk 2 j I I qo ?_);simp only[bf,aaf];refine bP qk 0 0 I qk I hgj (bt qk 0 j I I qo ?_);simp only[bf,aaf];refine aJ qk 0 I (stp 0 0 I I hgj I (ci (.inl qk) (bt qk 0 (j-1) I I qo ?_)));simp only[bf,aaf];refine aJ qk 0 I ?_;refine WL.hs (pt g (kA kd pre (us.set j (us.getD (j-1) 0)) post) (sf kd 29 3)::hs) (congrArg (fun z=>pt g z (sf kd 29 3)::hs) (dZ qo)) (stp 0 0 I I hgj2 I ?_);refine WL.hs (pt g (kA kd pre (swp j (j-1) us) post) (sf kd 29 3)::hs) (congrArg (fun z=>pt g z (sf kd 29 3)::hs) (dZ (by rw[aaw];omega))) (ci (.inl qk) (aM qk 0 rfl (acG (ar 1 rfl (aC (x:=((j+1:Nat):Int)) qo) (fin 1 rfl ?_)))))
      exact bw (x:=(j,us)) (j+1,swp j (j-1) us) sb I I ⟨aH,aH,hQ.trans (bF.swp ⟨qo,qo⟩ ⟨qo,qo⟩ qo),hSz.same fun p p1 p2=>by rw[jg qo qo,aaa qo,aaa qo]⟩ aH
     rw[decide_eq_false hlt];exact aM qk 1 I (th (cU I (ex (xt (xn I (xt (xt (xb (acG (ar 1 I (aC (x:=((k+1:Nat):Int)) qo) (fin 1 I (bw (x:=(k,i0,ys)) (k+1,i,us) sb I I ⟨aH,hi1,hi2,hQ,hSz⟩ aH))))))))))))
    exact ex (xt (xt (xb (acG (ar 1 I (aC (x:=((k+1:Nat):Int)) qo) (fin 1 I (bw (x:=(k,i0,ys)) (k+1,i,us) sb I I ⟨aH,hi1,hi2,hQ,hSz⟩ aH)))))))
   exact sk (acG (ar 1 I (aC (x:=((k+1:Nat):Int)) qo) (fin 1 I (bw (x:=(k,i0,ys)) (k+1,i,zs) sb I I ⟨aH,hi1,hi2,hQ,hSz⟩ aH))))
  exact ex<|xt (xt<|xb (acF<|fin 1 I (acK (ah I I ⟨I,ys,false,I,I,hP,fun h=>by cases h⟩))))
end
section
def rD(m:Nat)(b:Int)(k:Nat)(hb:b=((k:Nat):Int))(hk:k<=64):Value.int .u64 (((m:Nat):Int).fdiv (2 ^ (min b.toNat IntKind.u64.bits)))=.int .u64 (m / 2 ^ k:Nat):=by
 have e:min b.toNat IntKind.u64.bits=k:=by
  have:IntKind.u64.bits=64:=rfl;omega
 grind
def J8(x:Int):∃ m:Nat,m<18446744073709551616/\Value.int .u64 (IntKind.u64.wrap x)=.int .u64 (m:Nat):=by
 have e:IntKind.u64.wrap x=x % 18446744073709551616:=by rfl
 refine ⟨(x % 18446744073709551616).toNat,qo,?_⟩;rw[e,acs qo]
def Ie(m n:Nat)(hm:m<18446744073709551616)(hn:n<=63):
  Value.int .u64 (IntKind.u64.wrap (BitVec.ofInt 64 ((m:Nat):Int) &&& BitVec.ofInt 64 ((2 ^ n-1:Nat):Int)).toNat)=.int .u64 (m % 2 ^ n:Nat):=by
 have hp:2 ^ n<18446744073709551616:=Nat.lt_of_le_of_lt (abD Nn hn) Nn;have h1:m % 2 ^ n<=m:=Nat.mod_le _ _;rw[BitVec.toNat_and,abl,abl,abm,abm,aaQ (a:=m) qo,aaQ (a:=2 ^ n-1) qo,Nat.and_two_pow_sub_one_eq_mod,lV,aaQ qo]
def L8:List UInt8:=(List.range 256).map fun b=>if b=0 then 0 else UInt8.ofNat (Nat.log2 b+1)
def Ls(b:Nat)(h:b<256):∃ c:UInt8,L8[b]?=some c/\c.toNat<=8/\b<2 ^ c.toNat/\(0<b->2 ^ c.toNat<=2*b):=by
 have hd:∀ b:Fin 256,((L8[b.1]?).map fun c=>decide (c.toNat<=8/\b.1<2 ^ c.toNat/\(0<b.1->2 ^ c.toNat<=2*b.1)))=some true:=by decide +kernel
 have:=hd ⟨b,h⟩
 grind
def jt(x n y:Nat):Prop:=y*2 ^ n<=x/\x<(y+1)*2 ^ n/\(0<x->0<y)
def jt.start(x:Nat):jt x 0 x:=⟨Nm,Nm,id⟩
theorem jt.up{x n y k:Nat}(h:jt x n y)(hy:2 ^ k<=y):jt x (n+k) (y / 2 ^ k):=by
 have hp:0<2 ^ k:=Nat.pow_pos Nn;obtain ⟨h1,h2,h3⟩:=h;have e:2 ^ (n+k)=2 ^ k*2 ^ n:=by rw[Nat.pow_add,abZ]
 refine ⟨?_,?_,fun _=>Nat.div_pos hy hp⟩
 ·rw[e,<-Nat.mul_assoc];exact aas (aa8 _ (Nat.div_mul_le_self y _)) h1
 rw[e,<-Nat.mul_assoc];refine ab4 h2 (aa8 _ ?_);have:=Nat.lt_div_mul_add (a:=y) hp;rw[Nat.add_mul,Nat.one_mul];omega
def jt.done{x n y c:Nat}(h:jt x n y)(h1:y<2 ^ c)(h2:0<y->2 ^ c<=2*y):x<2 ^ (n+c)/\(0<x->2 ^ (n+c)<=2*x):=by
 obtain ⟨g1,g2,g3⟩:=h;have e:2 ^ (n+c)=2 ^ c*2 ^ n:=by rw[Nat.pow_add,abZ]
 refine ⟨?_,fun hx=>?_⟩
 ·rw[e];exact ab4 g2 (aa8 _ h1)
 rw[e];refine aas (aa8 _ (h2 (g3 hx))) ?_
 grind
def KR(x:Nat)(hx:x<18446744073709551616):aj w0 226 [.int .u64 (x:Nat)] K hs
  (fun v K' hs'=>K'=K/\hs'=hs/\∃ n:Nat,v=.int .i64 (n:Nat)/\n<=64/\x<2 ^ n/\(0<x->2 ^ n<=2*x)):=by
 refine ent Tryz.func226 ?_;refine acI (fin 1 I (th (jn (σ:=Nat×Nat) (fun s=>[(0,.int .u64 s.1),(2,.int .i64 s.2)]) (fun _=>hs) (fun s=>jt x s.2 s.1/\s.1<4294967296/\s.2<=32) ?_ ?_)))
 ·refine acI (ai 1 I fun b4 h4=>fin 0 I<|th (ax h4 I (fun e2=>?_) (fun e2=>?_)))
  ·exact acI (ar 1 I (rD x _ 32 I qo)<|fin 1 I (acH (fin 1 I<|jx (x / 2 ^ 32,32) ⟨by simpa using (jt.start x).up (k:=32) qo,qo,aac _⟩ ⟨I,I,trivial⟩ I I)))
  exact sk (jx (x,0) ⟨jt.start x,aH,qo⟩ sb rfl rfl)
 rintro ⟨y,n⟩ ⟨hL,hy,hn⟩;dsimp only at *;refine jn (σ:=Nat×Nat) (fun s=>[(0,.int .u64 s.1),(2,.int .i64 s.2)]) (fun _=>hs) (fun s=>jt x s.2 s.1/\s.1<65536/\s.2<=48) ?_ ?_
 ·refine acI (ai 1 I fun b8 h8=>fin 0 I<|th (ax h8 I (fun e4=>?_) (fun e4=>?_)))
  ·refine acI (ar 1 I (rD y _ 16 I qo) (au ?_));exact ar 1 I (aC (x:=((n+16:Nat):Int)) qo) (fin 1 I (jx (y / 2 ^ 16,n+16) ⟨hL.up qo,qo,aH⟩ sb rfl rfl))
  exact sk (jx (y,n) ⟨hL,aH,qo⟩ sb rfl rfl)
 clear hL hy hn;rintro ⟨y,n⟩ ⟨hL,hy,hn⟩;dsimp only at *;refine jn (σ:=Nat×Nat) (fun s=>[(0,.int .u64 s.1),(2,.int .i64 s.2)]) (fun _=>hs) (fun s=>jt x s.2 s.1/\s.1<256/\s.2<=56) ?_ ?_
 ·refine acI (ai 1 I fun b14 h14=>fin 0 I<|th (ax h14 I (fun e6=>?_) (fun e6=>?_)))
  ·refine acI (ar 1 I (rD y _ 8 I qo) (au ?_));exact ar 1 I (aC (x:=((n+8:Nat):Int)) qo) (fin 1 I (jx (y / 2 ^ 8,n+8) ⟨hL.up qo,qo,aH⟩ sb rfl rfl))
  exact sk (jx (y,n) ⟨hL,qo,aH⟩ sb rfl rfl)
 clear hL hy hn;rintro ⟨y,n⟩ ⟨hL,hy,hn⟩;dsimp only at *;obtain ⟨c,hc,hc8,hc1,hc2⟩:=Ls y hy;refine acI (ar 2 I (jP qo) (MJ 0 L8 y I qk I hc (ar 0 I (aC qo) (ar 0 I (aC (x:=((n+c.toNat:Nat):Int)) qo) (au ?_)))));exact ah I I ⟨I,I,n+c.toNat,I,qo,hL.done hc1 hc2⟩
def wz(x:Nat)(hx:x<18446744073709551616):aj w0 167 [.int .u64 (x:Nat)] K hs
  (fun v K' hs'=>K'=K/\hs'=hs/\∃ n:Nat,v=.int .i64 (n:Nat)/\n<=64/\x<2 ^ n/\(0<x->2 ^ n<=2*x)):=by
 refine cB Tryz.func167 ?_;refine cl 1 I (KR x hx) ?_;rintro v7 K7 hs7 ⟨rfl,rfl,n,rfl,h1,h2,h3⟩;refine au ?_;exact ah I I ⟨I,I,n,I,h1,h2,h3⟩
def MN(x:Nat)(hx:0<x/\x<=1099511627776):aj w0 264 [.int .i64 (x:Nat)] K hs
  (fun v K' hs'=>K'=K/\hs'=hs/\∃ n:Nat,v=.int .u64 (2 ^ n:Nat)/\n<=41/\2 ^ n<=2*x):=by
 refine cB Tryz.func264 ?_;refine ar 1 I (bL qo) (cl 0 I (wz x qo) ?_);rintro v5 K5 hs5 ⟨rfl,rfl,n,rfl,h1,h2,h3⟩;have h4:=h3 hx.1
 have h5:n<=41:=by
  rcases aaL 41 n with h|h
  ·have:2 ^ 42<=2 ^ n:=abD Nn h;omega
  exact h
 refine oI 0 I qo (.inl ⟨I,(show Value.int .u64 (IntKind.u64.wrap ((1:Int)*2 ^ (min ((n:Nat):Int).toNat IntKind.u64.bits)))=.int .u64 (2 ^ n:Nat) from by
  have e:min ((n:Nat):Int).toNat IntKind.u64.bits=n:=by
   have:IntKind.u64.bits=64:=rfl;omega
  rw[e,Int.one_mul,show ((2:Int) ^ n)=((2 ^ n:Nat):Int) from by rfl];exact bL qo)⟩) ?_
 refine au ?_;exact ah I I ⟨I,I,n,I,h5,h4⟩
def Mb(r:Nat)(x:Int):aj w0 265 [Nr r] K (pt r #[.int .u64 x] 310::hs)
  (fun v K' hs'=>K'=K/\∃ m:Nat,m<18446744073709551616/\hs'=pt r #[.int .u64 (m:Nat)] 310::hs/\v=.int .u64 (m:Nat)):=by
 refine cB Tryz.func265 ?_;refine bG [pt r #[.int .u64 x] 310] 9 [0,2,4,6,8,10,12,14,16,19] Nm qk qk (au ?_);refine bA qk 0 I I (bA qk 0 I I (aJ qk 1 I (stp 0 0 I I I I (ci (.inl qk) ?_))));obtain ⟨x1,hx1⟩:=be ((IntKind.u64.wrap (BitVec.ofInt 64 x ^^^ BitVec.ofInt 64 (IntKind.u64.wrap (x*2 ^ (min (13:Int).toNat IntKind.u64.bits)))).toNat:Int));refine aM qk 0 I (th (sq (WC.perm (hs':=pt r #[.int .u64 x1] 310::hs) (by rw[hx1];rfl) (bG [pt r #[.int .u64 x1] 310] 9 [0,2,4,6,8,10,12,14,16,19] Nm qk qk (au ?_)))));refine bA qk 0 I I (bA qk 0 I I (aJ qk 1 I (stp 0 0 I I I I (ci (.inl qk) ?_))));obtain ⟨x2,hx2⟩:=be ((IntKind.u64.wrap (BitVec.ofInt 64 x1 ^^^ BitVec.ofInt 64 (x1.fdiv (2 ^ (min (7:Int).toNat IntKind.u64.bits)))).toNat:Int))
 refine aM qk 0 I (th (sq (WC.perm (hs':=pt r #[.int .u64 x2] 310::hs) (by rw[hx2];rfl) (bG [pt r #[.int .u64 x2] 310] 9 [0,2,4,6,8,10,12,14,16,19] Nm qk qk (au ?_)))));refine bA qk 0 I I ?_;obtain ⟨m,hm,he⟩:=J8 (BitVec.ofInt 64 x2 ^^^ BitVec.ofInt 64 (IntKind.u64.wrap (x2*2 ^ (min (17:Int).toNat IntKind.u64.bits)))).toNat;refine bA qk 0 I he (au ?_);exact ah I I ⟨I,m,hm,I,I⟩
end
section
def Mz(kd:Bool)(g cap:Nat)(pre post:List Value)(xs:List Nat)(a b:Nat)(hab:a+8<=b)(hb:b<=eq xs)(hc:eq xs<=cap)(hl:eq xs<=1099511627776):
  aj w0 (sf kd 256 218) [.slice (some ⟨g,eq pre,none⟩) (eq xs) cap,.int .i64 (a:Nat),.int .i64 (b:Nat)] K (pt g (kA kd pre xs post) (sf kd 29 3)::hs)
   (fun v K' hs'=>K'=K/\∃ ys,hs'=pt g (kA kd pre ys post) (sf kd 29 3)::hs/\bF a b xs ys):=by
 cases kd
 let kd:Bool:=false
 rewrite [show sf false=sf kd from rfl]
 try rewrite [show kA false=kA kd from rfl]
 rotate_left
 let kd:Bool:=true
 rewrite [show sf true=sf kd from rfl]
 try rewrite [show kA true=kA kd from rfl]
 rotate_left
 all_goals
  obtain ⟨n,hn⟩:=be (b-a)
 refine enter Tryz.func218 qk I I I ?_
 rotate_left
 refine enter Tryz.func256 qk I I I ?_
 rotate_left
 all_goals
  refine acI (ar 2 I (v':=.int .i64 (n:Nat)) (by rw[show ((b:Nat):Int)-((a:Nat):Int)=((n:Nat):Int) from qo];exact aC qo) (fin 1 I (acF (ai 1 I fun b15 h15=>fin 0 I (th (sI h15 qo I (acI (ar 1 I (bL qo) (al 0 (.int .u64 0) I qk fun r=>stp 0 0 I I I I (fin 0 I (acF (cl 1 I (MN n qo) ?_))))))))))));rintro v19 K19 hs19 ⟨rfl,rfl,w,rfl,hw,hw2⟩;have hq1:n / 4*2+1<n:=qo
  have hq2:2<=n / 4:=qo
  refine fin 1 I (acF (ar 2 I (kR n 4 qo) (ar 0 I (aC (x:=((n / 4*2:Nat):Int)) qo) (ar 0 I (aC (x:=((a+n / 4*2:Nat):Int)) qo) (ar 0 I (v':=.int .i64 (a+n / 4*2-1:Nat)) (by rw[show ((a+n / 4*2:Nat):Int)-1=((a+n / 4*2-1:Nat):Int) from qo];exact aC qo) (fin 1 I (th (bk ?_))))))))
  refine loop (σ:=Nat×Nat×List Nat) (fun s=>[(0,.slice (some ⟨g,eq pre,none⟩) (eq xs) cap),(1,.int .i64 (a:Nat)),(6,.int .i64 (n:Nat)),(7,Nr r),(8,.int .u64 (2 ^ w:Nat)),(9,.int .i64 s.1)]) (fun _=>K19) (fun s=>pt r #[.int .u64 s.2.1] 310::pt g (kA kd pre s.2.2 post) (sf kd 29 3)::hs)
   (fun s=>a<=s.1/\s.1<=a+n / 4*2+2/\bF a b xs s.2.2) (fun s=>b-s.1) (a+n / 4*2-1,n,xs) ⟨aH,aH,bF.refl _ _ _⟩ ⟨rfl,rfl,rfl,rfl,rfl,rfl,trivial⟩ rfl rfl ?_
  rintro ⟨i,m0,ys⟩ ⟨hi1,hi2,hP⟩;dsimp only at *;have hyl:eq ys=eq xs:=hP.len;refine sq (acI (ar 3 I (kR n 4 qo) (ar 0 I (aC (x:=((n / 4*2:Nat):Int)) qo) (ar 0 I (aC (x:=((a+n / 4*2:Nat):Int)) qo) (ar 0 I (aC (x:=((a+n / 4*2+1:Nat):Int)) qo) (ai 0 I fun b33 h33=>fin 0 I (th (ax h33 I (fun e4=>?_) (fun e4=>?_)))))))))
  ·refine sk (th (sq (bk (acI (cl 0 I (Mb r ((m0:Nat):Int)) ?_)))));rintro v36 K36 hs36 ⟨rfl,m,hm,rfl,rfl⟩;have hwp:0<2 ^ w:=Nat.pow_pos Nn;refine ar 1 I (v':=.int .u64 (2 ^ w-1:Nat)) (by rw[show ((2 ^ w:Nat):Int)-1=((2 ^ w-1:Nat):Int) from qo];exact bL qo) (ar 0 I (Ie m w hm qo) ?_);have hmm:m % 2 ^ w<2 ^ w:=abH _ hwp;obtain ⟨o,ho⟩:=be (m % 2 ^ w);rw[<-ho] at hmm ⊢;refine ar 0 I (aC (x:=((o:Nat):Int)) qo) (fin 1 I (th (jn (σ:=Nat) (fun o=>[(0,.slice (some ⟨g,eq pre,none⟩) (eq xs) cap),(1,.int .i64 (a:Nat)),(6,.int .i64 (n:Nat)),(7,Nr r),(8,.int .u64 (2 ^ w:Nat)),(9,.int .i64 (i:Nat)),(10,.int .i64 (o:Nat))]) (fun _=>pt r #[.int .u64 (m:Nat)] 310::pt g (kA kd pre ys post) (sf kd 29 3)::hs) (fun o=>o<n) ?_ ?_)))
   ·refine acI (ai 2 I fun b43 h43=>fin 0 I<|th (ax h43 I (fun e6=>?_) (fun e6=>?_)))
    ·exact rg (ar 2 I (v':=.int .i64 (o-n:Nat)) (by rw[show ((o:Nat):Int)-((n:Nat):Int)=((o-n:Nat):Int) from qo];exact aC qo) (fin 1 I (jx (o-n) qo sb I I)))
    exact sk<|jx o qo sb I I
   clear ho hmm o;intro o ho;have hgi:(kA kd pre ys post)[eq pre+i]?=some (.int (kI kd) ((ys.getD i 0:Nat):Int)):=bI qo;have hgo:(kA kd pre ys post)[eq pre+(a+o)]?=some (.int (kI kd) ((ys.getD (a+o) 0:Nat):Int)):=bI qo;have hgo2:(kA kd pre (ys.set i (ys.getD (a+o) 0)) post)[eq pre+(a+o)]?=some (.int (kI kd) (((ys.set i (ys.getD (a+o) 0)).getD (a+o) 0:Nat):Int)):=bI (by rw[aaw];omega);refine bG [pt g (kA kd pre ys post) (sf kd 29 3)] 17 [0,2,4,6,8,10,12,14,16,18,20,22,24,26,28,30,32,35,36,39] Nm qk qk (bA qk 5 I (aC (x:=((a+o:Nat):Int)) qo) (bA qk 3 I (aC (x:=((a+o:Nat):Int)) qo) (bt qk 0 (a+o) I I qo ?_)));simp only[bf,aaf];refine bP qk 0 0 I qk I hgo (bt qk 2 i I I qo ?_)
   simp only[bf,aaf];refine bP qk 0 0 I qk I hgi (bt qk 0 i I I qo ?_);simp only[bf,aaf];refine aJ qk 0 I (stp 0 1 I I hgi I (ci (.inl qk) (bt qk 0 (a+o) I I qo ?_)));simp only[bf,aaf];refine aJ qk 0 I ?_;refine WL.hs (pt r #[.int .u64 (m:Nat)] 310::pt g (kA kd pre (ys.set i (ys.getD (a+o) 0)) post) (sf kd 29 3)::hs) (congrArg (fun z=>pt r #[.int .u64 (m:Nat)] 310::pt g z (sf kd 29 3)::hs) (dZ qo)) (stp 0 1 I I hgo2 I ?_);exact WL.hs (pt r #[.int .u64 (m:Nat)] 310::pt g (kA kd pre (swp i (a+o) ys) post) (sf kd 29 3)::hs) (congrArg (fun z=>pt r #[.int .u64 (m:Nat)] 310::pt g z (sf kd 29 3)::hs) (dZ (by rw[aaw];omega))) (ci (.inl qk) (aM qk 0 rfl (acG (ar 1 rfl (aC (x:=((i+1:Nat):Int)) qo) (fin 1 rfl (bw (x:=(i,m0,ys)) (i+1,m,swp i (a+o) ys) sb rfl rfl ⟨aH,aH,hP.trans (bF.swp ⟨qo,qo⟩ ⟨qo,qo⟩ qo)⟩ aH))))))
  exact ex<|xt (xt<|xb (WQ.drop<|dA I ⟨I,ys,I,hP⟩))
end
section
def Mk(kd:Bool)(n:Nat):∀ {w0:World} {K:PH} {hs:List PH} (g cap:Nat) (pre post:List Value) (xs:List Nat) (a b lim:Nat) (hab:a<=b) (hb:b<=eq xs) (hc:eq xs<=cap) (hl:eq xs<=1099511627776) (hlim:lim<=64) (hlo:gu a b xs) (hn:b-a<=n),
  aj w0 (sf kd 215 166) [.slice (some ⟨g,eq pre,none⟩) (eq xs) cap,.int .i64 (a:Nat),.int .i64 (b:Nat),.int .i64 (lim:Nat)] K (pt g (kA kd pre xs post) (sf kd 29 3)::hs)
   (fun v K' hs'=>K'=K/\∃ ys,hs'=pt g (kA kd pre ys post) (sf kd 29 3)::hs/\bF a b xs ys/\de a b ys):=by
 cases kd
 let kd:Bool:=false
 rewrite [show sf false=sf kd from rfl]
 try rewrite [show kA false=kA kd from rfl]
 rotate_left
 let kd:Bool:=true
 rewrite [show sf true=sf kd from rfl]
 try rewrite [show kA true=kA kd from rfl]
 rotate_left
 all_goals
  induction n using Nat.strongRecOn
  rename_i n ih;intro w0 K hs g cap pre post xs a b lim hab hb hc hl hlim hlo hn
 refine enter Tryz.func166 qk I I I ?_
 rotate_left
 refine enter Tryz.func215 qk I I I ?_
 rotate_left
 all_goals
  refine acI (fin 1 I<|acF (fin 1 I<|th (bk ?_)))
  refine loop (σ:=(Nat×Nat×Nat)×(Bool×Bool)×List Nat) (fun s=>[(0,.slice (some ⟨g,eq pre,none⟩) (eq xs) cap),(1,.int .i64 s.1.1),(2,.int .i64 s.1.2.1),(3,.int .i64 s.1.2.2),(8,.bool s.2.1.1),(9,.bool s.2.1.2)]) (fun _=>K) (fun s=>pt g (kA kd pre s.2.2 post) (sf kd 29 3)::hs)
   (fun s=>s.1.2.2<=64/\a<=s.1.1/\s.1.2.1<=b/\s.1.1<=s.1.2.1/\bF a b xs s.2.2/\gq a b s.1.1 s.1.2.1 s.2.2/\gu s.1.1 s.1.2.1 s.2.2) (fun s=>s.1.2.1-s.1.1) ((a,b,lim),(true,true),xs) ⟨hlim,aac _,aac _,hab,bF.refl _ _ _,gq.self _ _ _,hlo⟩ ⟨rfl,rfl,rfl,rfl,rfl,rfl,trivial⟩ rfl rfl ?_
  rintro ⟨⟨c,d,lm⟩,⟨wb,wp⟩,ys⟩ ⟨hlm,hac,hdb,hcd,hP,hR,hL⟩;dsimp only at *;have hyl:eq ys=eq xs:=hP.len;obtain ⟨n1,hn1⟩:=be (d-c);refine bk (acI (ar 2 I (v':=.int .i64 (n1:Nat)) (by rw[show ((d:Nat):Int)-((c:Nat):Int)=((n1:Nat):Int) from qo];exact aC qo) (fin 1 I (acE (ai 1 I fun b23 h23=>fin 0 I (th (ax h23 I (fun e2=>?_) (fun e2=>?_))))))))
  ·refine acI ?_;have hs1:=Mt kd (w0:=w0) (K:=K) (hs:=hs) g cap pre post ys c d hcd qo qo qo;rw[hyl] at hs1;refine cl 3 I hs1 ?_;rintro v27 K27 hs27 ⟨rfl,zs,rfl,hQ,hS⟩;exact fin 0 I (acK (rT (rB (rT (rB (kQ I ⟨I,zs,I,hP.trans (hQ.wide hac hdb),hR zs hQ hS⟩))))))
  refine sk<|acE (ai 1 I fun b29 h29=>fin 0 I<|th (ax h29 I (fun e4=>?_) (fun e4=>?_)))
  ·refine acI ?_;have hs1:=LH kd (w0:=w0) (K:=K) (hs:=hs) g cap pre post ys c d qo qo qo qo;rw[hyl] at hs1;refine cl 3 I hs1 ?_;rintro v33 K33 hs33 ⟨rfl,zs,rfl,hQ,hS⟩;exact fin 0 I (acK (rT (rB (rT (rB (kQ I ⟨I,zs,I,hP.trans (hQ.wide hac hdb),hR zs hQ hS⟩))))))
  refine sk<|th (jn (σ:=Nat×List Nat) (fun s=>[(0,.slice (some ⟨g,eq pre,none⟩) (eq xs) cap),(1,.int .i64 (c:Nat)),(2,.int .i64 (d:Nat)),(3,.int .i64 s.1),(8,.bool wb),(9,.bool wp),(10,.int .i64 (n1:Nat))]) (fun s=>pt g (kA kd pre s.2 post) (sf kd 29 3)::hs) (fun s=>s.1<=64/\a<=c/\d<=b/\c<=d/\bF a b xs s.2/\gq a b c d s.2/\gu c d s.2) ?_ ?_)
  ·refine acI ?_;cases wb with
   | false=>
    refine fin 2 I (th (cU I (acI ?_)));have hs1:=Mz kd (w0:=w0) (K:=K) (hs:=hs) g cap pre post ys c d qo qo qo qo;rw[hyl] at hs1;refine cl 3 I hs1 ?_;rintro v39 K39 hs39 ⟨rfl,zs,rfl,hQ⟩;exact fin 0 I (acH (ar 1 I (v':=.int .i64 (lm-1:Nat)) (by rw[show ((lm:Nat):Int)-1=((lm-1:Nat):Int) from qo];exact aC qo) (fin 1 I (jx (lm-1,zs) ⟨aH,hac,hdb,hcd,hP.trans (hQ.wide hac hdb),hR.step hQ,hL.perm hQ qo⟩ sb rfl rfl))))
   | true=>
    exact fin 2 I<|th (bY I<|sk (jx (lm,ys) ⟨hlm,hac,hdb,hcd,hP,hR,hL⟩ sb I I))
  clear hP hR hL hyl;clear ys hlm e4 h29 b29;clear lm;rintro ⟨lm,ys⟩ ⟨hlm,-,-,-,hP,hR,hL⟩;dsimp only at *;have hyl:eq ys=eq xs:=hP.len;refine acI ?_;have hs1:=Mi kd (w0:=w0) (K:=K) (hs:=hs) g cap pre post ys c d qo qo qo qo;rw[hyl] at hs1;refine cl 3 I hs1 ?_;rintro v46 K46 hs46 ⟨rfl,rfl,pv,h,rfl,hpv,hh⟩;refine fin 5 I (th (jn (σ:=(Nat×Nat)×List Nat) (fun s=>[(0,.slice (some ⟨g,eq pre,none⟩) (eq xs) cap),(1,.int .i64 (c:Nat)),(2,.int .i64 (d:Nat)),(3,.int .i64 (lm:Nat)),(8,.bool wb),(9,.bool wp),(10,.int .i64 (n1:Nat)),(11,.int .i64 s.1.1),(12,.int .i64 s.1.2)]) (fun s=>pt g (kA kd pre s.2 post) (sf kd 29 3)::hs) (fun s=>(c<=s.1.1/\s.1.1<d)/\a<=c/\d<=b/\c<=d/\bF a b xs s.2/\gq a b c d s.2/\gu c d s.2) ?_ ?_))
  ·refine acI (ai 1 I fun b50 h50=>fin 0 I<|th (ax h50 I (fun e7=>?_) (fun e7=>?_)))
   ·refine acI ?_;have hs1:=Lx kd (w0:=w0) (K:=K46) (hs:=hs) g cap pre post ys c d qo qo qo qo;rw[hyl] at hs1;refine cl 3 I hs1 ?_;rintro v54 K54 hs54 ⟨rfl,zs,rfl,hQ⟩;exact fin 0 I (acF (ar 1 I (aC qo) (ar 2 I (aC qo) (ar 0 I (v':=.int .i64 ((d-1-(pv-c):Nat):Int)) (by rw[show ((d:Nat):Int)-1-(((pv:Nat):Int)-((c:Nat):Int))=((d-1-(pv-c):Nat):Int) from qo];exact aC qo) (fin 1 I (acH (fin 1 I (jx ((d-1-(pv-c),1),zs) ⟨aH,hac,hdb,hcd,hP.trans (hQ.wide hac hdb),hR.step hQ,hL.perm hQ qo⟩ sb rfl rfl))))))))
   exact sk<|jx ((pv,h),ys) ⟨hpv,hac,hdb,hcd,hP,hR,hL⟩ sb I I
  clear hs1 hP hR hL hyl hpv hh;clear ys;clear pv h;rintro ⟨⟨pv,h⟩,ys⟩ ⟨hpv,-,-,-,hP,hR,hL⟩;dsimp only at *;have hyl:eq ys=eq xs:=hP.len;refine jn (σ:=List Nat) (fun s=>[(0,.slice (some ⟨g,eq pre,none⟩) (eq xs) cap),(1,.int .i64 (c:Nat)),(2,.int .i64 (d:Nat)),(3,.int .i64 (lm:Nat)),(8,.bool wb),(9,.bool wp),(10,.int .i64 (n1:Nat)),(11,.int .i64 (pv:Nat))]) (fun s=>pt g (kA kd pre s post) (sf kd 29 3)::hs) (fun s=>a<=c/\d<=b/\c<=d/\bF a b xs s/\gq a b c d s/\gu c d s) ?_ ?_
  ·refine acI ?_;cases wb with
   | false=>
    exact fin 8 I<|th (bY I<|sk (jx ys ⟨hac,hdb,hcd,hP,hR,hL⟩ sb I I))
   | true=>
   cases wp with
   | false=>
    exact fin 8 I<|th (bY I<|sk (jx ys ⟨hac,hdb,hcd,hP,hR,hL⟩ sb I I))
   | true=>
    refine ai 6 I fun b67 h67=>fin 1 I<|th (ax h67 I (fun h9=>?_) (fun h9=>?_))
    ·refine acI ?_;have hs1:=Mj kd (w0:=w0) (K:=K46) (hs:=hs) g cap pre post ys c d qo qo qo qo hL;rw[hyl] at hs1;refine cl 3 I hs1 ?_;rintro v72 K72 hs72 ⟨rfl,zs,t,rfl,rfl,hQ,hS⟩;refine fin 0 I (th (fe I (fun e10=>?_) (fun e10=>?_)))
     ·exact rt<|jr (rB<|rT (rB<|kQ I ⟨I,zs,I,hP.trans (hQ.wide hac hdb),hR zs hQ (hS e10)⟩))
     exact sk<|jx zs ⟨hac,hdb,hcd,hP.trans (hQ.wide hac hdb),hR.step hQ,hL.perm hQ qo⟩ sb I I
    exact sk<|jx ys ⟨hac,hdb,hcd,hP,hR,hL⟩ sb I I
  clear hP hR hL hyl;clear ys;rintro ys ⟨-,-,-,hP,hR,hL⟩;have hyl:eq ys=eq xs:=hP.len;refine jn (σ:=Unit) (fun _=>[(0,.slice (some ⟨g,eq pre,none⟩) (eq xs) cap),(1,.int .i64 (c:Nat)),(2,.int .i64 (d:Nat)),(3,.int .i64 (lm:Nat)),(8,.bool wb),(9,.bool wp),(10,.int .i64 (n1:Nat)),(11,.int .i64 (pv:Nat))]) (fun _=>pt g (kA kd pre ys post) (sf kd 29 3)::hs) (fun _=>True) ?_ ?_
  ·refine sq<|bG [pt g (kA kd pre ys post) (sf kd 29 3)] 15 [0,2,4,6,8,10,12,14,16,18,20,22,25,26,28] Nm qk qk (dN qk 1 (0<c) I Nm (fun h11=>?_) (fun h11=>?_))
   ·refine bA qk 3 I (v':=.int .i64 (c-1:Nat)) (by rw[show ((c:Nat):Int)-1=((c-1:Nat):Int) from qo];exact aC qo) (bt qk 0 (c-1) I I qo ?_);simp only[bf,aaf];refine bS qk 0 0 I I (bI qo) (bt qk 2 pv I I qo ?_);simp only[bf,aaf];refine bS qk 0 0 I I (bI qo) (aJ qk 0 I (cl 0 I (iL kd (ys.getD (c-1) 0) (ys.getD pv 0)) ?_));rintro v85 K85 hs85 ⟨rfl,rfl,rfl⟩;refine ba Nm I ?_
    by_cases hlt:ys.getD (c-1) 0<ys.getD pv 0
    ·rw[decide_eq_true hlt];exact aM qk 2 I (th (bY I (sk (jx () trivial sb I I))))
    rw[decide_eq_false hlt];refine aM qk 2 I (th (cU I (acI ?_)));have hs1:=LB kd (w0:=w0) (K:=K85) (hs:=hs) g cap pre post ys c d pv qo hpv qo qo qo;rw[hyl] at hs1;refine cl 4 I hs1 ?_;rintro v92 K92 hs92 ⟨rfl,zs,i,rfl,rfl,hQ,hi1,hi2,hz1,hz2,hz3⟩;have hzl:eq zs=eq ys:=hQ.len;obtain ⟨hR2,hL2⟩:=(hR.step hQ).equal h11 hi1 hi2 qo (hL.perm hQ qo) (by rw[hQ.outD (i:=c-1) (.inl qo),hz3];exact abg hlt) hz1 hz2;exact fin 1 I (acF (fin 2 I (th (ex (je (xb (bw (x:=((c,d,lm),(wb,wp),zs)) ((i,d,lm),(wb,wp),zs) sb I I ⟨hlm,aH,hdb,hi2,hP.trans (hQ.wide hac hdb),hR2,hL2⟩ aH)))))))
   exact aJ qk 10 I<|WL.pures 1 I (ba Nm I<|aM qk 2 I (th<|bY I (sk<|jx () trivial sb I I)))
  rintro - -;refine acI ?_;have hs1:=Ml kd (w0:=w0) (K:=K46) (hs:=hs) g cap pre post ys c d pv qo hpv qo qo qo;rw[hyl] at hs1;refine cl 4 I hs1 ?_;rintro v99 K99 hs99 ⟨rfl,zs,m,t,rfl,rfl,hQ,hA⟩;have hm1:=hA.m1;have hm2:=hA.m2;have hzl:eq zs=eq xs:=hQ.len.trans hyl;have hLz:=hL.perm hQ qo;have hPz:=hP.trans (hQ.wide hac hdb);refine fin 5 I (acF (fin 2 I (acF (ar 2 I (v':=.int .i64 (m-c:Nat)) (by rw[show ((m:Nat):Int)-((c:Nat):Int)=((m-c:Nat):Int) from qo];exact aC qo) (ar 2 I (v':=.int .i64 (d-m:Nat)) (by rw[show ((d:Nat):Int)-((m:Nat):Int)=((d-m:Nat):Int) from qo];exact aC qo) (fin 2 I (acF (ar 1 I (kR n1 8 qo) (fin 1 I (acF (ai 2 I fun b113 h113=>fin 0 I (th (ax h113 I (fun e14=>?_) (fun e14=>?_))))))))))))))
  ·refine acI (ai 2 I fun b116 h116=>fin 1 I (acF ?_));have hs1:=ih (n-1) qo (w0:=w0) (K:=K99) (hs:=hs) g cap pre post zs c m lm hm1 qo qo qo hlm (hLz.cut qo) qo;rw[hzl] at hs1;refine cl 4 I hs1 ?_;rintro v121 K121 hs121 ⟨rfl,us,rfl,hU,hS⟩;have hul:eq us=eq xs:=hU.len.trans hzl;exact fin 0 I (acH (ar 1 I (aC (x:=((m+1:Nat):Int)) qo) (fin 1 I (bl (bw (x:=((c,d,lm),(wb,wp),zs)) ((m+1,d,lm),(b116,t),us) sb I I ⟨hlm,aH,hdb,hm2,hPz.trans (hU.wide hac qo),(hR.step hQ).left hA qo hU hS,(hA.left hU qo).loB (hLz.perm (hU.wide (aac _) qo) qo)⟩ aH)))))
  refine acI (ai 2 I fun b126 h126=>fin 1 I (acF (ar 2 I (aC (x:=((m+1:Nat):Int)) qo) ?_)));have hs1:=ih (n-1) qo (w0:=w0) (K:=K99) (hs:=hs) g cap pre post zs (m+1) d lm hm2 qo qo qo hlm (hA.loB hLz) qo;rw[hzl] at hs1;refine cl 2 I hs1 ?_;rintro v132 K132 hs132 ⟨rfl,us,rfl,hU,hS⟩;have hul:eq us=eq xs:=hU.len.trans hzl;exact fin 0 I (acH (fin 2 I (bl (bw (x:=((c,d,lm),(wb,wp),zs)) ((c,m,lm),(b126,t),us) sb I I ⟨hlm,hac,aH,hm1,hPz.trans (hU.wide qo hdb),(hR.step hQ).right hA qo hU hS,(hLz.perm (hU.wide qo (aac _)) qo).cut aH⟩ aH))))
end
section
def lM(l:List Int)(ks:List Int):Nat:=eq (l.filter fun x=>decide (x∉ks))
def G7{ks:List Int}{k:Int}(hk:k∉ks):∀ {l:List Int},k∈l->lM l (ks++[k])<lM l ks:=by
 have hle:∀ l:List Int,lM l (ks++[k])<=lM l ks:=fun l=>by
  unfold lM;rw[<-List.countP_eq_length_filter,<-List.countP_eq_length_filter];exact List.countP_mono_left fun x _ hx=>by simp at hx ⊢;exact hx.1
 intro l
 induction l with
 | nil=>intro h;simp at h
 | cons x l ih=>
  intro h
  by_cases e:x=k
  ·subst e;have:=hle l;unfold lM at this ⊢;rw[act Nm,acu (by simp[hk])];simp only[aan];omega
  have:=ih (by rcases aay.1 h with h|h;exact absurd h.symm e;exact h);unfold lM at this ⊢
  by_cases hx:x∈ks
  ·rw[act (by simp[hx]),act (by simp[hx])];exact this
  rw[acu (by simp[hx,e]),acu (by simp[hx])];simp only[aan];omega
abbrev fJ{ν:Type}(m:List (Int×ν)):={l:List Int // l.Nodup/\∀ k∈l,k∈m.map (·.1)}
def fJ.add{ν:Type}{m:List (Int×ν)}(s:fJ m)(k:Int)(h1:k∈m.map (·.1))(h2:k∉s.1):fJ m:=⟨s.1++[k],by
 refine acq.2 ⟨s.2.1,Nm,?_⟩;intro a ha b hb;simp only[aaz] at hb;subst hb;intro e;subst e;exact h2 ha,fun j hj=>by
 rcases aaj.1 hj with hj|hj
 ·exact s.2.2 j hj
 simp only[aaz] at hj;rw[hj];exact h1⟩
def fJ.len{ν:Type}{m:List (Int×ν)}(s:fJ m):eq s.1<=eq m:=by
 have h:=s.2.1.length_le_of_subset (l₂:=m.map (·.1)) (fun k hk=>s.2.2 k hk);simpa using h
def pW{ν:Type}(enc:Int->Value)(m:List (Int×ν))(s:fJ m)(vs:List Value)(s':fJ m):Prop:=∃ k h1 h2,vs=[enc k]/\s'=s.add k h1 h2
def fJ.nil{ν:Type}(m:List (Int×ν)):fJ m:=⟨[],Nm,Nm⟩
def lQ{ν:Type}(m:List (Int×ν))(s:fJ m):Prop:=∀ k∈m.map (·.1),k∈s.1
def wl(hm:PH)(b1 bo:Nat)(K:PH)(hs:List PH):Prop:=(∃ h,In K hs h/\cC h ⟨b1,0,none⟩ (.map (some bo)))/\In K hs hm
theorem fJ.perm{ν:Type}{m:List (Int×ν)}(hnd:(m.map (·.1)).Nodup)(s:fJ m)(h:lQ m s):s.1.Perm (m.map (·.1)):=
 (List.perm_ext_iff_of_nodup s.2.1 hnd).2 fun k=>⟨s.2.2 k,h k⟩
def oU(ks:List Int):List Value:=ks.map fun k=>Value.int .u64 k
def fm(kd:Bool)(ks:List Int):List Value:=ks.map fun k=>Value.int (kI kd) k
def LG(kd:Bool):Tryz.prog.underlying (sf kd 124 129)=some (.map (sf kd 29 3) (sf kd 129 136)):=by
 cases kd
 ·exact Tryz.underlying129
 exact Tryz.underlying124
def CU(kd:Bool)(bo:Nat):aj w0 (sf kd 96 50) [.map (some bo)] K hs
  (fun v K' hs'=>K'=K/\∃ b,hs'=pt b #[.map (some bo)] (sf kd 124 129)::hs/\v=.func (.func (sf kd 164 99)) #[] #[Nr b]):=by
 cases kd
 let kd:Bool:=false
 rewrite [show sf false=sf kd from rfl]
 refine enter Tryz.func50 qk I I I ?_
 rotate_left
 let kd:Bool:=true
 rewrite [show sf true=sf kd from rfl]
 refine enter Tryz.func96 qk I I I ?_
 rotate_left
 all_goals
  exact acI (bx 0 I fun b1=>fin 1 I<|acF (fin 2 I<|acK<|ah I I ⟨I,b1,I,I⟩))
def CT(kd:Bool){ν:Type}(encv:ν->Value)(hm:PH)(b1 bo:Nat)(m:List (Int×ν))(hnd:(m.map (·.1)).Nodup)(hO:dX (eP kd) encv hm bo m):
  qr Tryz.prog w0 (sf kd 164 99) [Nr b1] (pW (eP kd) m) (lQ m) (fJ.nil m) (wl hm b1 bo):=by
 cases kd
 let kd:Bool:=false
 rewrite [show sf false=sf kd from rfl]
 try rewrite [show eP false=eP kd from rfl]
 rotate_left
 let kd:Bool:=true
 rewrite [show sf true=sf kd from rfl]
 try rewrite [show eP true=eP kd from rfl]
 rotate_left
 all_goals
  intro L St Sp hRd hY K hs h0
 refine mu Tryz.func99 qk I I I ?_
 rotate_left
 refine mu Tryz.func164 qk I I I ?_
 rotate_left
 all_goals
  obtain ⟨⟨h1,m1,c1⟩,m2⟩:=hRd _ K hs h0;refine cI (ey (ld 0 I m1 c1 (DW 0 I (LG kd) m2 hO fun r hi hI0=>fin 0 I (dc (da (jy ?_))))))
  refine rW (σ:=PH×fJ m×PH×List PH) (fun _=>[(0,.func (.yield L) #[] #[]),(1,Nr b1),(5,Nr r)]) (fun s=>s.2.2.1) (fun s=>s.1::s.2.2.2)
   (fun s=>jA (eP kd) encv hm s.1 bo r m s.2.1.1/\St s.2.1 s.2.2.1 s.2.2.2) (fun s=>lM (m.map (·.1)) s.2.1.1) (hi,fJ.nil m,K,hs) ⟨hI0,h0⟩ sb rfl rfl ?_
  rintro ⟨hi,ks,K,hs⟩ ⟨hI,hst⟩;dsimp only at *;obtain ⟨_,m2⟩:=hRd ks K hs hst;refine cI (ey (DX 0 0 I m2.cons I hI hnd (fun k v hi' hmem hnk hS=>?_) (fun hall=>?_)))
  ·have hkm:k∈m.map (·.1):=aap.2 ⟨_,hmem,rfl⟩;refine fin 1 I (dc (da (cI (qc I (kX (da (jy (cI (ey (DZ 0 I m2.cons (.inr ⟨0,I⟩) hS (fin 2 I (dc (da (cI (wN (gQ.cut 2 (fin 2 I (wD (wL I ((hY ks [(eP kd) k] (ks.add k hkm hnk) K hs [hi'] ⟨k,hkm,hnk,I,I⟩ hst).perm (abo hi' hs).symm) ?_)))))))))))))))))));rintro v12 K12 hs12 ⟨hs1,rfl,⟨rfl,hn⟩|⟨rfl,hp⟩⟩
   ·exact gQ.fin<|fin 1 I (dc<|da (qd I<|kX (kx<|cW.perm (abo hi' hs1) (rR (x:=(hi,ks,K,hs)) (hi',ks.add k hkm hnk,K12,hs1) sb I I ⟨hS.1,hn⟩<|G7 hnk hkm))))
   exact gQ.fin<|fin 1 I (dc<|da (qc I<|jQ (oK<|oJ (oK<|cW.perm (abo hi' hs1) (cW.drop<|vK I (.inr hp))))))
  exact fin 1 I (dc (da (cI (qd I (sX (mT (mT (sQ (cW.drop (vW I (.inl ⟨ks,fun k hk=>by obtain ⟨x,hx,rfl⟩:=aap.1 hk;exact hall x hx,hst⟩)))))))))))
def JX(kd:Bool){ν:Type}(f:Nat)(cap:List Value)(m:List (Int×ν))(Rd:PH->List PH->Prop)(it:qr Tryz.prog w0 f cap (pW (eP kd) m) (lQ m) (fJ.nil m) Rd)(hcal:iG Tryz.prog f=true)
  (hl:eq m<=1000000000) (hR:∀ x y fr,Rd K (x::y::(hs++fr))):
  aj w0 (sf kd 214 165) [.slice none 0 0,.func (.func f) #[] cap.toArray] K hs
   (fun v K' hs'=>K'=K/\∃ (s:fJ m) (ao:Option Addr) (c:Nat) (g:PH),lQ m s/\hs'=g::hs/\v=.slice ao (eq s.1) c/\aZ g ao (eq s.1) c (sf kd 29 3) 1 (fm kd s.1)):=by
 cases kd
 let kd:Bool:=false
 rewrite [show sf false=sf kd from rfl]
 try rewrite [show fm false=fm kd from rfl]
 try rewrite [show eP false=eP kd from rfl]
 refine mu Tryz.func165 qk I I I ?_
 rotate_left
 let kd:Bool:=true
 rewrite [show sf true=sf kd from rfl]
 try rewrite [show fm true=fm kd from rfl]
 try rewrite [show eP true=eP kd from rfl]
 refine mu Tryz.func214 qk I I I ?_
 rotate_left
 all_goals
  refine cI<|ey (bx 0 I fun b2=>fin 1 I<|dc (da<|cI (cI<|ey (fin 1 I<|dc (da<|jy (WX.em<|WX.perm (aat _ _ _) ?_))))))
  refine ML cap (pW (eP kd) m) (lQ m) (fJ.nil m) Rd I it hcal (fun s vs s' h=>by obtain ⟨k,_,_,rfl,_⟩:=h;rfl) rfl
   (fun s K' hs'=>K'=K/\∃ ao c g,hs'=pt b2 #[.slice ao (eq s.1) c] (sf kd 127 31)::g::hs/\aZ g ao (eq s.1) c (sf kd 29 3) 1 (fm kd s.1))
   (fun _ _ _=>False) ⟨rfl,none,0,em,rfl,aZ.nil _ _⟩ (fun s K' hs' t u h=>by obtain ⟨rfl,ao,c,g,rfl,_⟩:=h;exact hR _ _ _) ?_ ?_ ?_
  ·rintro L s vs s' K' hs' fr t u ⟨k,hk,hnk,rfl,rfl⟩ ⟨rfl,ao,c,g,rfl,o⟩;have hlen:=(s.add k hk hnk).len;have hlen2:eq (s.add k hk hnk).1=eq s.1+1:=by simp[fJ.add]
   refine ey (fin 1 I (dc (wG (hs':=pt b2 #[.slice ao (eq s.1) c] (sf kd 127 31)::g::(hs++fr)) Nm fun u=>jy (ey (a9 0 0 I I I (lit 1 #[(eP kd) k] I Nn qk fun b10=>app 0 2 I I o (.inr ⟨0,I⟩) (aZ.ofPt I Nn).isS I Nn (by simp[eP,Value.oneCell']) (by show (eq s.1+1)*8<=_;omega) (by simp only[maxLen];omega) fun ao11 c11 g11 o11=>stp 0 1 rfl rfl rfl rfl (fin 0 rfl (dc (kx (cW.drop (wx (hs':=pt b2 #[.slice ao11 (eq s.1+1) c11] (sf kd 127 31)::g11::(hs++fr)) rfl (⟨pt b2 #[.slice ao11 (eq s.1+1) c11] (sf kd 127 31)::g11::hs,rfl,rfl,ao11,c11,g11,by rw[hlen2],?_⟩))))))))))));rw[hlen2];have:fm kd (s.add k hk hnk).1=fm kd s.1++[(eP kd) k]:=by simp[fJ.add,fm,eP]
   rw[this];exact o11
  ·rintro D s K' hs' hov ⟨rfl,ao,c,g,rfl,o⟩;exact id (kx (da (cI (ey (a9 0 0 I I I (fin 1 I (dc (da (jQ (cW.drop (Lz D (hs':=g::hs) I I I ⟨I,s,ao,c,g,hov,I,I,o⟩)))))))))))
  rintro D c K hs hj;exact hj.elim
end
section
def mJ(x:Int):List Int->List Int
 | []=>[x]
 | y::l=>if x<=y then x::y::l else y::mJ x l
def eI:List Int->List Int
 | []=>[]
 | x::l=>mJ x (eI l)
theorem uf(x:Int):∀ l,(mJ x l).Perm (x::l)
 | []=>List.Perm.refl _
 | y::l=>by
  unfold mJ
  split
  ·exact List.Perm.refl _
  exact ((uf x l).cons y).trans<|aat x y l
theorem dJ:∀ l,(eI l).Perm l
 | []=>List.Perm.refl _
 | x::l=>(uf x _).trans ((dJ l).cons x)
theorem zY(x:Int):∀ {l},l.Pairwise (· <= ·)->(mJ x l).Pairwise (· <= ·)
 | [],_=>by simp[mJ]
 | y::l,h=>by
  unfold mJ;have h1:=aa1.1 h
  split
  ·rename_i hxy;refine aa1.2 ⟨fun z hz=>?_,h⟩;rcases aay.1 hz with rfl|hz
   ·exact hxy
   exact Int.le_trans hxy<|h1.1 z hz
  rename_i hxy;refine aa1.2 ⟨fun z hz=>?_,zY x h1.2⟩;rcases aay.1 ((uf x l).mem_iff.1 hz) with rfl|hz
  ·omega
  exact h1.1 z hz
theorem nr:∀ l,(eI l).Pairwise (· <= ·)
 | []=>List.Pairwise.nil
 | x::l=>zY x (nr l)
def uH{l ys:List Int}(hp:ys.Perm l)(hs:ys.Pairwise (· <= ·)):ys=eI l:=
 List.Perm.eq_of_pairwise (le:=(· <= ·)) (fun a b _ _ h1 h2=>Int.le_antisymm h1 h2) hs (nr l) (hp.trans (dJ l).symm)
def de.pw{ys:List Nat}(h:de 0 (eq ys) ys):(ys.map fun x=>((x:Nat):Int)).Pairwise (· <= ·):=by
 rw[abA,abC];intro i j hi hj hij;have:=h i j (aad _) hij hj;rw[aaG,aaG,aai hi,aai hj] at this;simp only[aa0] at this;omega
def Js(kd:Bool)(ks:List Int)(h:∀ k∈ks,0<=k):fm kd ks=gD kd (ks.map Int.toNat):=by
 unfold fm gD;rw[aa3];refine abf fun k hk=>?_;have:=h k hk;simp only[Function.comp_apply];rw[acs this]
def Jr(kd:Bool)(ys:List Nat):gD kd ys=fm kd (ys.map fun x=>((x:Nat):Int)):=by
 unfold fm gD;rw[aa3]
 rfl
def Ht(ks:List Int)(h:∀ k∈ks,0<=k):(ks.map Int.toNat).map (fun x=>((x:Nat):Int))=ks:=by
 rw[aa3]
 conv=>rhs;rw[<-List.map_id ks]
 refine abf fun k hk=>?_;have:=h k hk;simp only[Function.comp_apply,id];rw[acs this]
theorem aZ.kA{kd:Bool}{g:PH}{ao:Option Addr}{c e:Nat}{xs:List Nat}(o:aZ g ao (eq xs) c e 1 (gD kd xs))(hne:ao≠none):∃ b pre post,ao=some ⟨b,eq pre,none⟩/\g=pt b (kA kd pre xs post) e/\eq xs<=c:=by
 obtain ⟨h1,h2,h3,⟨h4,_⟩|⟨b,off,cur,h4,h5,h6,h7⟩⟩:=o
 ·exact absurd h4 hne
 have hl:eq cur.toList=cur.size:=abN;have hoff:off<=eq cur.toList:=by rw[hl,h6];omega
 refine ⟨b,cur.toList.take off,cur.toList.drop (off+eq xs),?_,?_,h2⟩
 ·rw[h4,aam,Nat.min_eq_left hoff]
 rw[h5]
 congr 1
 unfold En.kA;rw[aaf] at h7;rw[<-h7,aaD,<-aaR,aaA,aaA]
def aU(D:Dk):List Int:=eI (D.areas.map (·.1))
def HR(kd:Bool){ν:Type}(f:Nat)(cap:List Value)(m:List (Int×ν))(Rd:PH->List PH->Prop)(it:qr Tryz.prog w0 f cap (pW (eP kd) m) (lQ m) (fJ.nil m) Rd)(hcal:iG Tryz.prog f=true)
  (hl:eq m<=1000000000) (hR:∀ x y fr,Rd K (x::y::(hs++fr))):
  aj w0 (sf kd 162 97) [.func (.func f) #[] cap.toArray] K hs
   (fun v K' hs'=>K'=K/\∃ (s:fJ m) (ao:Option Addr) (c:Nat) (g:PH),lQ m s/\hs'=g::hs/\v=.slice ao (eq s.1) c/\aZ g ao (eq s.1) c (sf kd 29 3) 1 (fm kd s.1)):=by
 cases kd
 let kd:Bool:=false
 rewrite [show sf false=sf kd from rfl]
 try rewrite [show fm false=fm kd from rfl]
 try rewrite [show eP false=eP kd from rfl]
 refine enter Tryz.func97 qk I I I ?_
 rotate_left
 let kd:Bool:=true
 rewrite [show sf true=sf kd from rfl]
 try rewrite [show fm true=fm kd from rfl]
 try rewrite [show eP true=eP kd from rfl]
 refine enter Tryz.func162 qk I I I ?_
 rotate_left
 all_goals
  refine acI (fin 1 I (acF (cl 1 I (JX kd f cap m Rd it hcal hl hR) ?_)));rintro v4 K4 hs4 ⟨rfl,s,ao,c,g,h1,rfl,rfl,h4⟩;exact fin 1 I (acK (ah I I ⟨I,s,ao,c,g,h1,I,I,h4⟩))
def vJ(kd:Bool)(g cap:Nat)(pre post:List Value)(xs:List Nat)(hc:eq xs<=cap)(hl:eq xs<=1099511627776):
  aj w0 (sf kd 163 98) [.slice (some ⟨g,eq pre,none⟩) (eq xs) cap] K (pt g (kA kd pre xs post) (sf kd 29 3)::hs)
   (fun v K' hs'=>K'=K/\∃ ys,hs'=pt g (kA kd pre ys post) (sf kd 29 3)::hs/\bF 0 (eq xs) xs ys/\de 0 (eq xs) ys):=by
 cases kd
 let kd:Bool:=false
 rewrite [show sf false=sf kd from rfl]
 try rewrite [show kA false=kA kd from rfl]
 refine enter Tryz.func98 qk I I I ?_
 rotate_left
 let kd:Bool:=true
 rewrite [show sf true=sf kd from rfl]
 try rewrite [show kA true=kA kd from rfl]
 refine enter Tryz.func163 qk I I I ?_
 rotate_left
 all_goals
  refine acI (fin 3 I (acH (ar 3 I (bL qo) (cl 0 I (wz (eq xs) qo) ?_))));rintro v9 K9 hs9 ⟨rfl,rfl,n,rfl,h1,-⟩;have hs1:=Mk kd (eq xs) (w0:=w0) (K:=K9) (hs:=hs) g cap pre post xs 0 (eq xs) n (aad _) (aac _) hc hl h1 (gu.zero _ _) qo;refine cl 0 I hs1 ?_;rintro v10 K10 hs10 ⟨rfl,ys,rfl,h2,h3⟩;exact fin 0 I (dA I ⟨I,ys,I,h2,h3⟩)
def Ju(kd:Bool):aj w0 (sf kd 254 216) [.slice none 0 0,.int .i64 0,.int .i64 0] K hs (fun v K' hs'=>K'=K/\hs'=hs):=by
 cases kd
 let kd:Bool:=false
 rewrite [show sf false=sf kd from rfl]
 refine enter Tryz.func216 qk I I I ?_
 rotate_left
 let kd:Bool:=true
 rewrite [show sf true=sf kd from rfl]
 refine enter Tryz.func254 qk I I I ?_
 rotate_left
 all_goals
  refine acI (ar 1 I (aC (x:=1) qo) (fin 1 I (th (bk (loop (σ:=Unit) (fun _=>[(2,.int .i64 0),(6,.int .i64 1)]) (fun _=>K) (fun _=>hs) (fun _=>True) (fun _=>0) () trivial sb I I ?_)))));rintro - -;exact sq (acI (ai 2 I fun b12 h12=>fin 0 I (th (Dt h12 qo I (ex (xt (xt (xb (dA I ⟨I,I⟩)))))))))
def IR(kd:Bool)(n:Nat):aj w0 (sf kd 215 166) [.slice none 0 0,.int .i64 0,.int .i64 0,.int .i64 (n:Nat)] K hs (fun v K' hs'=>K'=K/\hs'=hs):=by
 cases kd
 let kd:Bool:=false
 rewrite [show sf false=sf kd from rfl]
 refine enter Tryz.func166 qk I I I ?_
 rotate_left
 let kd:Bool:=true
 rewrite [show sf true=sf kd from rfl]
 refine enter Tryz.func215 qk I I I ?_
 rotate_left
 all_goals
  refine acI (fin 1 I (acF (fin 1 I (th (bk (loop (σ:=Unit) (fun _=>[(0,.slice none 0 0),(1,.int .i64 0),(2,.int .i64 0)]) (fun _=>K) (fun _=>hs) (fun _=>True) (fun _=>0) () trivial sb I I ?_))))));rintro - -;refine bk (acI (ar 2 I (aC (x:=0) qo) (fin 1 I (acE (ai 1 I fun b23 h23=>fin 0 I (th (sI h23 qo I (acI (cl 3 I (Ju kd) ?_)))))))));rintro v27 K27 hs27 ⟨rfl,rfl⟩;exact fin 0 I (acK (rT (rB (rT (rB (kQ I ⟨I,I⟩))))))
def Hc(kd:Bool):aj w0 (sf kd 163 98) [.slice none 0 0] K hs (fun v K' hs'=>K'=K/\hs'=hs):=by
 cases kd
 let kd:Bool:=false
 rewrite [show sf false=sf kd from rfl]
 refine enter Tryz.func98 qk I I I ?_
 rotate_left
 let kd:Bool:=true
 rewrite [show sf true=sf kd from rfl]
 refine enter Tryz.func163 qk I I I ?_
 rotate_left
 all_goals
  refine acI (fin 3 I (acH (ar 3 I (bL (x:=0) qo) (cl 0 I (wz 0 qo) ?_))));rintro v9 K9 hs9 ⟨rfl,rfl,n,rfl,h1,-⟩;refine cl 0 I (IR kd n) ?_;rintro v10 K10 hs10 ⟨rfl,rfl⟩;exact fin 0 I (dA I ⟨I,I⟩)
def A0(kd:Bool){ν:Type}(f:Nat)(cap:List Value)(m:List (Int×ν))(hnd:(m.map (·.1)).Nodup)(h0:∀ k∈m.map (·.1),0<=k)(Rd:PH->List PH->Prop)(it:qr Tryz.prog w0 f cap (pW (eP kd) m) (lQ m) (fJ.nil m) Rd)(hcal:iG Tryz.prog f=true)
  (hl:eq m<=1000000000) (hR:∀ x y fr,Rd K (x::y::(hs++fr))):
  aj w0 (sf kd 95 49) [.func (.func f) #[] cap.toArray] K hs
   (fun v K' hs'=>Le K K'/\hs'=hs/\∃ ao c,v=.slice ao (eq m) c/\aw K' ao (eq m) c 1 (fm kd (eI (m.map (·.1))))):=by
 cases kd
 let kd:Bool:=false
 rewrite [show sf false=sf kd from rfl]
 try rewrite [show fm false=fm kd from rfl]
 try rewrite [show eP false=eP kd from rfl]
 refine enter Tryz.func49 qk I I I ?_
 rotate_left
 let kd:Bool:=true
 rewrite [show sf true=sf kd from rfl]
 try rewrite [show fm true=fm kd from rfl]
 try rewrite [show eP true=eP kd from rfl]
 refine enter Tryz.func95 qk I I I ?_
 rotate_left
 all_goals
  refine acI (fin 1 I (acF (cl 1 I (HR kd f cap m Rd it hcal hl hR) ?_)));rintro v5 K5 hs5 ⟨rfl,s,ao,c,g,hov,rfl,rfl,o⟩;have hp:=s.perm hnd hov;have hsl:eq s.1=eq m:=by have:=hp.length_eq;simpa using this
  have hs0:∀ k∈s.1,0<=k:=fun k hk=>h0 k (hp.mem_iff.1 hk);obtain ⟨xs,hxs⟩:=be (s.1.map Int.toNat);have hxl:eq xs=eq m:=by rw[hxs];simpa using hsl
  rw[hsl,Js kd s.1 hs0,<-hxs,<-hxl] at o;rw[hsl,<-hxl];refine fin 1 I (acF ?_);cases ao with
  | none=>
   have hcz:eq xs=0/\c=0:=by
    obtain ⟨_,h2,_,⟨_,h4,_⟩|⟨_,_,_,h4,_⟩⟩:=o
    ·omega
    cases h4
   obtain ⟨hz,rfl⟩:=hcz;rw[hz];refine cl 1 I (Hc kd) ?_;rintro v7 K7 hs7 ⟨rfl,rfl⟩;refine fin 0 I (acF (fin 2 I (acK (WQ.drop (ah I I ⟨Le.refl _,I,none,0,I,?_⟩)))));have hm0:m=[]:=List.length_eq_zero_iff.1 (hxl.symm.trans hz);subst hm0;exact aw.nil _ _ _ _
  | some a=>
   obtain ⟨b,pre,post,ha,rfl,hc⟩:=o.kA Nm;rw[ha];refine cl 1 I (vJ kd b c pre post xs hc qo) ?_;rintro v7 K7 hs7 ⟨rfl,ys,rfl,hQ,hS⟩;refine fin 0 I (acF (fin 2 I (acK (WQ.frz fun K' le1 le2=>?_))));have hyl:=hQ.len
   have hsort:(ys.map fun x=>((x:Nat):Int))=eI (m.map (·.1)):=by
    refine uH ?_ ?_
    ·have h1:=hQ.perm.map (fun x:Nat=>((x:Nat):Int));rw[hxs,Ht s.1 hs0] at h1;exact h1.trans hp
    rw[<-hyl] at hS;exact hS.pw
   refine ah I I ⟨le1,I,_,c,I,?_⟩;rw[<-hsort,<-Jr kd,<-hyl];exact (nR qo).le le2
def CE{m:List PH}(b:Nat)(D:Dk)(c:Nat)(o:D.Ok c)(hl:eq D.areas<=1000000000)(h0:∀ k∈D.areas.map (·.1),0<=k)(hm:go K b D m):
  aj w0 48 [Nr b] K (m++hs)
   (fun v K' hs'=>Le K K'/\hs'=m++hs/\∃ ao c,v=.slice ao (eq (aU D)) c/\aw K' ao (eq (aU D)) c 1 (oU (aU D))):=by
 obtain ⟨bo,ho,ins,rfl,hO,hI⟩:=hm;have hk:(ez ins).map (·.1)=D.areas.map (·.1):=by rw[nm,mn hI]
 have hlen:eq (ez ins)=eq D.areas:=by have:=congrArg List.length hk;simpa using this
 refine enter Tryz.func48 qk I I I (acI (fin 1 I (acF (a9 3 0 I I I (cl 0 I (CU true bo) ?_)))));rintro v7 K7 hs7 ⟨rfl,b1,rfl,rfl⟩
 refine cl 0 I (A0 true (m:=ez ins) _ [Nr b1] (by rw[hk];exact o.keys) (by rw[hk];exact h0) (wl ho b1 bo) (CT true qe ho b1 bo (ez ins) (by rw[hk];exact o.keys) hO) qk qo
  (fun x y fr=>⟨⟨_,.inr ⟨2,rfl⟩,cC.pt rfl⟩,.inr ⟨4,rfl⟩⟩)) ?_
 rintro v8 K8 hs8 ⟨le,rfl,ao,cc,rfl,hx⟩;refine fin 1 I (acK (WQ.drop ?_));have e:aU D=eI ((ez ins).map (·.1)):=by unfold aU;rw[hk]
 have e2:eq (aU D)=eq (ez ins):=by rw[e,(dJ _).length_eq,aaO]
 exact ah I I ⟨le,I,ao,cc,by rw[e2],by rw[e2,e];exact hx⟩
end
section
def Ct.bun{P:Program}{f:FuncId}{args:List Value}{m:List PH}{R R':Value->PH->List PH->Prop}(d:gT m)(c:Ct P w0 f args K (m++hs) R)
  (h:∀ v K' hs',R v K' hs'->∃ m',hs'=m'++hs/\(gT m'->R' v K' (cZ m'::hs))):Ct P w0 f args K (cZ m::hs) R':=
 ⟨c.1,fun w hw=>(c.2 w (hw.split d)).mono fun e w' he=>by
  obtain ⟨v,K',hs',rfl,hR,hS⟩:=he;obtain ⟨m',rfl,h2⟩:=h v K' hs' hR;obtain ⟨d',hS'⟩:=a7.join m' hS;exact ⟨v,K',_,I,h2 d',hS'⟩⟩
def Ct.fix2{P:Program}{f:FuncId}{args:List Value}{R R':Value->PH->List PH->Prop}(c:Ct P w0 f args K hs R)
  (h:∀ w v K' hs',a7 w0 w K' hs'->R v K' hs'->∃ K2 hs2,R' v K2 hs2/\a7 w0 w K2 hs2):Ct P w0 f args K hs R':=
 ⟨c.1,fun w hw=>(c.2 w hw).mono fun e w' he=>by
  obtain ⟨v,K',hs',rfl,hR,hS⟩:=he;obtain ⟨K2,hs2,h1,h2⟩:=h w' v K' hs' hS hR;exact ⟨v,K2,hs2,I,h1,h2⟩⟩
def eC(m:List (Int×Ar)):Nat:=(m.map fun x=>eq x.2).sum
theorem qG{a:Int}{l:Ar}:∀ (m:List (Int×Ar)),eC (cj a l m)+eq ((a8 a m).getD [])=eC m+eq l
 | []=>by simp[cj,a8,eC]
 | (k,u)::m=>by
  by_cases e:a=k
  ·grind [cj,a8,eC]
  have:=qG (a:=a) (l:=l) m
  grind [cj,a8,eC]
theorem tW{a:Int}:∀ (m:List (Int×Ar)),(m.map (·.1)).Nodup->eC (dv a m)+eq ((a8 a m).getD [])=eC m
 | [],_=>by rfl
 | (k,u)::m,h=>by
  simp only[aaq,aa7] at h
  by_cases e:a=k
  ·grind [a8,dv,eC]
  have:=tW (a:=a) m h.2
  grind [dv,a8,eC]
structure aP (c:Nat) (D:Dk):Prop where
 ok:D.Ok c
 ar:∀ k∈D.areas.map (·.1),0<=k/\k<=18446744073709551615
 len:eq D.areas<=c
 cap:D.room+(eC D.areas:Int)<=1073741824
theorem aP.up{c d:Nat}{D:Dk}(o:aP c D)(h:c<=d):aP d D:=⟨o.ok.up h,o.ar,by have:=o.len;omega,o.cap⟩
theorem aP.write{c:Nat}{D:Dk}(o:aP c D)(a n:Int)(b:List UInt8)(ha:0<=a/\a<=18446744073709551615):aP (c+1) (D.write a n b).1:=by
 refine ⟨o.ok.write a n b,?_,?_,?_⟩
 ·unfold Dk.write
  split
  ·exact o.ar
  split
  ·exact o.ar
  split
  ·exact o.ar
  intro k hk;obtain ⟨x,hx,rfl⟩:=aap.1 hk;rcases iu hx with rfl|hx
  ·exact ha
  exact o.ar _<|aap.2 ⟨x,hx,I⟩
 ·have:=o.len;unfold Dk.write
  split
  ·dsimp only;omega
  split
  ·dsimp only;omega
  split
  ·dsimp only;omega
  show eq (cj a _ D.areas)<=c+1;rw[pj]
  split <;> omega
 have hc:=o.cap;unfold Dk.write
 split
 ·exact hc
 split
 ·exact hc
 split
 ·exact hc
 show (D.laid a n b).room+(eC (D.laid a n b).areas:Int)<=_;unfold Dk.laid;dsimp only;have h1:=qG (a:=a) (l:=cj n (fI (D.sec a n) b) (D.ar a)) D.areas;have h2:eq ((a8 a D.areas).getD [])=eq (D.ar a):=rfl;have h3:=pj n (fI (D.sec a n) b) (D.ar a);have h4:D.sec a n=a8 n (D.ar a):=rfl
 grind
theorem pB(D:Dk)(a:Int):(D.synA a).map (·.1)=D.areas.map (·.1):=by
 grind [qM,Dk.synA]
def G9(D:Dk)(a:Int):eC (D.synA a)=eC D.areas:=by
 unfold Dk.synA;cases hg:a8 a D.areas with
 | none=>rfl
 | some l=>
  have:=qG (a:=a) (l:=l.map fun x=>(x.1,iP x.2)) D.areas
  simp_all
theorem aP.sync{c:Nat}{D:Dk}(o:aP c D)(a:Int):aP (c+1) (D.sync a).1:=by
 refine ⟨o.ok.sync a,?_,?_,?_⟩
 ·unfold Dk.sync
  split
  ·exact o.ar
  split
  ·exact o.ar
  show ∀ k∈(D.synA a).map (·.1),_;rw[pB];exact o.ar
 ·have:=o.len;unfold Dk.sync
  split
  ·dsimp only;omega
  split
  ·show eq D.areas<=c+1;omega
  have h:=congrArg List.length (pB D a)
  grind
 have hc:=o.cap;unfold Dk.sync
 split
 ·exact hc
 split
 ·exact hc
 show D.room+(eC (D.synA a):Int)<=_;rw[G9];exact hc
def aP.arLen{c:Nat}{D:Dk}(o:aP c D)(a:Int):(eq (D.ar a):Int)<=eC D.areas:=by
 have h:=tW (a:=a) D.areas o.ok.keys;have h2:eq ((a8 a D.areas).getD [])=eq (D.ar a):=rfl;omega
theorem aP.free{c:Nat}{D:Dk}(o:aP c D)(a:Int):aP (c+1) (D.free a).1:=by
 have hs:=kF (k:=a) D.areas;have hc:=o.cap;refine ⟨o.ok.free a (by have:=o.arLen a;omega),?_,?_,?_⟩
 ·unfold Dk.free
  split
  ·exact o.ar
  split
  ·exact o.ar
  intro k hk;obtain ⟨x,hx,rfl⟩:=aap.1 hk;exact o.ar _ (aap.2 ⟨x,hs.subset hx,I⟩)
 ·have:=o.len;unfold Dk.free
  split
  ·dsimp only;omega
  split
  ·show eq D.areas<=c+1;omega
  grind
 unfold Dk.free
 split
 ·exact hc
 split
 ·exact hc
 show D.room+(eq (D.ar a):Int)+(eC (dv a D.areas):Int)<=_;have h:=tW (a:=a) D.areas o.ok.keys;have h2:eq ((a8 a D.areas).getD [])=eq (D.ar a):=rfl;omega
def bN(K:PH)(b:Nat)(D:Dk)(h:PH):Prop:=∃ m,h=cZ m/\gT m/\go K b D m
theorem bN.le{K K':PH}(l:Le K K'){b:Nat}{D:Dk}{h:PH}(x:bN K b D h):bN K' b D h:=let ⟨m,h1,h2,h3⟩:=x;⟨m,h1,h2,h3.le l⟩
def Mm(r:Int)(hr:0<=r/\r<=1099511627776):aj w0 47 [.int .i64 r] K hs
  (fun v K' hs'=>K'=K/\∃ b h,hs'=h::hs/\bN K b (dT r) h/\v=Nr b):=by
 refine Ct.fix2 (CQ r hr) ?_;rintro w v K' hs' hS ⟨rfl,b,m,rfl,hm,rfl⟩;obtain ⟨d,hS'⟩:=a7.join m hS;exact ⟨K',_,⟨I,b,cZ m,I,⟨m,I,d,hm⟩,I⟩,hS'⟩
def C6{h:PH}(b:Nat)(D:Dk)(hm:bN K b D h):aj w0 100 [Nr b] K (h::hs)
  (fun v K' hs'=>K'=K/\hs'=h::hs/\v=.bool D.dead):=by
 obtain ⟨m,rfl,d,hm⟩:=hm;refine Ct.bun d (LU b D hm) ?_
 simp
def vL{h:PH}(b:Nat)(D:Dk)(c:Nat)(o:D.Ok c)(hc:c<=1099511627)(hm:bN K b D h)(area n:Int):
  aj w0 109 [Nr b,.int .u64 area,.int .i64 n] K (h::hs)
   (fun v K' hs'=>∃ h',hs'=h'::hs/\h'=h/\Le K K'/\((D.read area n=none/\v=.tuple #[.slice none 0 0,.bool false]) \/
    ∃ bs ao cap,D.read area n=some bs/\eq bs=64/\v=.tuple #[.slice ao (eq bs) cap,.bool true]/\aw K' ao (eq bs) cap 1 (bv bs))):=by
 obtain ⟨m,rfl,d,hm⟩:=hm;refine Ct.bun d (Kw b D c o hc hm area n) ?_
 simp_all
def u9{hv h:PH}(b:Nat)(D:Dk)(c:Nat)(o:D.Ok c)(hc:c<=1099511627)(hm:bN K b D h)(area n:Int)(ha:0<=area/\area<=18446744073709551615)(ao:Option Addr)(cap:Nat)(bs:List UInt8)(hin:In K hs hv)(x:aw hv ao (eq bs) cap 1 (bv bs)):
  aj w0 207 [Nr b,.int .u64 area,.int .i64 n,.slice ao (eq bs) cap] K (h::hs)
   (fun v K' hs'=>∃ h',hs'=h'::hs/\Le K K'/\bN K' b (D.write area n bs).1 h'/\v=.int .i64 (D.write area n bs).2):=by
 obtain ⟨m,rfl,d,hm⟩:=hm;refine Ct.bun d (J1 b D c o hc hm area n ha ao cap bs hin x) ?_;rintro v K' hs' ⟨le,m',rfl,hm',rfl⟩;exact ⟨m',I,fun d'=>⟨_,I,le,⟨m',I,d',hm'⟩,I⟩⟩
def rU{h:PH}(b:Nat)(D:Dk)(c:Nat)(o:D.Ok c)(hc:c<=1099511627)(hm:bN K b D h)(area:Int):
  aj w0 175 [Nr b,.int .u64 area] K (h::hs)
   (fun v K' hs'=>∃ h',hs'=h'::hs/\K'=K/\bN K b (D.sync area).1 h'/\v=.int .i64 (D.sync area).2):=by
 obtain ⟨m,rfl,d,hm⟩:=hm;refine Ct.bun d (Lu b D c o hc hm area) ?_;rintro v K' hs' ⟨rfl,m',rfl,hm',rfl⟩;exact ⟨m',I,fun d'=>⟨_,I,I,⟨m',I,d',hm'⟩,I⟩⟩
def p7{h:PH}(b:Nat)(D:Dk)(c:Nat)(o:D.Ok c)(hc:c<=1099511627)(hm:bN K b D h)(area:Int):
  aj w0 58 [Nr b,.int .u64 area] K (h::hs)
   (fun v K' hs'=>∃ h',hs'=h'::hs/\K'=K/\bN K b (D.free area).1 h'/\v=.int .i64 (D.free area).2):=by
 obtain ⟨m,rfl,d,hm⟩:=hm;refine Ct.bun d (LM b D c o hc hm area) ?_;rintro v K' hs' ⟨rfl,m',rfl,hm',rfl⟩;exact ⟨m',I,fun d'=>⟨_,I,I,⟨m',I,d',hm'⟩,I⟩⟩
def vG{h:PH}(b:Nat)(D:Dk)(c:Nat)(o:aP c D)(hc:c<=1000000000)(hm:bN K b D h):
  aj w0 48 [Nr b] K (h::hs)
   (fun v K' hs'=>∃ h',hs'=h'::hs/\h'=h/\Le K K'/\∃ ao c,v=.slice ao (eq (aU D)) c/\aw K' ao (eq (aU D)) c 1 (oU (aU D))):=by
 obtain ⟨m,rfl,d,hm⟩:=hm;refine Ct.bun d (CE b D c o.ok (by have:=o.len;omega) (fun k hk=>(o.ar k hk).1) hm) ?_
 simp_all
end
section
def aK(num:Nat):Int:=((4*num+1:Nat):Int)
def gK(s:List UInt8):Nat:=min (s.getD 0 0).toNat 63
def km(D:Dk)(num:Nat):Nat->Nat->List UInt8
 | 0,_=>[]
 | f+1,n=>match D.read (aK num) n with
  | none=>[]
  | some s=>(s.drop 1).take (gK s)++(if gK s<63 then [] else km D num f (n+1))
def fw(D:Dk)(num:Nat):List UInt8:=km D num 65537 0
def bn:Nat:=4611686018427387904
def cG:Nat:=1152921504606846976
def iX:Nat->Rd->List (List UInt8)
 | 0,_=>[]
 | f+1,r=>if (bR 512 r).2.2=0 then (bR 512 r).1::iX f (bR 512 r).2 else []
structure fq where
 num:Nat
 idx:Nat
 full:Nat
 rest:List UInt8
structure Wl where
 op:Option fq
 first:Nat
 recs:List (List UInt8)
 old:List (Nat×Nat)
 next:Nat
 code:Int
def Wl.follows(W:Wl)(n idx:Nat):Wl×Bool:=
 if eq W.old=0\/idx<W.first then ({ W with first:=idx,recs:=[],old:=W.old++[(n,idx)] },true)
 else if eq W.recs<idx-W.first then (W,false)
 else ({ W with recs:=W.recs.take (idx-W.first),old:=W.old++[(n,idx)] },true)
def jl(D:Dk)(n:Nat)(W:Wl):Wl×Bool×Bool:=
 if (aG bn (fw D n,0)).2.2≠0 then (W,true,true)
 else if (W.follows n (aG bn (fw D n,0)).1).2=false then ((W.follows n (aG bn (fw D n,0)).1).1,false,false)
 else ({ (W.follows n (aG bn (fw D n,0)).1).1 with recs:=(W.follows n (aG bn (fw D n,0)).1).1.recs++iX (eq (fw D n)+1) (aG bn (fw D n,0)).2 },true,false)
def ca(ars:List Int):List Nat:=(ars.filter fun a=>decide (a % 4=1)).map fun a=>a.toNat / 4
def gJ(ars:List Int):Nat:=(ca ars).foldl (fun _ n=>n+1) 0
def eN(D:Dk)(fr n:Nat)(W:Wl):Wl×Bool×Bool:=if n<fr then (W,true,true) else jl D n W
def ga(D:Dk)(fr:Nat):List Nat->Wl->List Nat->Wl×List Nat×Bool
 | [],W,g=>(W,g,true)
 | n::r,W,g=>
  if (eN D fr n W).2.1=false\/bn<(eN D fr n W).1.first+eq (eN D fr n W).1.recs then ((eN D fr n W).1,if (eN D fr n W).2.2 then g++[n] else g,false)
  else ga D fr r (eN D fr n W).1 (if (eN D fr n W).2.2 then g++[n] else g)
def fy(D:Dk)(g:List Nat)(n:Nat):Dk×Int:=if n∈g then D.free (aK n) else D.sync (aK n)
def wsettle(g:List Nat):List Nat->Dk->Dk×Int
 | [],D=>(D,0)
 | n::r,D=>if (fy D g n).2=0 then wsettle g r (fy D g n).1 else fy D g n
def dD(fr first:Nat)(ars:List Int):Wl:=⟨none,first,[],[],max (gJ ars) fr,0⟩
def dz(D:Dk)(fr first:Nat):Option Wl×Dk×Int:=
 if D.dead=true then (none,D,30)
 else if bn<first then (none,D,52)
 else if cG<(dD fr first (aU D)).next then (none,D,52)
 else if (ga D fr (ca (aU D)) (dD fr first (aU D)) []).2.2=false then (none,D,52)
 else if (wsettle (ga D fr (ca (aU D)) (dD fr first (aU D)) []).2.1 (ca (aU D)) D).2≠0 then (none,wsettle (ga D fr (ca (aU D)) (dD fr first (aU D)) []).2.1 (ca (aU D)) D)
 else (some (ga D fr (ca (aU D)) (dD fr first (aU D)) []).1,(wsettle (ga D fr (ca (aU D)) (dD fr first (aU D)) []).2.1 (ca (aU D)) D).1,0)
def wrL:Nat->fq->Dk->fq×Dk×Int
 | 0,o,D=>(o,D,0)
 | f+1,o,D=>
  if (D.write (aK o.num) o.full (UInt8.ofNat (min (eq o.rest) 63)::o.rest.take (min (eq o.rest) 63))).2≠0\/eq o.rest<63 then
   (o,(D.write (aK o.num) o.full (UInt8.ofNat (min (eq o.rest) 63)::o.rest.take (min (eq o.rest) 63))).1,(D.write (aK o.num) o.full (UInt8.ofNat (min (eq o.rest) 63)::o.rest.take (min (eq o.rest) 63))).2)
  else if eq o.rest=63 then ({ o with full:=o.full+1,rest:=[] },(D.write (aK o.num) o.full (UInt8.ofNat (min (eq o.rest) 63)::o.rest.take (min (eq o.rest) 63))).1,0)
  else wrL f { o with full:=o.full+1,rest:=o.rest.drop 63 } (D.write (aK o.num) o.full (UInt8.ofNat (min (eq o.rest) 63)::o.rest.take (min (eq o.rest) 63))).1
def wrO(o:fq)(b:List UInt8)(D:Dk):fq×Dk×Int:=wrL (eq o.rest+eq b+1) { o with rest:=o.rest++b } D
def Wl.sync(W:Wl)(D:Dk):Wl×Dk:=
 if W.code≠0 then (W,D) else match W.op with
 | none=>(W,D)
 | some o=>({ W with code:=(D.sync (aK o.num)).2 },(D.sync (aK o.num)).1)
def Wl.begin(W:Wl)(i:Nat)(D:Dk):Wl×Dk:=
 if (W.sync D).1.code≠0 then W.sync D
 else ({ (W.sync D).1 with op:=some (wrO ⟨W.next,i,0,[]⟩ (aI i) (W.sync D).2).1,next:=W.next+1,old:=W.old++[(W.next,i)],code:=(wrO ⟨W.next,i,0,[]⟩ (aI i) (W.sync D).2).2.2 },(wrO ⟨W.next,i,0,[]⟩ (aI i) (W.sync D).2).2.1)
def j5:Option fq->Bool
 | none=>true
 | some o=>decide (16<=o.full)
def dl(W:Wl)(b:List UInt8)(D:Dk):Wl×Dk×Int:=match W.op with
 | none=>(W,D,W.code)
 | some o=>({ W with op:=some (wrO o (cm b) D).1,code:=(wrO o (cm b) D).2.2,recs:=if (wrO o (cm b) D).2.2=0 then W.recs++[b] else W.recs },(wrO o (cm b) D).2.1,(wrO o (cm b) D).2.2)
def Wl.append(W:Wl)(b:List UInt8)(D:Dk):Wl×Dk×Int:=
 if W.code≠0 then (W,D,W.code)
 else if 512<eq b then (W,D,50)
 else if W.first+eq W.recs=bn then (W,D,51)
 else if j5 W.op=true then
  (if (W.begin (W.first+eq W.recs) D).1.code≠0 then ((W.begin (W.first+eq W.recs) D).1,(W.begin (W.first+eq W.recs) D).2,(W.begin (W.first+eq W.recs) D).1.code)
   else dl (W.begin (W.first+eq W.recs) D).1 b (W.begin (W.first+eq W.recs) D).2)
 else dl W b D
def Wl.truncate(W:Wl)(i:Nat)(D:Dk):Wl×Dk×Int:=
 if W.code≠0 then (W,D,W.code)
 else if i<W.first\/eq W.recs<i-W.first then (W,D,51)
 else if i-W.first=eq W.recs then (W,D,0)
 else (if (W.begin i D).1.code=0 then { (W.begin i D).1 with recs:=W.recs.take (i-W.first) } else (W.begin i D).1,(W.begin i D).2,(W.begin i D).1.code)
def j1(old:List (Nat×Nat))(i:Nat):Bool:=(old.drop 1).any fun s=>decide (s.2<=i)
def wfree(i:Nat):Nat->List (Nat×Nat)->Dk->List (Nat×Nat)×Dk×Int
 | 0,old,D=>(old,D,0)
 | f+1,old,D=>if 1<eq old/\j1 old i=true then
   (if (D.free (aK (old.headD (0,0)).1)).2≠0 then (old,(D.free (aK (old.headD (0,0)).1)).1,(D.free (aK (old.headD (0,0)).1)).2)
    else wfree i f (old.drop 1) (D.free (aK (old.headD (0,0)).1)).1)
  else (old,D,0)
def Wl.compact1(W:Wl)(i:Nat)(D:Dk):Wl×Dk:=if i=W.first+eq W.recs then W.begin i D else (W,D)
def Wl.compact2(W:Wl)(i:Nat)(D:Dk):Wl×Dk:=(W.compact1 i D).1.sync (W.compact1 i D).2
def Wl.compact(W:Wl)(i:Nat)(D:Dk):Wl×Dk×Int:=
 if W.code≠0 then (W,D,W.code)
 else if i<=W.first then (W,D,0)
 else if eq W.recs<i-W.first then (W,D,51)
 else if (W.compact2 i D).1.code≠0 then ((W.compact2 i D).1,(W.compact2 i D).2,(W.compact2 i D).1.code)
 else if (wfree i (eq (W.compact2 i D).1.old+1) (W.compact2 i D).1.old (W.compact2 i D).2).2.2≠0 then
  ({ (W.compact2 i D).1 with old:=(wfree i (eq (W.compact2 i D).1.old+1) (W.compact2 i D).1.old (W.compact2 i D).2).1,code:=(wfree i (eq (W.compact2 i D).1.old+1) (W.compact2 i D).1.old (W.compact2 i D).2).2.2 },(wfree i (eq (W.compact2 i D).1.old+1) (W.compact2 i D).1.old (W.compact2 i D).2).2.1,(wfree i (eq (W.compact2 i D).1.old+1) (W.compact2 i D).1.old (W.compact2 i D).2).2.2)
 else ({ (W.compact2 i D).1 with old:=(wfree i (eq (W.compact2 i D).1.old+1) (W.compact2 i D).1.old (W.compact2 i D).2).1,recs:=W.recs.drop (i-W.first),first:=i },(wfree i (eq (W.compact2 i D).1.old+1) (W.compact2 i D).1.old (W.compact2 i D).2).2.1,0)
def wreset:List Int->Dk->Dk×Int
 | [],D=>(D,0)
 | a::r,D=>if a % 4=1 then (if (D.free a).2=0 then wreset r (D.free a).1 else D.free a) else wreset r D
def Wl.reset(W:Wl)(first:Nat)(D:Dk):Wl×Dk×Int:=
 if W.code≠0 then (W,D,W.code)
 else if bn<first then (W,D,51)
 else if (wreset (aU D) D).2≠0 then ({ W with code:=(wreset (aU D) D).2 },wreset (aU D) D)
 else ({ W with op:=none,old:=[],recs:=[],first:=first },(wreset (aU D) D).1,0)
end
section
def fa:Nat->Nat->List UInt8
 | 0,_=>[]
 | k+1,n=>UInt8.ofNat n::fa k (n / 256)
theorem ln:∀ (k n:Nat),eq (fa k n)=k
 | 0,_=>rfl
 | k+1,n=>by simp[fa,ln k]
theorem Br:∀ (k n i:Nat),i<k->(fa k n)[i]?=some (UInt8.ofNat (n / 256 ^ i))
 | 0,_,_,h=>by omega
 | k+1,n,0,_=>by simp[fa]
 | k+1,n,i+1,h=>by
  rw[fa,List.getElem?_cons_succ,Br k (n / 256) i qo,Nat.div_div_eq_div_mul,ab6,abZ]
theorem AQ:∀ (k n:Nat),n<256 ^ k->dQ (fa k n)=n
 | 0,n,h=>by simp at h;simp[fa,dQ,h]
 | k+1,n,h=>by
  have h1:n / 256<256 ^ k:=by rw[Nat.div_lt_iff_lt_mul Nn];rw[ab6] at h;exact h
  rw[fa];simp only[dQ,AQ k _ h1]
  simp
  omega
def gy(n:Nat)(v:List UInt8):List UInt8:=fa 8 n++(UInt8.ofNat (eq v)::(v++List.replicate (51-eq v) 0))
def co(n:Nat)(v:List UInt8):List UInt8:=gy n v++fa 4 (lc (gy n v)).toNat
def xu{n:Nat}{v:List UInt8}(h:eq v<=48):eq (gy n v)=60:=by simp[gy,ln];omega
def nc{n:Nat}{v:List UInt8}(h:eq v<=48):eq (co n v)=64:=by simp[co,ln,xu h]
def iw(b:List UInt8)(i:Nat):Nat×List UInt8:=
 if 48<(b.getD 8 0).toNat then (0,[])
 else if dQ (b.take 8) % 2=i/\b=co (dQ (b.take 8)) ((b.drop 9).take (b.getD 8 0).toNat) then (dQ (b.take 8),(b.drop 9).take (b.getD 8 0).toNat) else (0,[])
def gZ(D:Dk)(area i:Nat):Nat×List UInt8:=match D.read area i with
 | none=>(0,[])
 | some b=>iw b i
structure bZ where
 num:Nat
 val:List UInt8
def bZ.pick(s:bZ)(r:Nat×List UInt8):bZ:=if s.num<r.1 then ⟨r.1,r.2⟩ else s
def gF(D:Dk)(area:Nat):bZ:=(bZ.pick ⟨0,[]⟩ (gZ D area 0)).pick (gZ D area 1)
def bZ.save(s:bZ)(area:Nat)(D:Dk)(v:List UInt8):bZ×Dk×Int:=
 if 48<eq v\/s.num=18446744073709551615 then (s,D,40)
 else if (D.write area (((s.num+1) % 2:Nat):Int) (co (s.num+1) v)).2=0 then
  (if ((D.write area (((s.num+1) % 2:Nat):Int) (co (s.num+1) v)).1.sync area).2=0 then ⟨s.num+1,v⟩ else s,((D.write area (((s.num+1) % 2:Nat):Int) (co (s.num+1) v)).1.sync area).1,((D.write area (((s.num+1) % 2:Nat):Int) (co (s.num+1) v)).1.sync area).2)
 else (s,(D.write area (((s.num+1) % 2:Nat):Int) (co (s.num+1) v)).1,(D.write area (((s.num+1) % 2:Nat):Int) (co (s.num+1) v)).2)
end
section
def rO{g ty:Nat}{A B C:List UInt8}{off n cap:Nat}(ho:off=eq A)(hn:n=eq B)(hc:n<=cap):aw (pt g (bv (A++B++C)).toArray ty) (some ⟨g,off,none⟩) n cap 1 (bv B):=by
 subst ho;subst hn;refine ⟨by simp[bv],hc,fun j u hu=>⟨_,I,?_⟩⟩
 have hj:j<eq B:=by
  grind [bv]
 simp_all [bf,cC.pt,abn,abt,bv]
def CD{l:List UInt8}{i:Nat}(h:i<eq l):(bv l).toArray[i]?=some (.int .u8 (l[i].toNat:Nat)):=by rw[List.getElem?_toArray,pU h]
def Lq(l:List UInt8)(i m:Nat):(bv l).toArray.setIfInBounds i (.int .u8 (m % 256:Nat))=(bv (l.set i (UInt8.ofNat m))).toArray:=by
 rw[List.setIfInBounds_toArray];unfold bv
 simp
def Hy{k n i:Nat}{B:List UInt8}(hB:eq B=k)(hi:i<k):((fa k n).take i++B.drop i).set i (UInt8.ofNat (n / 2 ^ (8*i)))=(fa k n).take (i+1)++B.drop (i+1):=by
 have hl:eq ((fa k n).take i)=i:=by rw[aam,ln];omega
 have hp:(2:Nat) ^ (8*i)=256 ^ i:=by rw[Nat.pow_mul]
 rw[aca _ _ qo,hl,ab8,aaF qo,List.set_cons_zero,hp,aaK,Br k n i hi]
 simp
theorem LY{X v Z W:List UInt8}{k:Nat}(hk:k=eq X)(hz:eq Z=eq v):(List.take k (bv (X++(Z++W)))++List.take (eq v*1) (bv v)++List.drop (k+eq v*1) (bv (X++(Z++W)))).toArray=(bv (X++(v++W))).toArray:=by
 simp_all [aav,acv,bv]
def Dr(g off k cap ty n:Nat)(A B C:List UInt8)(ho:off=eq A)(hB:eq B=k)(hk:k<=8)(hc:k<=cap):
  aj w0 227 [.slice (some ⟨g,off,none⟩) k cap,.int .u64 (n:Nat)] K (pt g (bv (A++B++C)).toArray ty::hs)
   (fun v K' hs'=>K'=K/\hs'=pt g (bv (A++fa k n++C)).toArray ty::hs):=by
 refine cB Tryz.func227 ?_
 refine loop (σ:=Nat) (fun i=>[(0,.slice (some ⟨g,off,none⟩) k cap),(1,.int .u64 (n:Nat)),(6,.int .i64 (k:Nat)),(7,.int .i64 (i:Nat))]) (fun _=>K) (fun i=>pt g (bv (A++((fa k n).take i++B.drop i)++C)).toArray ty::hs)
  (fun i=>i<=k) (fun i=>k-i) 0 (aad _) ⟨rfl,rfl,rfl,rfl,trivial⟩ rfl Nm ?_
 intro i hi;refine acI (ai 0 I fun b8 h8=>au ?_);refine ax h8 I (fun e2=>?_) (fun e2=>?_)
 ·have hik:i<k:=qo
  obtain ⟨M,hM⟩:=be ((fa k n).take i++B.drop i);have hMl:eq M=k:=by simp_all [ln]
  rw[<-hM];refine au ?_;refine ar 4 I (aC (x:=((8*i:Nat):Int)) qo) (oI 0 I qo (.inr ⟨I,rD n _ (8*i) I qo⟩) (ar 0 I (ju _) (fj 0 i I I (rO (g:=g) (ty:=ty) (C:=C) ho hMl.symm hc) hik Nn fun a17 ha=>?_)));cases ha;simp only[bf,aaf];refine stp 0 0 I I (CD (l:=A++M++C) (i:=off+i) (by simp only[aah];omega)) rfl (au ?_);refine ar 0 I (aC (x:=((i+1:Nat):Int)) qo) (fin 1 I (bw (x:=i) (i+1) sb I ?_ hik qo));show pt g _ ty::hs=_;rw[Lq,List.set_append_left _ _ (by rw[aah];omega),aca _ _ qo,show off+i-eq A=i from qo,hM,Hy hB hik]
 refine ex (xt (xt (xb ?_)));obtain rfl:i=k:=qo
 refine dA I ⟨I,?_⟩
 simp_all [aav,ln,aa6]
def A3{hv:PH}(n:Nat)(v:List UInt8)(ao:Option Addr)(cap:Nat)(hl:eq v<=48)(hin:In K hs hv)(x:aw hv ao (eq v) cap 1 (bv v)):
  aj w0 168 [.int .u64 (n:Nat),.slice ao (eq v) cap] K hs (fun u K' hs'=>K'=K/\hs'=hs/\u=.agg (bv (co n v)).toArray):=by
 have hHl:=xu (n:=n) hl;refine ent Tryz.func168 ?_;refine acI (al 0 (.agg (bv (List.replicate 64 0)).toArray) I qk fun b4=>au ?_);refine al 0 (.agg (bv (List.replicate 64 0)).toArray) I qk fun b5=>au ?_;refine sR 0 (sz:=1) 0 8 I I Tryz.underlying245 qk I I Nn Nn ?_;simp only[bf,abq,aa5];refine cl 1 I (Dr b5 0 8 64 245 n [] (List.replicate 8 0) (List.replicate 56 0) I Nm Nn Nn) ?_;rintro v8 K8 hs8 ⟨rfl,rfl⟩;refine au ?_;refine ar 2 I (ju _) (sW 0 (sz:=1) 8 I Tryz.underlying245 qk I Nn ?_);simp only[bf,aaI,aaf];refine stp 0 0 I I (CD (l:=[]++fa 8 n++List.replicate 56 0) (i:=8) Nm) I ?_
 refine WL.hs (pt b5 (bv (fa 8 n++(UInt8.ofNat (eq v)::List.replicate 55 0))).toArray 245::pt b4 (bv (List.replicate 64 0)).toArray 245::hs) (congrArg (fun z=>pt b5 z 245::pt b4 (bv (List.replicate 64 0)).toArray 245::hs) (by
  rfl)) ?_
 refine au ?_;refine sR 0 (sz:=1) 9 55 I I Tryz.underlying245 qk I I Nn Nn ?_;simp only[bf,aaI,aaf];refine D8 1 0 (eq v) I I I (In.cons (In.cons hin)) x qo (fun u hu=>fM v u (aaW hu)) (by grind [bv,fa]) ?_
 refine WL.hs (pt b5 (bv (gy n v++List.replicate 4 0)).toArray 245::pt b4 (bv (List.replicate 64 0)).toArray 245::hs) (congrArg (fun z=>pt b5 z 245::pt b4 (bv (List.replicate 64 0)).toArray 245::hs) (by
  have e2:List.replicate 55 (0:UInt8)=List.replicate (eq v) 0++(List.replicate (51-eq v) 0++List.replicate 4 0):=by
   grind [List.replicate_append_replicate]
  have e3:fa 8 n++(UInt8.ofNat (eq v)::List.replicate 55 0)=(fa 8 n++[UInt8.ofNat (eq v)])++(List.replicate (eq v) 0++(List.replicate (51-eq v) 0++List.replicate 4 0)):=by rw[<-e2];simp
  grind [LY,gy])) ?_
 refine au ?_;refine bG [] 5 [0,2,5,6,9] Nm qk qk (wC qk 0 (sz:=1) 60 4 I I Tryz.underlying245 qk I I Nn Nn (wC qk 0 (sz:=1) 0 60 I I Tryz.underlying245 qk I I Nn Nn ?_));simp only[bf,aaI,aaf,abq,abT,Nat.reduceSub,Nat.reduceAdd];refine au ?_
 have xH:aw (pt b5 (bv (gy n v++List.replicate 4 0)).toArray 245) (some ⟨b5,0,none⟩) (eq (gy n v)) 64 1 (bv (gy n v)):=by
  have:=rO (g:=b5) (ty:=245) (A:=[]) (B:=gy n v) (C:=List.replicate 4 0) (off:=0) (n:=eq (gy n v)) (cap:=64) rfl rfl qo;simpa using this
 have hsum:=De (w0:=w0) (K:=K8) (hs:=pt b5 (bv (gy n v++List.replicate 4 0)).toArray 245::pt b4 (bv (List.replicate 64 0)).toArray 245::hs) (some ⟨b5,0,none⟩) 64 (gy n v) (.inr ⟨0,rfl⟩) xH qo;rw[hHl] at hsum;refine cl 0 I hsum ?_;rintro v18 K18 hs18 ⟨rfl,rfl,rfl⟩;refine ba Nm I ?_;have hcl:=(lc (gy n v)).isLt;refine bA qk 0 I (bL qo) (au ?_);have hlay:=Dr (w0:=w0) (K:=K18) (hs:=pt b4 (bv (List.replicate 64 0)).toArray 245::hs) b5 60 4 4 245 (lc (gy n v)).toNat (gy n v) (List.replicate 4 0) [] hHl.symm Nm Nn Nn;rw[aar,aar] at hlay;refine cl 0 I hlay ?_;rintro v20 K20 hs20 ⟨rfl,rfl⟩;have hsl:eq (co n v)=64:=nc hl;have hss:(bv (co n v)).toArray.size=64:=by simp[bv,hsl]
 refine ba Nm I (aM qk 0 I (acF (fh 0 0 I I (by show iA Tryz.prog _ (bv (co n v)).toArray.size=true;rw[hss];kernel_rfl) ?_)));refine bJ 0 1 I I (by show _=some (bv (co n v)).toArray.size;rw[hss];kernel_rfl) (by simp_all [bv,co]) (by simp only[acw,aaV];first|exact fM (co n v)|(simp;intro u hu;exact fM (co n v) u hu)) ?_;exact fin 0 I (acK (WQ.drop (jJ 0 1 I I I (by show iA Tryz.prog _ (bv (co n v)).toArray.size=true;rw[hss];kernel_rfl) ⟨rfl,rfl,rfl⟩)))
end
section
abbrev fv(g:Nat):Value:=.func (.func g) #[] #[]
abbrev fc(g b:Nat):Value:=.func (.func g) #[] #[cX b]
abbrev jq(b:Nat):List Value:=[fc 229 b,fc 230 b,fc 231 b]
abbrev rK(b:Nat):List Value:=[fc 238 b,fc 239 b,fc 240 b]
abbrev vU:List Value:=[fv 232,fv 233,fv 234]
abbrev CY:List Value:=[fv 235,fv 236,fv 237]
abbrev Db:List Value:=[fv 241,fv 242,fv 243]
abbrev C8:List Value:=[fv 244,fv 245,fv 246]
def sP(K:PH)(g:Nat)(cs:List Value):Prop:=∃ b,K b=some (ie 262 g)/\cs=jq b
def CF(K:PH)(g:Nat)(cs:List Value):Prop:=∃ b,K b=some (ie 265 g)/\cs=rK b
def FV(K:PH)(cs:List Value):bT->Prop
 | .idx=>sP K 181 cs
 | .lt=>sP K 182 cs
 | .com=>sP K 184 cs
 | .rnd=>sP K 185 cs
 | .off=>CF K 188 cs
 | .whole=>CF K 189 cs
 | .good=>cs=vU
 | .ents=>cs=CY
 | .vot=>cs=Db
 | .data=>cs=C8
def iM{K':PH}{b ty g:Nat}(l:Le (pt b #[fv g] ty) K'):K' b=some (ie ty g):=l _ _ Nm
def i4(K:PH)(ao:Option Addr)(cap:Nat)(fs:List bT):Prop:=∃ css:List (List Value),aw K ao (eq fs) cap 3 css.flatten/\dP (FV K) css fs
def i4.mk{K':PH}{b n:Nat}{css:List (List Value)}{fs:List bT}(hn:eq fs=n)(h:dP (FV K') css fs)(hc:eq css.flatten=n*3)(h':n<=10)(l:Le (pt b css.flatten.toArray 214) K'):i4 K' (some ⟨b,0,none⟩) n fs:=by
 subst hn;refine ⟨css,?_,h⟩;have:=(aZ.ofPt (b:=b) (c:=css.flatten.toArray) (e:=214) (n:=eq fs) (size:=3) (by simpa using hc) (by simp only[maxLen];omega)).isS.le l;simpa using this
def jK(g:Nat):aj w0 180 [fv g] K hs
  (fun v K' hs'=>K'=K/\∃ b,hs'=pt b #[fv g] 262::hs/\v=.agg #[fc 229 b,fc 230 b,fc 231 b]):=by
 refine enter Tryz.func180 qk I I I (acI (bx 0 I fun b1=>al 0 (.agg #[.nilFunc,.nilFunc,.nilFunc]) I qk fun b2=>fin 0 I (acF (bd 3 (.agg #[fc 229 b1,fc 230 b1,fc 231 b1]) I (fun w=>by kernel_rfl) ?_))));refine bJ 0 0 I I qk I I ?_;exact fin 0 I (acK (jJ 0 1 I I I qk ⟨I,b1,I,I⟩))
def vM(g:Nat):aj w0 187 [fv g] K hs
  (fun v K' hs'=>K'=K/\∃ b,hs'=pt b #[fv g] 265::hs/\v=.agg #[fc 238 b,fc 239 b,fc 240 b]):=by
 refine enter Tryz.func187 qk I I I (acI (bx 0 I fun b1=>al 0 (.agg #[.nilFunc,.nilFunc,.nilFunc]) I qk fun b2=>fin 0 I (acF (bd 3 (.agg #[fc 238 b1,fc 239 b1,fc 240 b1]) I (fun w=>by kernel_rfl) ?_))));refine bJ 0 0 I I qk I I ?_;exact fin 0 I (acK (jJ 0 1 I I I qk ⟨I,b1,I,I⟩))
def Cj:aj w0 183 [] K hs
  (fun v K' hs'=>K'=K/\hs'=hs/\v=.agg #[fv 232,fv 233,fv 234]):=by
 refine enter Tryz.func183 qk I I I (acI (al 0 (.agg #[.nilFunc,.nilFunc,.nilFunc]) I qk fun b0=>fin 0 I (acF (bd 0 (.agg #[fv 232,fv 233,fv 234]) I (fun w=>by kernel_rfl) ?_))));refine bJ 0 0 I I qk I I ?_;exact fin 0 I (acK (jJ 0 1 I I I qk ⟨I,I,I⟩))
def GI:aj w0 186 [] K hs
  (fun v K' hs'=>K'=K/\hs'=hs/\v=.agg #[fv 235,fv 236,fv 237]):=by
 refine enter Tryz.func186 qk I I I (acI (al 0 (.agg #[.nilFunc,.nilFunc,.nilFunc]) I qk fun b0=>fin 0 I (acF (bd 0 (.agg #[fv 235,fv 236,fv 237]) I (fun w=>by kernel_rfl) ?_))));refine bJ 0 0 I I qk I I ?_;exact fin 0 I (acK (jJ 0 1 I I I qk ⟨I,I,I⟩))
def G0:aj w0 190 [] K hs
  (fun v K' hs'=>K'=K/\hs'=hs/\v=.agg #[fv 241,fv 242,fv 243]):=by
 refine enter Tryz.func190 qk I I I (acI (al 0 (.agg #[.nilFunc,.nilFunc,.nilFunc]) I qk fun b0=>fin 0 I (acF (bd 0 (.agg #[fv 241,fv 242,fv 243]) I (fun w=>by kernel_rfl) ?_))));refine bJ 0 0 I I qk I I ?_;exact fin 0 I (acK (jJ 0 1 I I I qk ⟨I,I,I⟩))
def Lc:aj w0 191 [] K hs
  (fun v K' hs'=>K'=K/\hs'=hs/\v=.agg #[fv 244,fv 245,fv 246]):=by
 refine enter Tryz.func191 qk I I I (acI (al 0 (.agg #[.nilFunc,.nilFunc,.nilFunc]) I qk fun b0=>fin 0 I (acF (bd 0 (.agg #[fv 244,fv 245,fv 246]) I (fun w=>by kernel_rfl) ?_))));refine bJ 0 0 I I qk I I ?_;exact fin 0 I (acK (jJ 0 1 I I I qk ⟨I,I,I⟩))
def H2(m:aB)(p:MA):((((((((((m.idx:Nat):Int)=0/\((m.lt:Nat):Int)=0)/\((m.com:Nat):Int)=0)/\((m.rnd:Nat):Int)=0)/\¬m.good=true)/\m.off=0)/\m.whole=0)/\((eq m.ents:Nat):Int)=0)/\((eq m.vot:Nat):Int)=0)/\((eq m.data:Nat):Int)=0↔jo m:=by
 simp[and_assoc,jo]
def JD(k:Int):aj w0 130 [.int .i64 k] K hs
  (fun v K' hs'=>Le K K'/\hs'=hs/\∃ ao cap,v=.slice ao (eq (cJ k)) cap/\i4 K' ao cap (cJ k)):=by
 refine enter Tryz.func130 qk I I I<|acI<|fin 1 I (acE (fin 1 I<|th (bk<|acI (ai 0 I fun b5 h5=>fin 1 I<|th (ax h5 I (fun e2=>?_) (fun e2=>?_))))))
 ·refine acI (cl 0 I (jK 181) ?_);rintro v6 K6 hs6 ⟨rfl,c6,rfl,rfl⟩;refine cl 0 I (jK 182) ?_;rintro v7 K7 hs7 ⟨rfl,c7,rfl,rfl⟩;refine lit 0 #[fc 229 c6,fc 230 c6,fc 231 c6,fc 229 c7,fc 230 c7,fc 231 c7] I Nn qk fun b8=>fin 1 I (acK (rB (rT (WQ.frz fun KL leKL leHL=>(WQ.frz fun K7 leK7 leH7=>(WQ.frz fun K6 leK6 leH6=>?_))))));exact ah I I ⟨((leKL.trans leK7).trans leK6),I,some ⟨b8,0,none⟩,2,by rw[cJ,aab e2];rfl,by rw[cJ,aab e2];exact i4.mk (css:=[jq c6,jq c7]) I ⟨⟨c6,iM leH6,I⟩,⟨c7,iM (leH7.trans leK6),I⟩,trivial⟩ I Nn ((leHL.trans leK7).trans leK6)⟩
 refine acI (ai 0 I fun b10 h10=>fin 1 I<|th (ax h10 I (fun e4=>?_) (fun e4=>?_)))
 ·refine acI (cl 0 I Cj ?_);rintro v11 K11 hs11 ⟨rfl,rfl,rfl⟩;refine lit 0 #[fv 232,fv 233,fv 234] I Nn qk fun b12=>fin 1 I (acK (rB (rT (WQ.frz fun KL leKL leHL=>?_))));exact ah I I ⟨leKL,I,some ⟨b12,0,none⟩,1,by rw[cJ,aaa e2,aab e4];rfl,by rw[cJ,aaa e2,aab e4];exact i4.mk (css:=[vU]) I sb I Nn leHL⟩
 refine acI (ai 0 I fun b14 h14=>fin 1 I<|th (ax h14 I (fun e6=>?_) (fun e6=>?_)))
 ·refine acI (cl 0 I (jK 181) ?_);rintro v15 K15 hs15 ⟨rfl,c15,rfl,rfl⟩;refine cl 0 I (jK 182) ?_;rintro v16 K16 hs16 ⟨rfl,c16,rfl,rfl⟩;refine cl 0 I (jK 184) ?_;rintro v17 K17 hs17 ⟨rfl,c17,rfl,rfl⟩;refine cl 0 I (jK 185) ?_;rintro v18 K18 hs18 ⟨rfl,c18,rfl,rfl⟩;refine cl 0 I GI ?_;rintro v19 K19 hs19 ⟨rfl,rfl,rfl⟩;refine lit 0 #[fc 229 c15,fc 230 c15,fc 231 c15,fc 229 c16,fc 230 c16,fc 231 c16,fc 229 c17,fc 230 c17,fc 231 c17,fc 229 c18,fc 230 c18,fc 231 c18,fv 235,fv 236,fv 237] I Nn qk fun b20=>fin 1 I (acK (rB (rT (WQ.frz fun KL leKL leHL=>(WQ.frz fun K18 leK18 leH18=>(WQ.frz fun K17 leK17 leH17=>(WQ.frz fun K16 leK16 leH16=>(WQ.frz fun K15 leK15 leH15=>?_))))))));exact ah I I ⟨((((leKL.trans leK18).trans leK17).trans leK16).trans leK15),I,some ⟨b20,0,none⟩,5,by rw[cJ,aaa e2,aaa e4,aab e6];rfl,by rw[cJ,aaa e2,aaa e4,aab e6];exact i4.mk (css:=[jq c15,jq c16,jq c17,jq c18,CY]) I ⟨⟨c15,iM leH15,I⟩,⟨c16,iM (leH16.trans leK15),I⟩,⟨c17,iM ((leH17.trans leK16).trans leK15),I⟩,⟨c18,iM (((leH18.trans leK17).trans leK16).trans leK15),I⟩,I,trivial⟩ I Nn ((((leHL.trans leK18).trans leK17).trans leK16).trans leK15)⟩
 refine acI (ai 0 I fun b22 h22=>fin 1 I<|th (ax h22 I (fun e8=>?_) (fun e8=>?_)))
 ·refine acI (cl 0 I Cj ?_);rintro v23 K23 hs23 ⟨rfl,rfl,rfl⟩;refine cl 0 I (jK 181) ?_;rintro v24 K24 hs24 ⟨rfl,c24,rfl,rfl⟩;refine cl 0 I (jK 185) ?_;rintro v25 K25 hs25 ⟨rfl,c25,rfl,rfl⟩;refine lit 0 #[fv 232,fv 233,fv 234,fc 229 c24,fc 230 c24,fc 231 c24,fc 229 c25,fc 230 c25,fc 231 c25] I Nn qk fun b26=>fin 1 I (acK (rB (rT (WQ.frz fun KL leKL leHL=>(WQ.frz fun K25 leK25 leH25=>(WQ.frz fun K24 leK24 leH24=>?_))))));exact ah I I ⟨((leKL.trans leK25).trans leK24),I,some ⟨b26,0,none⟩,3,by rw[cJ,aaa e2,aaa e4,aaa e6,aab e8];rfl,by rw[cJ,aaa e2,aaa e4,aaa e6,aab e8];exact i4.mk (css:=[vU,jq c24,jq c25]) I ⟨I,⟨c24,iM leH24,I⟩,⟨c25,iM (leH25.trans leK24),I⟩,trivial⟩ I Nn ((leHL.trans leK25).trans leK24)⟩
 refine acI (ai 0 I fun b28 h28=>fin 1 I<|th (ax h28 I (fun e10=>?_) (fun e10=>?_)))
 ·refine acI (cl 0 I (jK 181) ?_);rintro v29 K29 hs29 ⟨rfl,c29,rfl,rfl⟩;refine cl 0 I (jK 182) ?_;rintro v30 K30 hs30 ⟨rfl,c30,rfl,rfl⟩;refine cl 0 I (vM 188) ?_;rintro v31 K31 hs31 ⟨rfl,c31,rfl,rfl⟩;refine cl 0 I (vM 189) ?_;rintro v32 K32 hs32 ⟨rfl,c32,rfl,rfl⟩;refine cl 0 I G0 ?_;rintro v33 K33 hs33 ⟨rfl,rfl,rfl⟩;refine cl 0 I Lc ?_;rintro v34 K34 hs34 ⟨rfl,rfl,rfl⟩;refine lit 0 #[fc 229 c29,fc 230 c29,fc 231 c29,fc 229 c30,fc 230 c30,fc 231 c30,fc 238 c31,fc 239 c31,fc 240 c31,fc 238 c32,fc 239 c32,fc 240 c32,fv 241,fv 242,fv 243,fv 244,fv 245,fv 246] I Nn qk fun b35=>fin 1 I (acK (rB (rT (WQ.frz fun KL leKL leHL=>(WQ.frz fun K32 leK32 leH32=>(WQ.frz fun K31 leK31 leH31=>(WQ.frz fun K30 leK30 leH30=>(WQ.frz fun K29 leK29 leH29=>?_))))))));exact ah I I ⟨((((leKL.trans leK32).trans leK31).trans leK30).trans leK29),I,some ⟨b35,0,none⟩,6,by rw[cJ,aaa e2,aaa e4,aaa e6,aaa e8,aab e10];rfl,by rw[cJ,aaa e2,aaa e4,aaa e6,aaa e8,aab e10];exact i4.mk (css:=[jq c29,jq c30,rK c31,rK c32,Db,C8]) I ⟨⟨c29,iM leH29,I⟩,⟨c30,iM (leH30.trans leK29),I⟩,⟨c31,iM ((leH31.trans leK30).trans leK29),I⟩,⟨c32,iM (((leH32.trans leK31).trans leK30).trans leK29),I⟩,I,I,trivial⟩ I Nn ((((leHL.trans leK32).trans leK31).trans leK30).trans leK29)⟩
 refine acI (ai 0 I fun b37 h37=>fin 1 I<|th (ax h37 I (fun e12=>?_) (fun e12=>?_)))
 ·refine acI (cl 0 I (jK 181) ?_);rintro v38 K38 hs38 ⟨rfl,c38,rfl,rfl⟩;refine cl 0 I (vM 188) ?_;rintro v39 K39 hs39 ⟨rfl,c39,rfl,rfl⟩;refine lit 0 #[fc 229 c38,fc 230 c38,fc 231 c38,fc 238 c39,fc 239 c39,fc 240 c39] I Nn qk fun b40=>fin 1 I (acK (rB (rT (WQ.frz fun KL leKL leHL=>(WQ.frz fun K39 leK39 leH39=>(WQ.frz fun K38 leK38 leH38=>?_))))));exact ah I I ⟨((leKL.trans leK39).trans leK38),I,some ⟨b40,0,none⟩,2,by rw[cJ,aaa e2,aaa e4,aaa e6,aaa e8,aaa e10,aab e12];rfl,by rw[cJ,aaa e2,aaa e4,aaa e6,aaa e8,aaa e10,aab e12];exact i4.mk (css:=[jq c38,rK c39]) I ⟨⟨c38,iM leH38,I⟩,⟨c39,iM (leH39.trans leK38),I⟩,trivial⟩ I Nn ((leHL.trans leK39).trans leK38)⟩
 refine sk (bl (acF (fin 1 I (acK ?_))));exact ah I I ⟨Le.refl _,I,none,0,by rw[cJ,aaa e2,aaa e4,aaa e6,aaa e8,aaa e10,aaa e12];rfl,[],by rw[cJ,aaa e2,aaa e4,aaa e6,aaa e8,aaa e10,aaa e12];exact aw.nil _ _ _ _,by rw[cJ,aaa e2,aaa e4,aaa e6,aaa e8,aaa e10,aaa e12];trivial⟩
def A7{w0:World}{K:PH}{hs:List PH}(n:Int):aj w0 131 [.int .i64 n] K hs (fun v K' hs'=>K'=K/\hs'=hs/\∃ t:Bool,v=.bool t/\(t=true↔nG n)):=by
 refine enter Tryz.func131 qk I I I<|acI<|fin 1 I (acF (ai 1 I fun b4 h4=>?_))
 refine' dU 1 3 8 [4,5] h4 I I I I I I I (fun _=>?x2) (fun b8 h8=>?_)
 case x2=>
  exact ai 1 I fun b7 h7=>fin 1 I<|bK h7 I I I
 exact fin 1 I<|acK<|ah I I ⟨I,I,b8,I,h8⟩
def L6{w0:World}{K:PH}{hs:List PH}(m:aB)(p:MA):aj w0 133 [.agg (mv m p)] K hs (fun v K' hs'=>K'=K/\hs'=hs/\∃ t:Bool,v=.bool t/\(t=true↔jo m)):=by
 refine enter Tryz.func133 qk I I I<|acI (bx 0 I fun b1=>fin 1 I<|acF (a9 1 0 I I I (ai 0 I fun b5 h5=>?_)))
 refine' dU 1 4 10 [5,6] h5 I I I I I I I (fun _=>?x2) (fun b10 h10=>?_)
 case x2=>
  exact a9 1 0 I I I (ai 0 I fun b9 h9=>fin 1 I<|bK h9 I I I)
 refine' dU 1 4 15 [10,11] h10 I I I I I I I (fun _=>?x4) (fun b15 h15=>?_)
 case x4=>
  exact a9 1 0 I I I (ai 0 I fun b14 h14=>fin 1 I<|bK h14 I I I)
 refine' dU 1 4 20 [15,16] h15 I I I I I I I (fun _=>?x6) (fun b20 h20=>?_)
 case x6=>
  exact a9 1 0 I I I (ai 0 I fun b19 h19=>fin 1 I<|bK h19 I I I)
 refine' dU 1 4 25 [20,21] h20 I I I I I I I (fun _=>?x8) (fun b25 h25=>?_)
 case x8=>
  exact a9 1 0 I I I (oO fun b23 h23=>dE 0 _ I (kU h23) fun b24 h24=>fin 1 I<|bK h24 I I I)
 refine' dU 1 4 30 [25,26] h25 I I I I I I I (fun _=>?x9) (fun b30 h30=>?_)
 case x9=>
  exact a9 1 0 I I I (ai 0 I fun b29 h29=>fin 1 I<|bK h29 I I I)
 refine' dU 1 4 35 [30,31] h30 I I I I I I I (fun _=>?x11) (fun b35 h35=>?_)
 case x11=>
  exact a9 1 0 I I I (ai 0 I fun b34 h34=>fin 1 I<|bK h34 I I I)
 refine' dU 1 5 41 [35,36] h35 I I I I I I I (fun _=>?x13) (fun b41 h41=>?_)
 case x13=>
  exact a9 1 0 I I I (ai 1 I fun b40 h40=>fin 1 I<|bK h40 I I I)
 refine' dU 1 5 47 [41,42] h41 I I I I I I I (fun _=>?x15) (fun b47 h47=>?_)
 case x15=>
  exact a9 1 0 I I I (ai 1 I fun b46 h46=>fin 1 I<|bK h46 I I I)
 refine' dU 1 5 53 [47,48] h47 I I I I I I I (fun _=>?x17) (fun b53 h53=>?_)
 case x17=>
  exact a9 1 0 I I I (ai 1 I fun b52 h52=>fin 1 I<|bK h52 I I I)
 exact fin 1 I<|acK<|WQ.drop (ah I I ⟨I,I,b53,I,h53.trans (H2 m p)⟩)
def KX{h1 h2:PH}(a1 a2:Option Addr)(c1 c2:Nat)(l1 l2:List UInt8)(m1:In K hs h1)(m2:In K hs h2)(x1:aw h1 a1 (eq l1) c1 1 (bv l1))(x2:aw h2 a2 (eq l2) c2 1 (bv l2))(hl:eq l1<1099511627776):
  aj w0 169 [.slice a1 (eq l1) c1,.slice a2 (eq l2) c2] K hs (fun v K' hs'=>K'=K/\hs'=hs/\∃ b:Bool,v=.bool b/\(b=true↔l1=l2)):=by
 refine cB Tryz.func169 ?_;refine bh 4 I (fun e2=>?_) (fun e2=>?_)
 ·refine au ?_;exact ah I I ⟨I,I,false,I,by simp;intro h;subst h;exact e2 I⟩
 refine au ?_;have hll:eq l1=eq l2:=qo
 refine au ?_;refine loop (σ:=Nat) (fun i=>[(0,.slice a1 (eq l1) c1),(1,.slice a2 (eq l2) c2),(12,.int .i64 (eq l1:Nat)),(13,.int .i64 (i:Nat))]) (fun _=>K) (fun _=>hs) (fun i=>i<=eq l1/\l1.take i=l2.take i) (fun i=>eq l1-i) 0 ⟨aad _,I⟩ ⟨I,I,I,I,trivial⟩ I I ?_;rintro i ⟨hi,he⟩;refine acI (bh 0 I (fun e4=>?_) (fun e4=>?_))
 ·refine au ?_;have hi1:i<eq l1:=qo
  refine au ?_;have hi2:i<eq l2:=qo
  obtain ⟨a1,rfl⟩:=x1.addr hi1 Nn;obtain ⟨a2,rfl⟩:=x2.addr hi2 Nn;obtain ⟨a1',ha1,hc1⟩:=x1.2.2 i _ (pU hi1);obtain ⟨a2',ha2,hc2⟩:=x2.2.2 i _ (pU hi2);cases ha1;cases ha2;refine au ?_;refine bG hs 9 [0,2,4,6,8,10,12,14,16] Nm qk qk (bt qk 2 i I I hi1 (jS qk 0 I m1 (by simpa using hc1) (bt qk 2 i I I hi2 (jS qk 0 I m2 (by simpa using hc2) (dC qk 0 (((l1[i].toNat:Nat):Int)≠(l2[i].toNat:Nat)) I Nm fun b24 h24=>au ?_)))));refine ax h24 I (fun e5=>?_) (fun e5=>?_)
  ·refine au ?_;exact ah I I ⟨I,I,false,I,by simp;intro h;subst h;exact e5 I⟩
  refine sk (acG (ar 0 I (aC qo) (fin 1 I ?_)));exact bw (x:=i) (i+1) sb I I ⟨qo,by rw[lY l1 i hi1,lY l2 i hi2,he,ab7.1 (abe.1 (Decidable.not_not.1 e5))]⟩ qo
 refine au ?_;obtain rfl:i=eq l1:=qo
 refine au ?_;exact ah I I ⟨I,I,true,I,by grind⟩
def IS{m:aB}{f:bT}(h:f.pok m)(hbd:m.bd):eq (f.pby m)<=2200:=by
 have hmx:ac=18446744073709551615:=rfl;have e1:=dH (n:=m.idx) (by have:=hbd.idx;omega);have e2:=dH (n:=m.lt) (by have:=hbd.lt;omega);have e3:=dH (n:=m.com) (by have:=hbd.com;omega);have e4:=dH (n:=m.rnd) (by have:=hbd.rnd;omega);have e5:=dH (ur m.off);have e6:=dH (ur m.whole);cases f
 case idx=>simp only[bT.pby];omega
 case lt=>simp only[bT.pby];omega
 case com=>simp only[bT.pby];omega
 case rnd=>simp only[bT.pby];omega
 case off=>simp only[bT.pby];omega
 case whole=>simp only[bT.pby];omega
 case good=>simp[bT.pby]
 case ents=>
  obtain ⟨h1,h2⟩:=h;have h3:=td m.idx m.ents 0 h1 (fun e he=>⟨(hbd.ents e he).1,(hbd.ents e he).2.1⟩)
  grind [dH,bT.pby]
 case vot=>grind [xU,bT.pby]
 case data=>
  have h1:=h.1
  grind [dH,bT.pby,cm]
theorem tM{m:aB}(hbd:m.bd):∀ {fs:List bT},(∀ f∈fs,f.pok m)->eq (f9 m fs)<=2200*eq fs
 | [],_=>by simp[f9]
 | f::fs,h=>by
  have h1:=IS (h f Nm) hbd;have h2:=tM hbd (fs:=fs) (fun x hx=>h x (by simp[hx]));simp only[f9,aah,aan];omega
theorem xc(m:aB):∀ l r:List bT,f9 m (l++r)=f9 m l++f9 m r
 | [],r=>rfl
 | f::l,r=>by simp[xc,f9]
theorem xi:∀ (l r:List bT) (m:aB),gY (l++r) m=gY r (gY l m)
 | [],r,m=>rfl
 | f::l,r,m=>by simp[xi,gY]
theorem xz(k:Int):eq (cJ k)<=6:=by
 unfold cJ
 repeat' split
 all_goals simp
def EC{k:Int}(h:cJ k≠[]):1<=k/\k<=6:=by
 unfold cJ at h
 grind
theorem Bx(m:aB)(hbd:m.bd):eq (fD m)<=13:=by
 have hmx:ac=18446744073709551615:=rfl;have e1:=dH (n:=m.term) (by have:=hbd.term;omega);simp only[fD,aan];omega
def HZ{m:aB}(hbd:m.bd)(h:∀ f∈cJ m.kind,f.pok m):eq m.body<=20000:=by
 grind [tM,xz,Bx,aB.body]
def wZ(l:List bT)(i:Nat)(h:i<eq l)(d:bT):l.take (i+1)=l.take i++[l.getD i d]:=by
 simp_all
def wk(K:PH)(f:bT)(g:Nat)(cap:Array Value):Prop:=∀ (w0:World) (h:PH) (R:List PH) (mb:Nat) (m:aB) (p:MA) (ao:Option Addr) (c1:Nat) (bs:List UInt8),aZ h ao (eq bs) c1 5 1 (bv bs)->eq bs<68719476736->dr K m p->m.bd ->
 aj w0 g ([.slice ao (eq bs) c1,cX mb]++cap.toList) K (h::pt mb (mv m p) 34::R) (oq f m bs (pt mb (mv m p) 34::R) K)
def wn(K:PH)(f:bT)(g:Nat)(cap:Array Value):Prop:=∀ (w0:World) (R:List PH) (mb:Nat) (m:aB) (p:MA),dr K m p ->
 aj w0 g ([cX mb]++cap.toList) K (pt mb (mv m p) 34::R) (fun v K' hs'=>∃ h',hs'=h'::R/\K'=K/\∃ p',h'=pt mb (mv (f.clr m) p') 34/\dr K (f.clr m) p')
def wm(K:PH)(f:bT)(g:Nat)(cap:Array Value):Prop:=∀ (w0:World) (h hb:PH) (R:List PH) (rb mb ii:Nat) (m:aB) (p:MA) (s:Rd),(f=.ents->m.ents=[]/\p.ae=none/\p.ce=0)->R[ii]?=some hb->eq s.1<1099511627776->ej rb hb s h->dr K m p ->
 aj w0 g ([cX rb,cX mb]++cap.toList) K (h::pt mb (mv m p) 34::R) (qh f s m p rb mb hb R K)
def rp{g off cb:Nat}{f:bT}(hs:∀ w0,gE w0 g off)(hc:K cb=some (ie 262 g))(n:aB->Nat)(hn:∀ m:aB,m.bd->n m<=ac)(hv:∀ m p,(mv m p)[off]?=some (.int .u64 (n m:Nat)))(hok:∀ m,f.pok m)(hby:∀ m,f.pby m=aI (n m)):
  wk K f 229 #[cX cb]:=by
 intro w0 h R mb m p ao c1 bs o hb hS hbd;refine (KI m p ao c1 bs o hb (hs w0) hc (n m) (hn m hbd) (hv m p)).mono ?_;rintro v K' hs' ⟨rfl,h',ao',c',rfl,rfl,o'⟩;exact ⟨I,h',ao',c',_,true,I,I,⟨fun _=>hok m,fun _=>I⟩,fun _=>by rw[hby],o'⟩
def yW{g off cb:Nat}{f:bT}(hs:∀ w0,gE w0 g off)(hc:K cb=some (ie 265 g))(n:aB->Int)(hv:∀ m p,(mv m p)[off]?=some (.int .i64 (n m)))(hok:∀ m,f.pok m↔0<=n m/\n m<=2097152)(hby:∀ m,f.pby m=aI (jI (n m))):
  wk K f 238 #[cX cb]:=by
 intro w0 h R mb m p ao c1 bs o hb hS hbd;refine (Hl m p ao c1 bs o hb (hs w0) hc (n m) (hv m p)).mono ?_;rintro v K' hs' ⟨rfl,h',ao',c',t,rfl,rfl,ht,o'⟩;exact ⟨I,h',ao',c',_,t,I,I,ht.trans (hok m).symm,fun _=>by rw[hby],o'⟩
def ry{g off cb:Nat}{f:bT}(hs:∀ w0,gE w0 g off)(hc:K cb=some (ie 262 g))(hv:∀ m p,∃ u,(mv m p)[off]?=some u)(hm:∀ m p,(mv m p).setIfInBounds off (.int .u64 0)=mv (f.clr m) p)(hS':∀ m p,dr K m p->dr K (f.clr m) p):
  wn K f 231 #[cX cb]:=by
 intro w0 R mb m p hS;obtain ⟨u,hu⟩:=hv m p;refine (KK (mv m p) (hs w0) hc u hu).mono ?_;rintro v K' hs' ⟨rfl,rfl⟩;exact ⟨_,I,I,p,by rw[hm],hS' m p hS⟩
def zm{g off cb:Nat}{f:bT}(hs:∀ w0,gE w0 g off)(hc:K cb=some (ie 265 g))(hv:∀ m p,∃ u,(mv m p)[off]?=some u)(hm:∀ m p,(mv m p).setIfInBounds off (.int .i64 0)=mv (f.clr m) p)(hS':∀ m p,dr K m p->dr K (f.clr m) p):
  wn K f 240 #[cX cb]:=by
 intro w0 R mb m p hS;obtain ⟨u,hu⟩:=hv m p;refine (Hn (mv m p) (hs w0) hc u hu).mono ?_;rintro v K' hs' ⟨rfl,rfl⟩;exact ⟨_,I,I,p,by rw[hm],hS' m p hS⟩
def ru{g off cb:Nat}{f:bT}(hs:∀ w0,gE w0 g off)(hc:K cb=some (ie 262 g))(hv:∀ m p,∃ u,(mv m p)[off]?=some u)(hm:∀ s m p,(mv m p).setIfInBounds off (.int .u64 ((aG ac s).1:Nat))=mv (f.get s m).2 p)(hr:∀ s m,(f.get s m).1=(aG ac s).2)(hS':∀ s m p,dr K m p->dr K (f.get s m).2 p):
  wm K f 230 #[cX cb]:=by
 intro w0 h hb R rb mb ii m p s _ hR hl rd hS;obtain ⟨u,hu⟩:=hv m p;refine (KJ (.inr ⟨ii+1,hR⟩) s hl rd (hs w0) hc u hu).mono ?_;rintro v K' hs' ⟨rfl,h',rfl,rd'⟩;exact ⟨Le.refl _,h',p,by rw[hm],by rw[hr];exact rd',hS' s m p hS,fun _=>⟨I,I⟩⟩
def zc{g off cb:Nat}{f:bT}(hs:∀ w0,gE w0 g off)(hc:K cb=some (ie 265 g))(hv:∀ m p,∃ u,(mv m p)[off]?=some u)(hm:∀ s m p,(mv m p).setIfInBounds off (.int .i64 ((aG 2097152 s).1:Nat))=mv (f.get s m).2 p)(hr:∀ s m,(f.get s m).1=(aG 2097152 s).2)(hS':∀ s m p,dr K m p->dr K (f.get s m).2 p):
  wm K f 239 #[cX cb]:=by
 intro w0 h hb R rb mb ii m p s _ hR hl rd hS;obtain ⟨u,hu⟩:=hv m p;refine (Hm (.inr ⟨ii+1,hR⟩) s hl rd (hs w0) hc u hu).mono ?_;rintro v K' hs' ⟨rfl,h',rfl,rd'⟩;exact ⟨Le.refl _,h',p,by rw[hm],by rw[hr];exact rd',hS' s m p hS,fun _=>⟨I,I⟩⟩
def rz{f:bT}{g mb:Nat}{args:List Value}{R:List PH}{m:aB}{p:MA}(c:aj w0 g args K (pt mb (mv m p) 34::R) (qi f m mb R K)):
  aj w0 g args K (pt mb (mv m p) 34::R) (fun v K' hs'=>∃ h',hs'=h'::R/\K'=K/\∃ p',h'=pt mb (mv (f.clr m) p') 34/\dr K (f.clr m) p'):=
 c.mono fun v K' hs' ⟨h1,p',h2,h3⟩=>⟨_,h2,h1,p',rfl,h3⟩
def FV.fns{cs:List Value}{f:bT}(h:FV K cs f):∃ g1 c1 g2 c2 g3 c3,cs=[.func (.func g1) #[] c1,.func (.func g2) #[] c2,.func (.func g3) #[] c3]/\wk K f g1 c1/\wm K f g2 c2/\wn K f g3 c3:=by
 cases f
 case idx=>
  obtain ⟨b,hc,rfl⟩:=h
  exact ⟨_,_,_,_,_,_,I,rp (fun w0=>t6) hc (·.idx) (fun m h=>h.idx) (fun m p=>I) (fun m=>trivial) (fun m=>I),
   ru (fun w0=>t6) hc (fun m p=>⟨_,rfl⟩) (fun s m p=>rfl) (fun s m=>rfl) (fun s m p h=>h),ry (fun w0=>t6) hc (fun m p=>⟨_,rfl⟩) (fun m p=>rfl) (fun m p h=>h)⟩
 case lt=>
  obtain ⟨b,hc,rfl⟩:=h
  exact ⟨_,_,_,_,_,_,I,rp (fun w0=>tm) hc (·.lt) (fun m h=>h.lt) (fun m p=>I) (fun m=>trivial) (fun m=>I),
   ru (fun w0=>tm) hc (fun m p=>⟨_,rfl⟩) (fun s m p=>rfl) (fun s m=>rfl) (fun s m p h=>h),ry (fun w0=>tm) hc (fun m p=>⟨_,rfl⟩) (fun m p=>rfl) (fun m p h=>h)⟩
 case com=>
  obtain ⟨b,hc,rfl⟩:=h
  exact ⟨_,_,_,_,_,_,I,rp (fun w0=>tD) hc (·.com) (fun m h=>h.com) (fun m p=>I) (fun m=>trivial) (fun m=>I),
   ru (fun w0=>tD) hc (fun m p=>⟨_,rfl⟩) (fun s m p=>rfl) (fun s m=>rfl) (fun s m p h=>h),ry (fun w0=>tD) hc (fun m p=>⟨_,rfl⟩) (fun m p=>rfl) (fun m p h=>h)⟩
 case rnd=>
  obtain ⟨b,hc,rfl⟩:=h
  exact ⟨_,_,_,_,_,_,I,rp (fun w0=>tZ) hc (·.rnd) (fun m h=>h.rnd) (fun m p=>I) (fun m=>trivial) (fun m=>I),
   ru (fun w0=>tZ) hc (fun m p=>⟨_,rfl⟩) (fun s m p=>rfl) (fun s m=>rfl) (fun s m p h=>h),ry (fun w0=>tZ) hc (fun m p=>⟨_,rfl⟩) (fun m p=>rfl) (fun m p h=>h)⟩
 case off=>
  obtain ⟨b,hc,rfl⟩:=h
  exact ⟨_,_,_,_,_,_,I,yW (fun w0=>tC) hc (·.off) (fun m p=>I) (fun m=>Iff.rfl) (fun m=>I),
   zc (fun w0=>tC) hc (fun m p=>⟨_,rfl⟩) (fun s m p=>rfl) (fun s m=>rfl) (fun s m p h=>h),zm (fun w0=>tC) hc (fun m p=>⟨_,rfl⟩) (fun m p=>rfl) (fun m p h=>h)⟩
 case whole=>
  obtain ⟨b,hc,rfl⟩:=h
  exact ⟨_,_,_,_,_,_,I,yW (fun w0=>tY) hc (·.whole) (fun m p=>I) (fun m=>Iff.rfl) (fun m=>I),
   zc (fun w0=>tY) hc (fun m p=>⟨_,rfl⟩) (fun s m p=>rfl) (fun s m=>rfl) (fun s m p h=>h),zm (fun w0=>tY) hc (fun m p=>⟨_,rfl⟩) (fun m p=>rfl) (fun m p h=>h)⟩
 case good=>
  subst h;exact ⟨_,_,_,_,_,_,I,fun w0 h R mb m p ao c1 bs o hb hS hbd=>Jv m p ao c1 bs o hb,fun w0 h hb R rb mb ii m p s _ hR hl rd hS=>Jw m p (.inr ⟨ii+1,hR⟩) s rd hS,fun w0 R mb m p hS=>rz (Jx m p hS)⟩
 case ents=>
  subst h;exact ⟨_,_,_,_,_,_,I,fun w0 h R mb m p ao c1 bs o hb hS hbd=>JE m p ao c1 bs o hb hS hbd,fun w0 h hb R rb mb ii m p s he hR hl rd hS=>JF m p (he I).1 (he I).2.1 (he I).2.2 hR s hl rd hS,fun w0 R mb m p hS=>rz (JG m p hS)⟩
 case vot=>
  subst h;exact ⟨_,_,_,_,_,_,I,fun w0 h R mb m p ao c1 bs o hb hS hbd=>J3 m p ao c1 bs o hb hS hbd,fun w0 h hb R rb mb ii m p s _ hR hl rd hS=>J4 m p (.inr ⟨ii+1,hR⟩) s rd hS,fun w0 R mb m p hS=>rz (J5 m p hS)⟩
 case data=>
  subst h;exact ⟨_,_,_,_,_,_,I,fun w0 h R mb m p ao c1 bs o hb hS hbd=>JK m p ao c1 bs o hb hS hbd,fun w0 h hb R rb mb ii m p s _ hR hl rd hS=>JL m p (.inr ⟨ii+1,hR⟩) s hl rd hS,fun w0 R mb m p hS=>rz (JM m p hS)⟩
theorem i4.get{K:PH}{d:bT}:∀ {css:List (List Value)} {fs:List bT} {i:Nat},dP (FV K) css fs->i<eq fs ->
  ∃ cs,FV K cs (fs.getD i d)/\eq cs=3/\∀ (j:Nat) v,cs[j]?=some v->css.flatten[i*3+j]?=some v
 | [],[],i,_,h=>by simp at h
 | [],_::_,_,g,_=>g.elim
 | _::_,[],_,g,_=>g.elim
 | c::css,f::fs,0,g,h=>by
  obtain ⟨g1,c1,g2,c2,g3,c3,hc,_⟩:=g.1.fns;refine ⟨c,by simpa using g.1,by rw[hc];rfl,fun j v hv=>?_⟩;have hj:j<eq c:=(aax.1 hv).1;rw[abc,abq,aaI,abt hj];exact hv
 | c::css,f::fs,i+1,g,h=>by
  obtain ⟨cs,x,hl,hx⟩:=i4.get (d:=d) (i:=i) g.2 (by simpa using h);obtain ⟨g1,c1,g2,c2,g3,c3,hc,_⟩:=g.1.fns;have hcl:eq c=3:=by rw[hc];rfl
  refine ⟨cs,by simpa using x,hl,fun j v hv=>?_⟩;have:=hx j v hv;rw[abc,abn qo,show (i+1)*3+j-eq c=i*3+j from qo];exact this
def Kz(b k f t:Nat)(hk:k<256)(hf:f<256)(ht:t<256):aZ (pt b #[.int .u8 (k:Nat),.int .u8 (f:Nat),.int .u8 (t:Nat)] 5) (some ⟨b,0,none⟩) (eq ([UInt8.ofNat k,UInt8.ofNat f,UInt8.ofNat t]:List UInt8)) 3 5 1 (bv [UInt8.ofNat k,UInt8.ofNat f,UInt8.ofNat t]):=
 nP (aZ.ofPt (n:=3) (size:=1) Nm (by simp[maxLen])) rfl (by simp[bv,p9 hk,p9 hf,p9 ht])
def vE{m:aB}(h:¬m.ok):enc m=none:=aaa h
def JI{w0:World}{K:PH}{hs:List PH}(m:aB)(p:MA)(hS:dr K m p)(hbd:m.bd):
  aj w0 70 [.agg (mv m p)] K hs (fun v K' hs'=>K'=K/\ot (enc m) hs v hs'):=by
 have hmx:ac=18446744073709551615:=rfl;have hterm:=hbd.term;have hfl:=xz m.kind;have hfk:=EC (k:=m.kind);have hhd:=Bx m hbd;have hbl:=HZ hbd;refine enter Tryz.func70 qk I I I (acI (bx 0 I fun b1=>fin 2 I (acF (a9 1 0 I I I (cl 0 I (JD m.kind) ?_)))));rintro v14 K14 hs14 ⟨le,rfl,aof,capf,rfl,css,xF,hA⟩;have hS':=hS.le le;generalize hfs:cJ m.kind=fs at hfl hfk hbl xF hA;refine fin 1 I (acE (ai 2 I fun b17 h17=>?_))
 refine' dx 1 5 23 [17,18] h17 I I I I I I I (fun _=>?x2) (fun b23 h23=>?_)
 case x2=>
  refine a9 1 0 I I I (cl 0 I (A7 m.frm) ?_);rintro v21 K21 hs21 ⟨rfl,rfl,b21,rfl,h21⟩;exact dE 0 _ I (kU h21) fun b22 h22=>fin 1 I (bK h22 I I I)
 refine' dx 1 5 29 [23,24] h23 I I I I I I I (fun _=>?x3) (fun b29 h29=>?_)
 case x3=>
  refine a9 1 0 I I I (cl 0 I (A7 m.to) ?_);rintro v27 K27 hs27 ⟨rfl,rfl,b27,rfl,h27⟩;exact dE 0 _ I (kU h27) fun b28 h28=>fin 1 I (bK h28 I I I)
 refine' dx 1 6 36 [29,30] h29 I I I I I I I (fun _=>?x4) (fun b36 h36=>?_)
 case x4=>
  exact a9 1 0 I I I<|a9 1 0 I I I (ai 0 I fun b35 h35=>fin 1 I<|bK h35 I I I)
 refine' dx 1 4 41 [36,37] h36 I I I I I I I (fun _=>?x6) (fun b41 h41=>?_)
 case x6=>
  exact a9 1 0 I I I (ai 0 I fun b40 h40=>fin 1 I<|bK h40 I I I)
 refine fin 0 I<|th (ax h41 I (fun e8=>?_) (fun e8=>?_))
 ·have hno:¬m.ok:=fun h=>by
   obtain ⟨⟨p1,p2,p3,p4,p5⟩,_⟩:=h;rw[hfs] at p1;rcases e8 with (((e|e)|e)|e)|e
   ·exact p1<|aaZ qo
   ·exact e p2
   ·exact e p3
   ·exact p4 e
   exact p5 qo
  exact acI (fin 2 I<|acK<|rT (WQ.drop<|WQ.em (WQ.weak le<|bM I I I ⟨I,kS (vE hno)⟩)))
 have hpre:m.pre:=⟨by rw[hfs];exact fun h=>e8 (by rw[h];exact .inl (.inl (.inl (.inl I)))),Decidable.not_not.1 fun h=>e8 (.inl (.inl (.inl (.inr h)))),Decidable.not_not.1 fun h=>e8 (.inl (.inl (.inr h))),fun h=>e8 (.inl (.inr h)),fun h=>e8 (.inr (by rw[h];rfl))⟩;clear e8;have hk6:=hfk (by have:=hpre.1;rwa [hfs] at this);have hpf:=hpre.2.1;have hpt:=hpre.2.2.1;unfold nG at hpf hpt;obtain ⟨k,hk⟩:∃ k:Nat,m.kind=(k:Nat):=aa2 (show 0<=m.kind by omega);obtain ⟨f0,hf0⟩:∃ k:Nat,m.frm=(k:Nat):=aa2 hpf.1;obtain ⟨t0,ht0⟩:∃ k:Nat,m.to=(k:Nat):=aa2 hpt.1;refine sk (acF (a9 1 0 I I I (ar 0 I (v':=.int .u8 (k:Nat)) (by rw[hk,jP qo]) (a9 1 0 I I I (ar 0 I (v':=.int .u8 (f0:Nat)) (by rw[hf0,jP qo]) (a9 1 0 I I I (ar 0 I (v':=.int .u8 (t0:Nat)) (by rw[ht0,jP qo]) (lit 0 #[.int .u8 (k:Nat),.int .u8 (f0:Nat),.int .u8 (t0:Nat)] I Nn qk fun b51=>a9 1 1 I I I (cl 0 I (jE _ _ [UInt8.ofNat k,UInt8.ofNat f0,UInt8.ofNat t0] m.term (Kz b51 k f0 t0 qo qo qo) qo Nm) ?_)))))))))
 rintro v54 K54 hs54 ⟨g54,rfl,rfl,ao54,c54,rfl,o54⟩;have hh:[UInt8.ofNat k,UInt8.ofNat f0,UInt8.ofNat t0]++aI m.term=fD m:=by rw[fD,hk,hf0,ht0];rfl
 rw[hh] at o54 ⊢;refine fin 1 I (acE (fin 3 I (th (bk (loop (σ:=Nat×Option Addr×Nat×PH) (fun s=>[(1,cX b1),(4,.slice aof (eq fs) capf),(5,.slice s.2.1 (eq (fD m++f9 m (fs.take s.1))) s.2.2.1),(55,.slice aof (eq fs) capf),(56,.int .i64 (eq fs:Nat)),(57,.int .i64 (s.1:Nat))]) (fun _=>K54) (fun s=>s.2.2.2::pt b1 (mv m p) 34::hs) (fun s=>s.1<=eq fs/\(∀ f∈fs.take s.1,f.pok m)/\aZ s.2.2.2 s.2.1 (eq (fD m++f9 m (fs.take s.1))) s.2.2.1 5 1 (bv (fD m++f9 m (fs.take s.1)))) (fun s=>eq fs-s.1) (0,ao54,c54,g54) ⟨aad _,Nm,by simpa[f9] using o54⟩ (by simp only[f9,abI,aar];exact sb) I I ?_)))));rintro ⟨i,ao,c1,h⟩ ⟨hi,hok,o⟩;dsimp only at hi hok o ⊢;have hpl:=tM hbd hok;have htl:eq (fs.take i)<=6:=by simp;omega
 refine acI (ai 0 I fun b58 h58=>fin 0 I<|th (sq<|ax h58 I (fun e10=>?_) (fun e10=>?_)))
 ·have hin:i<eq fs:=qo
  refine sk (th (sq (bk (acI ?_))));obtain ⟨cs,hV,hcl,hcell⟩:=i4.get (d:=.idx) hA hin;obtain ⟨g1,k1,g2,k2,g3,k3,rfl,hput,hget,hclr⟩:=hV.fns;have htk:=wZ fs i hin .idx;have hmem:fs.getD i .idx∈fs:=by simp[List.getD,hin]
  generalize fs.getD i .idx=f at hV hput hget hclr htk hmem;refine fj 0 i I I xF hin Nn fun a59 ha59=>fW 0 [.func (.func g1) #[] k1,.func (.func g2) #[] k2,.func (.func g3) #[] k3] I qk (.inl I) (fun j v hv=>?_) ?_
  ·obtain ⟨a',q1,q2⟩:=xF.2.2 (i*3+j) v (hcell j v hv);rw[ha59] at q1;cases q1;rw[Deep.add_add];exact q2
  refine al 0 (.agg #[.nilFunc,.nilFunc,.nilFunc]) I qk fun b7=>?_;refine bJ 0 0 I I qk I I ?_;refine fin 0 I (acF (a9 1 0 I I I (WL.drop (cl 1 I (hput w0 h hs b1 m p ao c1 _ o (by simp only[aah];omega) hS' hbd) ?_))));rintro v65 K65 hs65 ⟨rfl,h',ao',c',out,t,rfl,rfl,ht,hout,o'⟩;refine fin 5 I (acE (fin 2 I (th (fe I (fun h11=>?_) (fun h11=>?_)))))
  ·refine acI (fin 2 I (acK (rT (rB (rT (rT (rB (rT (WQ.drop (WQ.drop (WQ.em (WQ.weak le ?_))))))))))));exact bM I I I ⟨I,kS (vE fun hh=>by have:=hh.2.1 f (by rw[hfs];exact hmem);rw[ht.2 this] at h11;cases h11)⟩
  have htt:t=true:=by simpa using h11
  obtain rfl:=hout htt;have ee:fD m++f9 m (fs.take i)++f.pby m=fD m++f9 m (fs.take (i+1)):=by rw[htk,xc];simp[f9]
  rw[ee] at o' ⊢;refine sk (acH (fin 2 I (acG (ar 0 I (aC qo) (fin 1 I ?_)))));exact bw (x:=(i,ao,c1,h)) (i+1,ao',c',h') sb I I ⟨qo,by rw[htk];intro x hx;exact (aaj.1 hx).elim (hok x) (fun hx=>by rw[aaz.1 hx];exact ht.1 htt),o'⟩ (by (try dsimp only);omega)
 obtain rfl:i=eq fs:=qo
 refine ex (xt (xt (xb (acE ?_))));rw[aav (aac _)] at o hok ⊢;refine fin 3 I (th (bk (loop (σ:=Nat×MA) (fun s=>[(1,cX b1),(5,.slice ao (eq (fD m++f9 m fs)) c1),(72,.slice aof (eq fs) capf),(73,.int .i64 (eq fs:Nat)),(74,.int .i64 (s.1:Nat))]) (fun _=>K54) (fun s=>h::pt b1 (mv (gY (fs.take s.1) m) s.2) 34::hs) (fun s=>s.1<=eq fs/\dr K54 (gY (fs.take s.1) m) s.2) (fun s=>eq fs-s.1) (0,p) ⟨aad _,hS'⟩ ⟨I,I,I,I,I,trivial⟩ I I ?_)));rintro ⟨i,p2⟩ ⟨hi,hS2⟩;dsimp only at hi hS2 ⊢;refine acI (ai 0 I fun b75 h75=>fin 0 I (th (sq (ax h75 I (fun e13=>?_) (fun e13=>?_)))))
 ·have hin:i<eq fs:=qo
  refine sk (th (sq (bk (acI ?_))));obtain ⟨cs,hV,hcl,hcell⟩:=i4.get (d:=.idx) hA hin;obtain ⟨g1,k1,g2,k2,g3,k3,rfl,hput,hget,hclr⟩:=hV.fns;have htk:=wZ fs i hin .idx;generalize fs.getD i .idx=f at hV hput hget hclr htk;refine fj 0 i I I xF hin Nn fun a76 ha76=>fW 0 [.func (.func g1) #[] k1,.func (.func g2) #[] k2,.func (.func g3) #[] k3] I qk (.inl I) (fun j v hv=>?_) ?_
  ·obtain ⟨a',q1,q2⟩:=xF.2.2 (i*3+j) v (hcell j v hv);rw[ha76] at q1;cases q1;rw[Deep.add_add];exact q2
  refine al 0 (.agg #[.nilFunc,.nilFunc,.nilFunc]) I qk fun b11=>?_;refine bJ 0 0 I I qk I I ?_;refine fin 0 I (acH (a9 1 0 I I I (WL.drop (cl 0 I (Ct.at 1 I (hclr w0 _ b1 _ _ hS2)) ?_))));rintro v80 K80 hs80 ⟨h',rfl,rfl,p3,rfl,hS3⟩;have ee:f.clr (gY (fs.take i) m)=gY (fs.take (i+1)) m:=by rw[htk,xi];rfl
  rw[ee] at hS3 ⊢;exact fin 0 I (acG (ar 0 I (aC qo) (fin 1 I (bw (x:=(i,p2)) (i+1,p3) sb I I ⟨qo,hS3⟩ (by (try dsimp only);omega)))))
 obtain rfl:i=eq fs:=qo
 refine ex (xt (xt (xb (acE ?_))));rw[aav (aac _)] at hS2 ⊢;refine fh 0 1 I I qk (cl 0 I (L6 _ _) ?_);rintro v83 K83 hs83 ⟨rfl,rfl,b83,rfl,h83⟩;refine dE 0 _ I (kU h83) fun b84 h84=>fin 0 I (th (ax h84 I (fun e14=>?_) (fun e14=>?_)))
 ·exact acI (fin 2 I (acK (rT (WQ.drop (WQ.drop (WQ.em (WQ.weak le (bM I I I ⟨I,kS (vE fun hh=>e14 (by have:=hh.2.2;rwa [hfs] at this))⟩))))))))
 have hokk:m.ok:=⟨hpre,by rw[hfs];exact hok,by rw[hfs];exact Decidable.not_not.1 e14⟩;have hbody:m.body=fD m++f9 m fs:=by rw[aB.body,hfs]
 have hbl2:=hbl hok;rw[<-hbody] at o ⊢;refine sk (acF (cl 1 I (Lv ao c1 m.body (.inr ⟨0,I⟩) o.isS qo) ?_));rintro v86 K86 hs86 ⟨rfl,gs,rfl,hor⟩;obtain ⟨hbig,_⟩|⟨hsm,aos,cs,rfl,os⟩:=hor
 ·exact absurd hbig qo
 refine fin 4 I (acK (WQ.perm (aaN (l₁:=[_,_])).symm (WQ.drop (WQ.drop (WQ.weak le ?_)))));exact bM I I I ⟨I,n8 (by rw[enc,aab hokk]) os⟩
def p0:MA:=⟨none,0,none,0,none,0⟩
end
section
def Ic(m:Nat)(h:m*256<18446744073709551616):Value.int .u64 (IntKind.u64.wrap (((m:Nat):Int)*2 ^ (min (8:Int).toNat IntKind.u64.bits)))=.int .u64 (m*256:Nat):=by
 have e:min (8:Int).toNat IntKind.u64.bits=8:=rfl;rw[e,show ((m:Nat):Int)*2 ^ 8=((m*256:Nat):Int) from by rw[Int.natCast_mul];rfl,lV,aaQ h]
def J7(m:Nat)(c:UInt8)(h:m*256+256<=18446744073709551616):
  Value.int .u64 (IntKind.u64.wrap (BitVec.ofInt 64 ((m*256:Nat):Int) ||| BitVec.ofInt 64 ((c.toNat:Nat):Int)).toNat)=.int .u64 (c.toNat+256*m:Nat):=by
 have hc:=c.toNat_lt
 have e:(BitVec.ofInt 64 ((m*256:Nat):Int) ||| BitVec.ofInt 64 ((c.toNat:Nat):Int)).toNat=c.toNat+256*m:=by
  rw[BitVec.toNat_or,abl,abl,abm,abm,aaQ qo,aaQ qo,show m*256=2 ^ 8*m from qo,
   <- acj qo]
  omega
 rw[e,lV,aaQ qo]
def Ku{w0:World}{K h:PH}{hs:List PH}(sb b:Nat)(D:Dk)(c:Nat)(o:D.Ok c)(hc:c<=1099511627)(hm:bN K b D h)(area:Nat)(sv nv:Value)(i:Nat)(hi:i<=1):
  aj w0 101 [Nr sb,.int .i64 (i:Nat)] K (pt sb #[Nr b,.int .u64 (area:Nat),sv,nv] 178::h::hs)
   (fun v K' hs'=>hs'=pt sb #[Nr b,.int .u64 (area:Nat),sv,nv] 178::h::hs/\Le K K'/\∃ ao cap,v=.tuple #[.int .u64 (((gZ D area i).1:Nat):Int),.slice ao (eq (gZ D area i).2) cap]/\aw K' ao (eq (gZ D area i).2) cap 1 (bv (gZ D area i).2)):=by
 obtain ⟨S,hS⟩:=be (pt sb #[Nr b,.int .u64 (area:Nat),sv,nv] 178);refine cB Tryz.func101 ?_;refine bG [pt sb #[Nr b,.int .u64 (area:Nat),sv,nv] 178] 15 [0,2,4,6,8,10,12,14,16,19,20,22,24,26,28] Nm qk qk (au ?_);rw[<-hS];refine cl 0 I (Ct.at 1 I (vL b D c o hc hm ((area:Nat):Int) ((i:Nat):Int))) ?_;rintro v22 K22 hs22 ⟨h',rfl,rfl,le,hR⟩;refine eK Nm le ?_;rcases hR with ⟨hn,rfl⟩|⟨bs,ao,cap,hb,hl,rfl,x⟩
 ·have e:gZ D area i=(0,[]):=by unfold gZ;rw[hn]
  rw[e];refine au ?_;refine bh 2 I (fun h27=>au ?_) (fun h27=>absurd qo h27);exact bM I I I ⟨I,le,none,0,I,aw.nil _ _ _ _⟩
 have e:gZ D area i=iw bs i:=by unfold gZ;rw[hb]
 rw[e];obtain ⟨c8,hc8⟩:∃ c8,bs[8]?=some c8:=⟨bs[8]'qo,aai qo⟩;have hg8:bs.getD 8 0=c8:=by rw[aaG,hc8];rfl
 have hx8:(bv bs)[8]?=some (.int .u8 c8.toNat):=by simp[bv,hc8]
 have h8lt:=c8.toNat_lt;refine au ?_;refine bh 2 I (fun h27=>absurd h27 qo) (fun h27=>dR 2 8 I I I x hx8 fun a30 hc30=>ld 0 I (.inl I) hc30 (bh 0 I (fun e4=>?_) (fun e4=>?_)))
 ·refine au ?_;have e2:iw bs i=(0,[]):=by unfold iw;rw[hg8,aab qo]
  rw[e2];refine au ?_;exact bM I I I ⟨I,le,none,0,I,aw.nil _ _ _ _⟩
 refine au ?_;obtain ⟨q,hq⟩:=be (bs.take 8);have hql:eq q=8:=by rw[hq,aam];omega
 obtain ⟨vv,hvv⟩:=be ((bs.drop 9).take c8.toNat);have hvl:eq vv=c8.toNat:=by rw[hvv,aam,aak];omega
 have hq64:dQ q<18446744073709551616:=by have:=rC q 8 qo;omega
 have e2:iw bs i=if dQ q % 2=i/\bs=co (dQ q) vv then (dQ q,vv) else (0,[]):=by unfold iw;rw[hg8,aaa qo,<-hq,<-hvv]
 rw[e2];refine au ?_
 refine loop (σ:=Nat) (fun j=>[(0,Nr sb),(1,.int .i64 (i:Nat)),(6,.slice ao (eq bs) cap),(8,.int .u64 ((dQ (q.drop j):Nat):Int)),(9,.int .i64 (((j:Nat):Int)-1))]) (fun _=>K22) (fun _=>S::h'::hs) (fun j=>j<=8) (fun j=>j) 8 (aac _)
  ⟨rfl,rfl,rfl,by rw[aa6 qo];rfl,rfl,trivial⟩ rfl rfl ?_
 intro j hj;refine sq (acI (bh 1 I (fun e6=>?_) (fun e6=>?_)))
 ·refine au ?_;obtain ⟨k,rfl⟩:∃ k,j=k+1:=⟨j-1,qo⟩;have hk:k<eq q:=qo
  have hlt:dQ (q.drop (k+1))<256 ^ 7:=rC _ 7 (by rw[aak];omega);have hd:=G5 q k hk;obtain ⟨ck,hck⟩:=be (q[k])
  have hbk:bs[k]?=some ck:=by
   have h1:q[k]?=bs[k]?:=by rw[hq,aba qo]
   rw[<-h1,aai hk,hck]
  have hxk:(bv bs)[k]?=some (.int .u8 ck.toNat):=by simp[bv,hbk]
  rw[<-hck] at hd;refine au ?_;refine ar 1 I (Ic (dQ (q.drop (k+1))) qo) (dR 2 k I (show ((k+1:Nat):Int)-1=((k:Nat):Int) by omega) I x hxk fun a42 hc42=>ld 0 I (.inl I) hc42 ?_);have hcl:=ck.toNat_lt;refine ar 0 I (bL qo) (ar 0 I (J7 (dQ (q.drop (k+1))) ck qo) (au ?_));refine ar 1 I (v':=.int .i64 (((k:Nat):Int)-1)) (by rw[show ((k+1:Nat):Int)-1-1=((k:Nat):Int)-1 from qo];exact aC qo) (fin 1 I ?_);exact bw (x:=k+1) k ⟨I,I,I,by rw[hd];rfl,rfl,trivial⟩ rfl rfl qo qo
 refine au ?_;obtain rfl:j=0:=qo
 rw[abs];refine au ?_;refine dR 2 8 I I I x hx8 fun a48 hc48=>ld 0 I (.inl I) hc48 (ar 0 I (jP (x:=((9+c8.toNat:Nat):Int)) qo) ?_)
 refine sl 0 9 (eq vv) I x I (by show ((9+c8.toNat:Nat):Int)=_;rw[hvl]) qo (by
  show ((bv bs).drop (9*1)).take (eq vv*1)=bv vv;rw[hvl,hvv];simp[bv]) fun ao51 c51 x51=>?_
 refine au ?_;refine cl 2 I (A3 (dQ q) vv ao51 c51 qo (.inl I) x51) ?_;rintro v54 K54 hs54 ⟨rfl,rfl,rfl⟩;have hsl:eq (co (dQ q) vv)=64:=nc qo;have hss:(bv (co (dQ q) vv)).toArray.size=64:=by simp[bv,hsl]
 refine al 0 (.agg (bv (List.replicate 64 0)).toArray) I qk fun b11=>?_;refine bJ 0 0 I I (by rw[hss];kernel_rfl) (by rw[hss];rfl) (by simp only[acw,aaV];first|exact fM _|(simp;intro u hu;exact fM _ u hu)) ?_;refine au ?_;refine ar 1 I (kK .u64 (dQ q) 2) (ar 1 I (bL (x:=((i:Nat):Int)) qo) (ai 0 I fun b59 h59=>?_))
 refine' dx 1 5 65 [59,60] h59 I I I I I I I (fun _=>?x8) (fun b65 h65=>?_)
 case x8=>
  refine sR 1 (sz:=1) 0 64 I I Tryz.underlying245 qk I I (aac _) Nn ?_;simp only[bf,abq,aa5,abT]
  have xR:aw (pt b11 (bv (co (dQ q) vv)).toArray 245) (some ⟨b11,0,none⟩) (eq (co (dQ q) vv)) 64 1 (bv (co (dQ q) vv)):=by
   have:=rO (g:=b11) (ty:=245) (A:=[]) (B:=co (dQ q) vv) (C:=[]) (off:=0) (n:=eq (co (dQ q) vv)) (cap:=64) rfl rfl qo;simpa using this
  have heq:=KX (w0:=w0) (K:=K54) (hs:=pt b11 (bv (co (dQ q) vv)).toArray 245::S::h'::hs) ao (some ⟨b11,0,none⟩) cap 64 bs (co (dQ q) vv) (.inl rfl) (.inr ⟨0,rfl⟩) x xR qo;rw[hsl] at heq;refine cl 0 I heq ?_;rintro v63 K63 hs63 ⟨rfl,rfl,t63,rfl,h63⟩;exact oO fun b63 h63'=>dE 0 _ I (kU (h63'.trans h63)) fun b64 h64=>fin 1 I (bK h64 I I I)
 refine fin 0 I<|th (ax h65 I (fun e9=>?_) (fun e9=>?_))
 ·rw[aaa (by intro g;rcases e9 with g1|g1;exact g1 (by have:=g.1;omega);exact g1 g.2)];exact acI (fin 2 I (acK (rT (WQ.drop (bM I I I ⟨I,le,none,0,I,aw.nil _ _ _ _⟩)))))
 rw[aab ⟨by rcases Decidable.em (dQ q % 2=i) with g|g;exact g;exact absurd (.inl qo) e9,by rcases Decidable.em (bs=co (dQ q) vv) with g|g;exact g;exact absurd (.inr g) e9⟩];exact sk (acF (fin 4 I (acK (WQ.drop (bM I I I ⟨I,le,ao51,c51,I,x51⟩)))))
end
section
def jm(D:Dk)(area:Nat):Nat->bZ
 | 0=>⟨0,[]⟩
 | i+1=>(jm D area i).pick (gZ D area i)
def F3(b:List UInt8)(i:Nat)(hb:eq b=64):(iw b i).1<18446744073709551616/\eq (iw b i).2<=48:=by
 unfold iw
 split
 ·simp
 rename_i h
 split
 ·have h1:=rC (b.take 8) 8 (by rw[aam];omega);refine ⟨aH,?_⟩;dsimp only;rw[aam];omega
 simp
def uw{c:Nat}{D:Dk}(o:D.Ok c)(area i:Nat):(gZ D area i).1<18446744073709551616/\eq (gZ D area i).2<=48:=by
 unfold gZ;cases hr:D.read area i with
 | none=>simp
 | some b=>
  refine F3 b i ?_;unfold Dk.read at hr;cases hs:D.sec area i with
  | none=>rw[hs] at hr;cases hr
  | some s=>
   rw[hs] at hr;simp only[aa9,aae] at hr;obtain ⟨h1,_,h3⟩:=o.secOk hs;rw[<-hr,abw,ab9 h1];exact h3 _ (List.getLast_mem h1)
def bZ.bd(S:bZ):Prop:=S.num<18446744073709551616/\eq S.val<=48
theorem qU{c:Nat}{D:Dk}(o:D.Ok c)(area:Nat):∀ i,(jm D area i).bd
 | 0=>by simp[jm,bZ.bd]
 | i+1=>by
  have h:=qU o area i;unfold jm bZ.pick
  split
  ·exact uw o area i
  exact h
def bZ.save_bd{S:bZ}(h:S.bd)(area:Nat)(D:Dk)(v:List UInt8):(S.save area D v).1.bd:=by
 unfold bZ.save
 split
 ·exact h
 rename_i hn;obtain ⟨h1,h2⟩:=h
 split
 ·dsimp only
  split
  ·exact ⟨aH,aH⟩
  exact ⟨h1,h2⟩
 exact ⟨h1,h2⟩
def sr(b area:Nat)(S:bZ)(ao:Option Addr)(cap:Nat):Array Value:=#[Nr b,.int .u64 (area:Nat),.slice ao (eq S.val) cap,.int .u64 S.num]
theorem aP.save{c:Nat}{D:Dk}(o:aP c D)(S:bZ)(area:Nat)(ha:area<=18446744073709551615)(v:List UInt8):aP (c+2) (S.save area D v).2.1:=by
 unfold bZ.save
 split
 ·exact o.up qo
 split
 ·exact (o.write _ _ _ qo).sync _
 exact (o.write _ _ _ qo).up qo
def iE(K:PH)(sb b area:Nat)(S:bZ)(h:PH):Prop:=∃ ao cap,h=pt sb (sr b area S ao cap) 178/\aw K ao (eq S.val) cap 1 (bv S.val)
theorem iE.le{K K':PH}(l:Le K K'){sb b area:Nat}{S:bZ}{h:PH}(x:iE K sb b area S h):iE K' sb b area S h:=let ⟨a,c,h1,h2⟩:=x;⟨a,c,h1,h2.le l⟩
def KD{h:PH}(b:Nat)(D:Dk)(c:Nat)(o:D.Ok c)(hc:c<=1099511627)(hm:bN K b D h)(area:Nat):
  aj w0 53 [Nr b,.int .u64 (area:Nat)] K (h::hs)
   (fun v K' hs'=>(D.dead=true/\K'=K/\hs'=h::hs/\v=.tuple #[.pointer none,.int .i64 30]) \/
    (D.dead=false/\Le K K'/\∃ sb s,hs'=s::h::hs/\iE K' sb b area (gF D area) s/\v=.tuple #[Nr sb,.int .i64 0])):=by
 refine cB Tryz.func53 ?_;refine cl 1 I (C6 b D hm) ?_;rintro v11 K11 hs11 ⟨rfl,rfl,rfl⟩;refine fin 0 I (th (fe I (fun e1=>?_) (fun e1=>?_)))
 ·refine au ?_;exact bM I I I (.inl ⟨e1,I,I,I⟩)
 refine sk<|acF (bd 2 (.agg<|sr b area ⟨0,[]⟩ none 0) I (fun w=>by kernel_rfl) (bx 0 I fun b15=>au ?_))
 refine loop (σ:=Nat×PH×Option Addr×Nat) (fun s=>[(6,Nr b15),(16,.int .i64 s.1)]) (fun s=>s.2.1) (fun s=>pt b15 (sr b area (jm D area s.1) s.2.2.1 s.2.2.2) 178::h::hs)
  (fun s=>s.1<=2/\Le K11 s.2.1/\aw s.2.1 s.2.2.1 (eq (jm D area s.1).val) s.2.2.2 1 (bv (jm D area s.1).val)) (fun s=>2-s.1) (0,K11,none,0) ⟨aH,Le.refl _,aw.nil _ _ _ _⟩ ⟨rfl,rfl,trivial⟩ rfl rfl ?_
 rintro ⟨i,K1,ao,cap⟩ ⟨hi,le,x⟩;dsimp only at *;have hbd:=qU o area i;refine acI (bh 0 I (fun e3=>?_) (fun e3=>?_))
 ·refine au ?_;refine cl 2 I (Ku b15 b D c o hc (hm.le le) area _ _ i qo) ?_;rintro v22 K22 hs22 ⟨rfl,le2,ao2,cap2,rfl,x2⟩;refine au ?_;refine ai 0 I fun b30 h30=>fin 0 I (th (ax h30 I (fun e5=>?_) (fun e5=>?_)))
  ·have e:jm D area (i+1)=⟨(gZ D area i).1,(gZ D area i).2⟩:=by rw[jm,bZ.pick,aab qo]
   refine au ?_;exact ar 0 I (aC (x:=((i+1:Nat):Int)) qo) (fin 1 I (bw (x:=(i,K1,ao,cap)) (i+1,K22,ao2,cap2) sb I (by dsimp only;rw[e];rfl) ⟨aH,le.trans le2,by dsimp only;rw[e];exact x2⟩ aH))
  have e:jm D area (i+1)=jm D area i:=by rw[jm,bZ.pick,aaa qo]
  exact sk (acG (ar 0 I (aC (x:=((i+1:Nat):Int)) qo) (fin 1 I (bw (x:=(i,K1,ao,cap)) (i+1,K22,ao,cap) sb I (by dsimp only;rw[e];rfl) ⟨aH,le.trans le2,by dsimp only;rw[e];exact x.le le2⟩ aH))))
 refine au ?_;obtain rfl:i=2:=qo
 refine au ?_;exact bM I I I (.inr ⟨e1,le,b15,_,I,⟨ao,cap,I,x⟩,I⟩)
def AO{s:PH}(sb b area:Nat)(S:bZ)(hS:iE K sb b area S s)(hb:S.bd):
  aj w0 104 [Nr sb] K (s::hs)
   (fun v K' hs'=>∃ h',hs'=h'::hs/\h'=s/\Le K K'/\∃ ao c,v=.slice ao (eq S.val) c/\aw K' ao (eq S.val) c 1 (bv S.val)):=by
 obtain ⟨ao,cap,rfl,x⟩:=hS;refine cB Tryz.func104 ?_;refine cl 0 I (j4 ao cap S.val (.inl I) x (by have:=hb.2;omega)) ?_;rintro v7 K7 hs7 ⟨rfl,h',ao',c',rfl,rfl,o⟩;exact fin 1 I (acK (WQ.frz fun K' l1 l2=>ah I I ⟨_,I,I,l1,ao',c',I,o.isS.le l2⟩))
def zS{s:PH}(sb b area:Nat)(S:bZ)(hS:iE K sb b area S s):
  aj w0 102 [Nr sb] K (s::hs)
   (fun v K' hs'=>K'=K/\hs'=s::hs/\v=.int .u64 S.num):=by
 obtain ⟨ao,cap,rfl,x⟩:=hS;refine cB Tryz.func102 ?_;exact ah I I ⟨I,I,I⟩
def Ko{w0:World}{K s h hv:PH}{hs:List PH}(sb b area:Nat)(S:bZ)(hS:iE K sb b area S s)(hbd:S.bd)(D:Dk)(c:Nat)(o:D.Ok c)(hc:c<=1099511626)(hm:bN K b D h)(ha:area<=18446744073709551615)
  (v:List UInt8) (ao:Option Addr) (cap:Nat) (hl:eq v<1099511627776) (hin:In K hs hv) (x:aw hv ao (eq v) cap 1 (bv v)):
  aj w0 194 [Nr sb,.slice ao (eq v) cap] K (s::h::hs)
   (fun u K' hs'=>Le K K'/\∃ s' h',hs'=s'::h'::hs/\iE K' sb b area (S.save area D v).1 s'/\bN K' b (S.save area D v).2.1 h'/\u=.int .i64 (S.save area D v).2.2):=by
 obtain ⟨aS,cS,rfl,xS⟩:=hS;obtain ⟨hb1,hb2⟩:=hbd;refine cB Tryz.func194 ?_;refine ai 2 I fun b9 h9=>?_
 refine' dx 1 6 16 [9,10] h9 I I I I I I I (fun _=>?x2) (fun b16 h16=>?_)
 case x2=>
  refine au ?_;exact ai 0 I fun b15 h15=>fin 1 I (bK h15 I I I)
 refine fin 0 I<|th (ax h16 I (fun e4=>?_) (fun e4=>?_))
 ·have e:S.save area D v=(S,D,40):=by unfold bZ.save;rw[aab qo]
  rw[e];refine au ?_;exact ah I I ⟨Le.refl _,_,_,I,⟨aS,cS,I,xS⟩,hm,I⟩
 have hvl:eq v<=48:=qo
 have e:S.save area D v=if (D.write area (((S.num+1) % 2:Nat):Int) (co (S.num+1) v)).2=0 then
   (if ((D.write area (((S.num+1) % 2:Nat):Int) (co (S.num+1) v)).1.sync area).2=0 then ⟨S.num+1,v⟩ else S,((D.write area (((S.num+1) % 2:Nat):Int) (co (S.num+1) v)).1.sync area).1,((D.write area (((S.num+1) % 2:Nat):Int) (co (S.num+1) v)).1.sync area).2)
  else (S,(D.write area (((S.num+1) % 2:Nat):Int) (co (S.num+1) v)).1,(D.write area (((S.num+1) % 2:Nat):Int) (co (S.num+1) v)).2):=by unfold bZ.save;rw[aaa qo]
 rw[e];refine au ?_;refine ar 0 I (bL (x:=((S.num+1:Nat):Int)) qo) (cl 1 I (A3 (S.num+1) v ao cap hvl (In.cons (In.cons hin)) x) ?_);rintro v23 K23 hs23 ⟨rfl,rfl,rfl⟩;have hsl:eq (co (S.num+1) v)=64:=nc hvl;have hss:(bv (co (S.num+1) v)).toArray.size=64:=by simp[bv,hsl]
 refine al 0 (.agg (bv (List.replicate 64 0)).toArray) I qk fun b5=>?_;refine bJ 0 0 I I (by rw[hss];kernel_rfl) (by rw[hss];rfl) (by simp only[acw,aaV];first|exact fM _|(simp;intro u hu;exact fM _ u hu)) ?_
 have xR:aw (pt b5 (bv (co (S.num+1) v)).toArray 245) (some ⟨b5,0,none⟩) (eq (co (S.num+1) v)) 64 1 (bv (co (S.num+1) v)):=by
  have:=rO (g:=b5) (ty:=245) (A:=[]) (B:=co (S.num+1) v) (C:=[]) (off:=0) (n:=eq (co (S.num+1) v)) (cap:=64) rfl rfl qo;simpa using this
 refine au ?_;refine bQ [1] 18 [0,2,4,6,8,10,12,14,16,18,20,22,24,26,28,30,33,34] ?_;refine au ?_;refine bA qk 0 I (bL (x:=((S.num+1:Nat):Int)) qo) (bA qk 0 I (kK .u64 (S.num+1) 2) (bA qk 0 I (aC (x:=(((S.num+1) % 2:Nat):Int)) qo) (wC qk 0 (sz:=1) 0 64 I I Tryz.underlying245 qk I I (aac _) Nn ?_)));simp only[bf,abq,aa5,abT];refine au ?_;have hw:=u9 (w0:=w0) (K:=K23) (h:=h) (hs:=[pt b5 (bv (co (S.num+1) v)).toArray 245,pt sb (sr b area S aS cS) 178]++hs) b D c o qo hm area (((S.num+1) % 2:Nat):Int) qo (some ⟨b5,0,none⟩) 64 (co (S.num+1) v) (.inr ⟨0,rfl⟩) xR;rw[hsl] at hw;obtain ⟨W,hW⟩:=be (D.write area (((S.num+1) % 2:Nat):Int) (co (S.num+1) v));have oW:W.1.Ok (c+1):=by rw[hW];exact o.write _ _ _
 rw[<-hW] at hw ⊢;refine cl 0 I (Ct.at 2 I hw) ?_;rintro v40 K40 hs40 ⟨h',rfl,le,hm',rfl⟩;refine eK Nm le (au ?_);refine bh 1 I (fun e6=>?_) (fun e6=>?_)
 ·refine au ?_;rw[aab e6];refine bQ [1] 10 [0,2,4,6,8,10,12,14,17,18] ?_;refine au ?_;refine cl 0 I (Ct.at 2 I (rU b W.1 (c+1) oW qo hm' area)) ?_;rintro v51 K51 hs51 ⟨h2,rfl,rfl,hm2,rfl⟩;refine ba Nm I (aM qk 1 I (acE (ai 1 I fun b53 h53=>fin 0 I (th (ax h53 I (fun e8=>?_) (fun e8=>?_))))))
  ·rw[aab e8];refine au ?_;refine ar 0 I (bL (x:=((S.num+1:Nat):Int)) qo) (au ?_);obtain ⟨hv',hin',lev⟩:=hin.le le;refine cl 2 I (j4 ao cap v (In.cons (In.cons (In.cons hin'))) (x.le lev) qo) ?_;rintro v63 K63 hs63 ⟨rfl,g,ao',c',rfl,rfl,og⟩;refine stp 2 2 I I I I (fin 0 I (acF (fin 2 I (acK (WQ.frz fun K' l1 l2=>WQ.drop ?_)))));exact ah I I ⟨le.trans l1,_,_,I,⟨ao',c',I,og.isS.le l2⟩,hm2.le l1,by rw[e8]⟩
  rw[aaa e8];exact sk (acF (fin 2 I (acK (WQ.drop (ah I I ⟨le,_,_,I,⟨aS,cS,I,xS.le le⟩,hm2,I⟩)))))
 refine au ?_;rw[aaa e6];refine au ?_;exact ai 1 I fun b53 h53=>fin 0 I (th (Dt h53 e6 I (sk (acF (fin 2 I (acK (WQ.drop (ah I I ⟨le,_,_,I,⟨aS,cS,I,xS.le le⟩,hm',I⟩))))))))
end
section
def Ct.bun2{P:Program}{f:FuncId}{args:List Value}{m:List PH}{R R':Value->PH->List PH->Prop}(d:gT m)(c:Ct P w0 f args K (m++hs) R)
  (h:∀ v K' hs',R v K' hs'->∃ m' t',hs'=m'++t'/\(gT m'->R' v K' (cZ m'::t'))):Ct P w0 f args K (cZ m::hs) R':=
 ⟨c.1,fun w hw=>(c.2 w (hw.split d)).mono fun e w' he=>by
  obtain ⟨v,K',hs',rfl,hR,hS⟩:=he;obtain ⟨m',t',rfl,h2⟩:=h v K' hs' hR;obtain ⟨d',hS'⟩:=a7.join m' hS;exact ⟨v,K',_,I,h2 d',hS'⟩⟩
def n6(K:PH)(c:List Value)(r:List UInt8):Prop:=∃ ao k,c=[.slice ao (eq r) k]/\aw K ao (eq r) k 1 (bv r)
theorem n6.le{K K':PH}(l:Le K K'){c:List Value}{r:List UInt8}(h:n6 K c r):n6 K' c r:=let ⟨a,k,h1,h2⟩:=h;⟨a,k,h1,h2.le l⟩
def ww(c:List Value)(s:Nat×Nat):Prop:=c=[.int .u64 s.1,.int .u64 s.2]
def dp(db:Nat)(ob:Option Nat)(first:Nat)(lv ov:Value)(next:Nat)(code:Int):Array Value:=
 #[.pointer (ob.map fun b=>⟨b,0,none⟩),Nr db,.int .u64 (first:Nat),lv,ov,.int .u64 (next:Nat),.int .i64 code]
def i5(o:fq)(aR:Option Addr)(cR:Nat):Array Value:=#[.int .u64 o.num,.int .u64 o.idx,.int .i64 o.full,.slice aR (eq o.rest) cR]
def IT{h:PH}{ao:Option Addr}{n n' cap e size:Nat}{xs ys:List Value}(o:gm h ao n cap e size xs)(h1:n=n')(h2:xs=ys):gm h ao n' cap e size ys:=by subst h1;subst h2;exact o
def nq(f:Nat)(o:fq)(D:Dk):wrL (f+1) o D =
  if (D.write (aK o.num) o.full (UInt8.ofNat (min (eq o.rest) 63)::o.rest.take (min (eq o.rest) 63))).2≠0\/eq o.rest<63 then
   (o,(D.write (aK o.num) o.full (UInt8.ofNat (min (eq o.rest) 63)::o.rest.take (min (eq o.rest) 63))).1,(D.write (aK o.num) o.full (UInt8.ofNat (min (eq o.rest) 63)::o.rest.take (min (eq o.rest) 63))).2)
  else if eq o.rest=63 then ({ o with full:=o.full+1,rest:=[] },(D.write (aK o.num) o.full (UInt8.ofNat (min (eq o.rest) 63)::o.rest.take (min (eq o.rest) 63))).1,0)
  else wrL f { o with full:=o.full+1,rest:=o.rest.drop 63 } (D.write (aK o.num) o.full (UInt8.ofNat (min (eq o.rest) 63)::o.rest.take (min (eq o.rest) 63))).1:=rfl
def Nf(ob:Option Nat)(op:Option fq)(oH rH:PH):Prop:=match op with
 | none=>ob=none/\oH=em/\rH=em
 | some o=>∃ b aR cR,ob=some b/\oH=pt b (i5 o aR cR) 293/\gm rH aR (eq o.rest) cR 5 1 (bv o.rest)
def dq(K:PH)(wb db:Nat)(W:Wl)(m:List PH):Prop:=
 ∃ ob aL cL aO cO oH rH gL gO,m=[pt wb (dp db ob W.first (.slice aL (eq W.recs) cL) (.slice aO (eq W.old) cO) W.next W.code) 192,oH,rH,gL,gO]/\Nf ob W.op oH rH /\
  dt 1 32 (n6 K) gL aL (eq W.recs) cL W.recs/\dt 2 197 ww gO aO (eq W.old) cO W.old
theorem dq.le{K K':PH}(l:Le K K'){wb db:Nat}{W:Wl}{m:List PH}(h:dq K wb db W m):dq K' wb db W m:=by
 obtain ⟨ob,aL,cL,aO,cO,oH,rH,gL,gO,h1,h2,h3,h4⟩:=h;exact ⟨ob,aL,cL,aO,cO,oH,rH,gL,gO,h1,h2,h3.imp fun _ _ h=>h.le l,h4⟩
def nZ(n:Nat)(hn:n<=2305843009213693952):aj w0 174 [.int .u64 (n:Nat)] K hs (fun v K' hs'=>K'=K/\hs'=hs/\v=.int .u64 (aK n)):=by
 refine cB Tryz.func174 ?_;refine ar 1 I (bL (x:=((4*n:Nat):Int)) qo) (ar 0 I (bL (x:=((4*n+1:Nat):Int)) qo) (au ?_));exact ah I I ⟨I,I,I⟩
def sL(wb db:Nat)(ob:Option Nat)(first:Nat)(lv ov:Value)(next:Nat)(code e:Int):
  aj w0 211 [Nr wb,.int .i64 e] K (pt wb (dp db ob first lv ov next code) 192::hs)
   (fun v K' hs'=>∃ h',hs'=h'::hs/\K'=K/\h'=pt wb (dp db ob first lv ov next (if code=0 then e else code)) 192/\v=.int .i64 (if code=0 then e else code)):=by
 refine cB Tryz.func211 ?_;refine bh 0 I (fun e2=>?_) (fun e2=>?_)
 ·refine au ?_;rw[aab e2];refine au ?_;exact ah I I ⟨_,I,I,I,I⟩
 refine au ?_;rw[aaa e2];refine au ?_;exact ah I I ⟨_,I,I,I,I⟩
def AJ{hv rH gL gO dh:PH}(wb db ob:Nat)(first:Nat)(lv ov:Value)(next:Nat)(o:fq)(aR:Option Addr)(cR:Nat)(oR:gm rH aR (eq o.rest) cR 5 1 (bv o.rest))(hrl:eq o.rest<=63)
  (D:Dk) (c:Nat) (oD:D.Ok c) (hc:c<=1099510000) (hd:bN K db D dh) (hnum:o.num<=2305843009213693952) (hfull:o.full<=1099511627776) (ab:Option Addr) (cb:Nat) (b:List UInt8) (hb:0<eq b/\eq b<=600) (hin:In K hs hv) (x:aw hv ab (eq b) cb 1 (bv b)):
  aj w0 247 [Nr wb,.slice ab (eq b) cb] K (pt wb (dp db (some ob) first lv ov next 0) 192::pt ob (i5 o aR cR) 293::rH::gL::gO::dh::hs)
   (fun v K' hs'=>Le K K'/\∃ aR' cR' rH' dh',hs'=pt wb (dp db (some ob) first lv ov next (wrO o b D).2.2) 192::pt ob (i5 (wrO o b D).1 aR' cR') 293::rH'::gL::gO::dh'::hs /\
    gm rH' aR' (eq (wrO o b D).1.rest) cR' 5 1 (bv (wrO o b D).1.rest)/\bN K' db (wrO o b D).2.1 dh'/\v=.int .i64 (wrO o b D).2.2):=by
 refine cB Tryz.func247 ?_;refine bQ [0,1] 15 [0,2,4,6,8,10,12,14,16,18,20,22,25,26,28,31] ?_;refine au ?_;refine DM 0 2 I I oR (In.cons (In.cons (In.cons (In.cons (In.cons (In.cons hin)))))) x I Nn (fM b) hb.1 (by grind) (by simp only[maxLen];omega) fun ao19 c19 g19 o19=>ba Nm rfl (aJ qk 2 rfl (stp 0 1 rfl rfl rfl rfl (ci (.inl qk) (aM qk 0 rfl (th (bk ?_))))));obtain ⟨F,hF⟩:=be (eq o.rest+eq b+1)
 refine loop (σ:=(Nat×fq×Dk)×(Option Addr×Nat×PH×PH)×PH) (fun _=>[(0,Nr wb)]) (fun s=>s.2.2) (fun s=>pt wb (dp db (some ob) first lv ov next 0) 192::pt ob (i5 s.1.2.1 s.2.1.1 s.2.1.2.1) 293::s.2.1.2.2.1::gL::gO::s.2.1.2.2.2::hs)
  (fun s=>wrL s.1.1 s.1.2.1 s.1.2.2=wrO o b D/\eq s.1.2.1.rest<s.1.1/\s.1.1<=F/\s.1.2.2.Ok (c+(F-s.1.1))/\s.1.2.1.full+s.1.1<=o.full+F/\s.1.2.1.num=o.num/\Le K s.2.2/\bN s.2.2 db s.1.2.2 s.2.1.2.2.2/\gm s.2.1.2.2.1 s.2.1.1 (eq s.1.2.1.rest) s.2.1.2.1 5 1 (bv s.1.2.1.rest)) (fun s=>s.1.1)
  ((F,{ o with rest:=o.rest++b },D),(ao19,c19,g19,dh),K) ⟨by dsimp only;unfold wrO;rw[hF],by dsimp only;simp;omega,aac _,by dsimp only;exact oD.up qo,Nm,I,Le.refl _,hd,.inl (by
   simp_all [jD])⟩ sb rfl (by simp[i5]) ?_
 rintro ⟨⟨f,q,E⟩,⟨aQ,cQ,rQ,eh⟩,K1⟩ ⟨hw,hlf,hfF,oE,hfu,hqn,le,hE,oQ⟩;dsimp only at *;obtain ⟨f,rfl⟩:∃ g,f=g+1:=⟨f-1,qo⟩;rw[nq] at hw;have hcQ:=oQ.caps;obtain ⟨n,hn⟩:=be (min (eq q.rest) 63);obtain ⟨s,hs1⟩:=be (UInt8.ofNat n::q.rest.take n);have hsl:eq s=1+n:=by rw[hs1];simp;omega
 rw[<-hn,<-hs1] at hw;refine bk (acI (a9 3 0 I I I (a9 2 1 I I I ?_)))
 refine ar 1 I (v':=.int .i64 (n:Nat)) (by
  congr 1
  omega) ?_
 refine au ?_;refine ar 1 I (jP (x:=((n:Nat):Int)) qo) (lit 0 #[.int .u8 (n:Nat)] I Nn qk fun b33=>au ?_)
 refine sl 1 0 n I oQ.isS I Nm qo (ys:=bv (q.rest.take n)) (by
  simp[bv]) fun ao42 c42 x42=>?_
 have o33:aZ (pt b33 #[Value.int .u8 (n:Nat)] 5) (some ⟨b33,0,none⟩) 1 1 5 1 (bv [UInt8.ofNat n]):=l8 b33 n qo;refine app 0 0 I I o33 (.inr ⟨3,I⟩) x42 I Nn (fM _) (by show (1+n)*1<=_;omega) (by simp only[maxLen];omega) fun ao43 c43 g43 o43=>?_
 have x43:aw g43 ao43 (eq s) c43 1 (bv s):=by
  rw[hsl,hs1];exact o43.isS
 obtain ⟨R,hR⟩:=be (E.write (aK q.num) q.full s);have oR':R.1.Ok (c+(F-(f+1))+1):=by rw[hR];exact oE.write _ _ _
 rw[<-hR] at hw;refine au ?_;refine bQ [1,2] 23 [0,2,4,6,8,10,12,14,16,18,20,22,24,28,30,32,34,36,38,40,42,27,45,47,48,50,52,54,56] ?_;refine dk [22] qk 4 0 I qk I I (dk [22,13,12,11,10,9] qk 3 0 I qk I I (dk [22,13] qk 3 1 I qk I I (dk [22,20,19,18] qk 3 0 I qk I I (dk [22] qk 2 1 I qk I I (aJ qk 1 I (cl 0 I (nZ q.num qo) ?_))))));rintro v57 K57 hs57 ⟨rfl,rfl,rfl⟩;refine ba Nm I (aJ qk 0 I ?_);have hwr:=u9 (w0:=w0) (K:=K57) (h:=eh) (hs:=[g43,pt wb (dp db (some ob) first lv ov next 0) 192,pt ob (i5 q aQ cQ) 293,rQ,gL,gO]++hs) db E (c+(F-(f+1))) oE qo hE (aK q.num) ((q.full:Nat):Int) (by unfold aK;omega) ao43 c43 s (.inr ⟨0,rfl⟩) x43;rw[hsl,<-hR] at hwr;refine cl 0 I (Ct.at 6 I hwr) ?_
 rintro v66 K66 hs66 ⟨eh',rfl,le2,hE',rfl⟩;refine eK Nm le2 (au ?_);refine cl 0 I (Ct.at 1 I (sL wb db (some ob) first lv ov next 0 R.2)) ?_;rintro v67 K67 hs67 ⟨_,rfl,rfl,rfl,rfl⟩;rw[aab rfl];refine au ?_;refine dN qk 0 (R.2≠0) I Nm (fun h1=>?_) (fun h1=>?_)
 ·rw[aab (.inl h1)] at hw;refine aM qk 4 I (th (cU I (acI (a9 3 1 I I I (fin 1 I (acK (rT (rB (rT (rB (WQ.drop ?_)))))))))));rw[<-hw];exact ah I I ⟨le.trans le2,aQ,cQ,rQ,eh',I,oQ,hE',I⟩
 have h1:R.2=0:=Decidable.not_not.1 h1;refine dC qk 2 (((n:Nat):Int)<63) I Nm fun b71 h71=>au ?_;refine ax h71 I (fun e2=>?_) (fun e2=>?_)
 ·rw[aab (.inr qo)] at hw;refine acI (a9 3 1 I I I (fin 1 I (acK (rT (rB (rT (rB (WQ.drop ?_))))))));rw[<-hw];exact ah I I ⟨le.trans le2,aQ,cQ,rQ,eh',I,oQ,hE',I⟩
 have hn63:n=63:=qo
 rw[aaa qo] at hw;rw[h1];refine au ?_;refine ar 0 I (aC (x:=((q.full+1:Nat):Int)) qo) (au ?_);refine bQ [1,2] 15 [0,2,4,6,8,10,12,14,16,18,20,22,24,26,28,31] ?_;refine au ?_;refine mK qk 1 63 (eq q.rest-63) I I (by show ((n:Nat):Int)=_;omega) (by grind) qo (aJ qk 2 rfl (stp 0 2 rfl rfl rfl rfl (ci (.inl qk) ?_)))
 obtain ⟨rQ2,hrQ2,oQ2⟩:=oQ.cut 63 (eq q.rest-63) qo (ys:=bv (q.rest.drop 63)) (by
  simp[aav,bv])
 refine aM qk 0 I<|th (sq<|WC.loss 3 rQ2 I hrQ2 (rg<|a9 3 1 I I I (a9 2 2 I I I (ai 1 I fun b110 h110=>fin 0 I<|th (ax h110 I (fun e4=>?_) (fun e4=>?_))))))
 ·rw[aab qo] at hw;refine acI (a9 3 1 I I I (fin 1 I (acK (rB (rT (rB (WQ.drop ?_)))))));rw[<-hw];refine ah I I ⟨le.trans le2,dm aQ cQ 63 1,cQ-63,rQ2,eh',?_,IT oQ2 (show eq q.rest-63=0 by omega) (by rw[aa6 qo]),hE',I⟩;show [_,_,_,_,_,_]++hs=[_,_,_,_,_,_]++hs
  grind [i5]
 rw[aaa qo] at hw;refine sk (bl (WQ.drop (bw (x:=((f+1,q,E),(aQ,cQ,rQ,eh),K57)) ((f,{ q with full:=q.full+1,rest:=q.rest.drop 63 },R.1),(dm aQ cQ 63 1,cQ-63,rQ2,eh'),K67) sb I ?_ ⟨hw,?_,aH,by dsimp only;exact oR'.up qo,aH,hqn,le.trans le2,hE',?_⟩ Nm)))
 ·simp[i5]
 all_goals grind
end
section
def a7.del{w:World}(s:a7 w0 w K hs)(i:Nat){h:PH}(hi:hs[i]?=some h):a7 w0 w K (hs.eraseIdx i):=(s.perm (gU hs i h hi)).dropHead
theorem WC.del{P:Program}{w0:World}{Q:Exit->Act->World->Prop}{n:Nat}{l:Sl}{K:PH}{hs:List PH}{c:Code}(i:Nat){h:PH}(hi:hs[i]?=some h)(hk:WC P w0 c Q n l K (hs.eraseIdx i)):WC P w0 c Q n l K hs:=fun a w ha hw=>hk a w ha (hw.del i hi)
theorem WQ.del{w0:World}{Q:Exit->Act->World->Prop}{e:Exit}{n:Nat}{l:Sl}{K:PH}{hs:List PH}(i:Nat){h:PH}(hi:hs[i]?=some h)(hk:WQ w0 Q e n l K (hs.eraseIdx i)):WQ w0 Q e n l K hs:=fun a w ha hw=>hk a w ha (hw.del i hi)
theorem WL.del{P:Program}{w0:World}{ops:Array Oper}{Q:Exit->Act->World->Prop}{rest:List Oper}{n:Nat}{l:Sl}{K:PH}{hs:List PH}(i:Nat){h:PH}(hi:hs[i]?=some h)(hk:WL P w0 ops Q rest n l K (hs.eraseIdx i)):WL P w0 ops Q rest n l K hs:=fun a w ha hw=>hk a w ha (hw.del i hi)
structure cy (c:Nat) (W:Wl):Prop where
 last:W.first+eq W.recs<=bn
 recs:eq W.recs<=70000000000+c
 old:eq W.old<=c
 next:W.next<=cG+c
 op:∀ o,W.op=some o->o.num<=cG+c/\o.full<=c
 rest:∀ o,W.op=some o->W.code=0->eq o.rest<=62
 olds:∀ s∈W.old,s.1<=cG+c/\s.2<=bn
 recl:∀ r∈W.recs,eq r<=512
theorem cy.up{c d:Nat}{W:Wl}(o:cy c W)(h:c<=d):cy d W:=
 ⟨o.last,by have:=o.recs;omega,by have:=o.old;omega,by have:=o.next;omega,fun q hq=>by have:=o.op q hq;omega,o.rest,fun s hs=>by have:=o.olds s hs;omega,o.recl⟩
def lR(n:Nat):Int:=if n=0 then 18446744073709551615 else ((n:Nat):Int)-1
def Id(n:Nat)(h:n<18446744073709551616):Value.int .u64 (IntKind.u64.wrap (((n:Nat):Int)-1))=.int .u64 (lR n):=by
 unfold lR
 split
 ·rename_i e;subst e;rfl
 exact bL qo
def rj(n:Nat)(h:n<18446744073709551616):Value.int .u64 (IntKind.u64.wrap (lR n+1))=.int .u64 (n:Nat):=by
 unfold lR
 split
 ·rename_i e;subst e;rfl
 rw[Int.sub_add_cancel];exact bL qo
theorem dt.get{α:Type}{R:List Value->α->Prop}{e:Nat}{h:PH}{ao:Option Addr}{n cap:Nat}{xs:List α}(x:dt 1 e R h ao n cap xs){i:Nat}{y:α}(hy:xs[i]?=some y):∃ v,R [v] y/\∃ g off cur,ao=some ⟨g,off,none⟩/\h=pt g cur e/\cur[off+i]?=some v:=by
 obtain ⟨css,h1,h2,h3,h4⟩:=x;obtain ⟨c,hc,hR⟩:=h3.get hy;have hl:=h4 c (aao hc)
 obtain ⟨v,rfl⟩:∃ v,c=[v]:=by
  match c,hl with
  | [v],_=>simp
 have hi:i<n:=by grind
 refine ⟨v,hR,?_⟩;have hf:=q9 h4 hc 0 v rfl;rcases h2 with ⟨g1,g2,g3,⟨g4,g5,g6⟩|⟨g,off,cur,g4,g5,g6,g7⟩⟩|⟨rfl,_⟩
 all_goals grind
def JC{m:List PH}(wb db:Nat)(W:Wl)(hW:dq K wb db W m):aj w0 117 [Nr wb] K (m++hs)
  (fun v K' hs'=>K'=K/\hs'=m++hs/\v=.int .u64 W.first):=by
 obtain ⟨ob,aL,cL,aO,cO,oH,rH,gL,gO,rfl,hop,hL,hO⟩:=hW;refine ent Tryz.func117 ?_;exact acI (fin 1 I (acF (a9 3 0 I I I (fin 1 I (acK (ah I I ⟨I,I,I⟩))))))
def KN{m:List PH}(wb db:Nat)(W:Wl)(hW:dq K wb db W m):aj w0 200 [Nr wb] K (m++hs)
  (fun v K' hs'=>K'=K/\hs'=m++hs/\v=.int .u64 W.next):=by
 obtain ⟨ob,aL,cL,aO,cO,oH,rH,gL,gO,rfl,hop,hL,hO⟩:=hW;refine enter Tryz.func200 qk I I I (au ?_);exact ah I I ⟨I,I,I⟩
def pR{m:List PH}(wb db:Nat)(W:Wl)(hW:dq K wb db W m)(hb:W.first+eq W.recs<=bn):aj w0 118 [Nr wb] K (m++hs)
  (fun v K' hs'=>K'=K/\hs'=m++hs/\v=.int .u64 (lR (W.first+eq W.recs))):=by
 obtain ⟨ob,aL,cL,aO,cO,oH,rH,gL,gO,rfl,hop,hL,hO⟩:=hW;unfold bn at hb;refine cB Tryz.func118 ?_;refine bG [pt wb (dp db ob W.first (.slice aL (eq W.recs) cL) (.slice aO (eq W.old) cO) W.next W.code) 192] 13 [0,2,4,6,8,10,12,14,16,18,20,22,24] Nm qk qk (au ?_);refine bA qk 1 I (bL (x:=((eq W.recs:Nat):Int)) qo) (bA qk 0 I (bL (x:=((W.first+eq W.recs:Nat):Int)) qo) (bA qk 0 I (Id _ qo) (au ?_)));exact ah I I ⟨I,I,I⟩
def LK{m:List PH}(wb db:Nat)(W:Wl)(c:Nat)(hc:c<=1000000000)(hb:cy c W)(hW:dq K wb db W m)(i:Nat)(hi:i<18446744073709551616)(hrl:∀ r∈W.recs,eq r<=512):aj w0 119 [Nr wb,.int .u64 (i:Nat)] K (m++hs)
  (fun v K' hs'=>Le K K'/\hs'=m++hs/\((¬(W.first<=i/\i-W.first<eq W.recs)/\v=.tuple #[.slice none 0 0,.bool false]) \/
   ∃ r ao k,W.first<=i/\W.recs[i-W.first]?=some r/\v=.tuple #[.slice ao (eq r) k,.bool true]/\aw K' ao (eq r) k 1 (bv r))):=by
 obtain ⟨ob,aL,cL,aO,cO,oH,rH,gL,gO,rfl,hop,hL,hO⟩:=hW;have h1:=hb.last;have h2:=hb.recs;unfold bn at h1;refine cB Tryz.func119 ?_;refine bG [pt wb (dp db ob W.first (.slice aL (eq W.recs) cL) (.slice aO (eq W.old) cO) W.next W.code) 192] 21 [0,2,4,6,8,10,12,14,16,18,20,22,24,26,28,30,32,34,36,38,40] Nm qk qk (au ?_);refine dN qk 0 (i<W.first) I Nm (fun g1=>?_) (fun g1=>?_)
 ·refine au ?_;exact bM I I I ⟨Le.refl _,I,.inl ⟨qo,I⟩⟩
 refine au ?_;refine bA qk 0 I (v':=.int .u64 (i-W.first:Nat)) (by grind [bL]) (au ?_);refine bA qk 1 I (bL (x:=((eq W.recs:Nat):Int)) qo) (dC qk 0 (eq W.recs<=i-W.first) I Nm fun b25 h25=>au ?_);refine ax h25 I (fun e2=>?_) (fun e2=>?_)
 ·refine au ?_;exact bM I I I ⟨Le.refl _,I,.inl ⟨qo,I⟩⟩
 obtain ⟨r,hr⟩:∃ r,W.recs[i-W.first]?=some r:=⟨W.recs[i-W.first]'qo,aai qo⟩;obtain ⟨v,⟨ao,k,hv,xr⟩,g,off,cur,rfl,rfl,hcur⟩:=hL.get hr;simp only[List.cons.injEq,and_true] at hv;subst hv;have hrl2:=hrl r (aao hr);refine sk (th (sq (bG [pt wb (dp db ob W.first (.slice (some ⟨g,off,none⟩) (eq W.recs) cL) (.slice aO (eq W.old) cO) W.next W.code) 192,pt g cur 32] 15 [0,2,4,6,8,10,12,14,16,18,20,22,25,26,28] Nm qk qk (au ?_))));refine bA qk 0 I (v':=.int .u64 (i-W.first:Nat)) (by grind [bL]) (bt qk 0 (i-W.first) I I qo ?_);simp only[bf,aaf];refine bS qk 0 1 I I hcur (au ?_);refine cl 0 I (j4 ao k r (.inl I) xr qo) ?_;rintro v39 K39 hs39 ⟨rfl,h',ao',c',rfl,rfl,o⟩;exact ba Nm I (aM qk 2 I (acK (WQ.frz fun K' l1 l2=>bM I I I ⟨l1,I,.inr ⟨r,ao',c',qo,hr,I,o.isS.le l2⟩⟩)))
def vj{w0:World}{K dh:PH}{m hs:List PH}(wb db:Nat)(W:Wl)(hW:dq K wb db W m)(D:Dk)(c:Nat)(oD:D.Ok c)(hc:c<=1000000000)(hb:cy c W)(hd:bN K db D dh):
  aj w0 198 [Nr wb] K (m++dh::hs)
   (fun v K' hs'=>K'=K/\∃ m' dh',hs'=m'++dh'::hs/\dq K wb db (W.sync D).1 m'/\bN K db (W.sync D).2 dh'/\v=.int .i64 (W.sync D).1.code):=by
 obtain ⟨ob,aL,cL,aO,cO,oH,rH,gL,gO,rfl,hop,hL,hO⟩:=hW;obtain ⟨op,first,recs,old,next,code⟩:=W;dsimp only at *;refine cB Tryz.func198 ?_;refine ai 0 I fun b7 h7=>?_
 refine' dx 1 6 14 [7,8] h7 I I I I I I I (fun _=>?x2) (fun b14 h14=>?_)
 case x2=>
  refine au ?_
  refine dE 0 (op=none) I (by
   cases op with
   | none=>obtain ⟨rfl,_⟩:=hop;simp
   | some o=>obtain ⟨b,_,_,rfl,_⟩:=hop;simp) fun b13 h13=>?_
  exact fin 1 I<|bK h13 I I I
 refine fin 0 I<|th (ax h14 I (fun e4=>?_) (fun e4=>?_))
 ·have e:Wl.sync ⟨op,first,recs,old,next,code⟩ D=(⟨op,first,recs,old,next,code⟩,D):=by
   unfold Wl.sync
   grind
  rw[e];refine au ?_;exact ah I I ⟨I,_,_,I,⟨ob,aL,cL,aO,cO,oH,rH,gL,gO,I,hop,hL,hO⟩,hd,I⟩
 have hcode:code=0:=qo
 subst hcode;cases op with
 | none=>exact absurd (.inr rfl) e4
 | some o=>
  obtain ⟨b,aR,cR,rfl,rfl,oR⟩:=hop;have hnum:=(hb.op o rfl).1;unfold cG at hnum;have e:Wl.sync ⟨some o,first,recs,old,next,0⟩ D=(⟨some o,first,recs,old,next,(D.sync (aK o.num)).2⟩,(D.sync (aK o.num)).1):=rfl;rw[e];refine sk (th (sq (bG [pt wb (dp db (some b) first (.slice aL (eq recs) cL) (.slice aO (eq old) cO) next 0) 192,pt b (i5 o aR cR) 293] 15 [0,2,4,6,8,10,12,14,16,18,20,22,24,27,29,31,32] Nm qk qk (dk [14] qk 4 0 I qk I I (dk [14,13,12,11,10,9] qk 3 0 I qk I I (dk [14,13] qk 3 1 I qk I I (aJ qk 0 I (cl 0 I (nZ o.num qo) ?_))))))));rintro v32 K32 hs32 ⟨rfl,rfl,rfl⟩;refine ba Nm I (aJ qk 0 I (cl 0 I (Ct.at 5 I (rU db D c oD qo hd (aK o.num))) ?_));rintro v33 K33 hs33 ⟨dh',rfl,rfl,hd',rfl⟩;refine ba Nm I (aJ qk 0 I (cl 0 I (sL wb db (some b) first _ _ next 0 _) ?_))
  rintro v34 K34 hs34 ⟨_,rfl,rfl,rfl,rfl⟩;rw[aab rfl];refine au ?_;exact ah I I ⟨I,_,_,I,⟨some b,aL,cL,aO,cO,_,rH,gL,gO,I,⟨b,aR,cR,I,I,oR⟩,hL,hO⟩,hd',I⟩
def rA{dh:PH}{m:List PH}(wb db:Nat)(W:Wl)(hW:dq K wb db W m)(D:Dk)(c:Nat)(oD:D.Ok c)(hc:c<=1000000000)(hb:cy c W)(hd:bN K db D dh)(i:Nat)(hi:i<18446744073709551616):
  aj w0 209 [Nr wb,.int .u64 (i:Nat)] K (m++dh::hs)
   (fun v K' hs'=>Le K K'/\∃ m' dh',hs'=m'++dh'::hs/\dq K' wb db (W.begin i D).1 m'/\bN K' db (W.begin i D).2 dh'/\v=.int .i64 (W.begin i D).1.code):=by
 refine cB Tryz.func209 ?_;refine cl 1 I (vj wb db W hW D c oD hc hb hd) ?_;rintro v6 K6 hs6 ⟨rfl,m1,dh1,rfl,hW1,la,rfl⟩
 have oS:(W.sync D).2.Ok (c+1):=by
  unfold Wl.sync
  split
  ·exact oD.up qo
  split
  ·exact oD.up qo
  exact oD.sync _
 have hS:(W.sync D).1={ W with code:=(W.sync D).1.code }:=by
  unfold Wl.sync
  split
  ·rfl
  split
  all_goals rfl
 refine ai 0 I fun b7 h7=>fin 0 I<|th (ax h7 I (fun e2=>?_) (fun e2=>?_))
 ·have e:W.begin i D=W.sync D:=by unfold Wl.begin;rw[aab e2]
  rw[e];obtain ⟨ob,aL,cL,aO,cO,oH,rH,gL,gO,rfl,hop,hL,hO⟩:=hW1;refine au ?_;exact ah I I ⟨Le.refl _,_,_,I,⟨ob,aL,cL,aO,cO,oH,rH,gL,gO,I,hop,hL,hO⟩,la,I⟩
 have e2:(W.sync D).1.code=0:=Decidable.not_not.1 e2
 have e:W.begin i D=({ (W.sync D).1 with op:=some (wrO ⟨W.next,i,0,[]⟩ (aI i) (W.sync D).2).1,next:=W.next+1,old:=W.old++[(W.next,i)],code:=(wrO ⟨W.next,i,0,[]⟩ (aI i) (W.sync D).2).2.2 },(wrO ⟨W.next,i,0,[]⟩ (aI i) (W.sync D).2).2.1):=by
  grind [Wl.begin]
 rw[e];obtain ⟨E,hE⟩:=be ((W.sync D).2);rw[hS,e2] at hW1;rw[hS];rw[<-hE] at oS la ⊢;clear hE e hS e2 h7;obtain ⟨op,first,recs,old,next,code⟩:=W;dsimp only at *;obtain ⟨ob,aL,cL,aO,cO,oH,rH,gL,gO,rfl,hop,hL,hO⟩:=hW1;dsimp only at *;have hnx:=hb.next;have hol:=hb.old;unfold cG at hnx;dsimp only at hnx hol;refine au ?_;refine bd 1 (.agg #[.int .u64 (next:Nat),.int .u64 (i:Nat)]) I (fun w=>by kernel_rfl) (bd 0 (.agg (i5 ⟨next,i,0,[]⟩ none 0)) I (fun w=>by kernel_rfl) (bx 0 I fun b20=>stp 2 1 I I I I (fin 0 I (th (WC.perm (aat _ _ _) (WC.loss 3 em I (.inr I) (WC.del 2 I (acI (au ?_)))))))));refine ar 0 I (bL (x:=((next+1:Nat):Int)) qo) (au ?_);refine bG [pt wb (dp db (some b20) first (.slice aL (eq recs) cL) (.slice aO (eq old) cO) (next+1) 0) 192,pt b20 (i5 ⟨next,i,0,[]⟩ none 0) 293] 16 [0,2,4,6,8,10,12,14,16,18,20,22,25,27,28,30,33] (by intro h hm;simp at hm;rcases hm with rfl|rfl;exact abr ..;exact aa4 _ (abr ..)) qk qk (bP qk 4 0 I qk I I (bP qk 3 0 I qk I I ?_))
 refine DC qk 2 [.int .u64 (next:Nat),.int .u64 (i:Nat)] I qk qk (.inr ⟨1,I⟩) (lx _ (fun j v hj=>by
  match j,hj with
  | 0,hj=>exact hj
  | 1,hj=>exact hj)) ?_
 refine au ?_;refine lit 0 #[.int .u64 (next:Nat),.int .u64 (i:Nat)] I Nn qk fun b42=>mM [pt wb (dp db (some b20) first (.slice aL (eq recs) cL) (.slice aO (eq old) cO) (next+1) 0) 192,pt b20 (i5 ⟨next,i,0,[]⟩ none 0) 293] (by intro h hm;simp at hm;rcases hm with rfl|rfl;exact aa4 _ (abr ..);exact aa4 _ (aa4 _ (abr ..))) Nm I (au ?_);refine mF 0 5 [.int .u64 (next:Nat),.int .u64 (i:Nat)] (next,i) I I I hO I I (by simp[Value.oneCell']) I Nn (by show (eq old+1)*16<=_;omega) (by simp only[maxLen];omega) fun ao43 c43 g43 o43=>mM [pt wb (dp db (some b20) first (.slice aL (eq recs) cL) (.slice aO (eq old) cO) (next+1) 0) 192,pt b20 (i5 ⟨next,i,0,[]⟩ none 0) 293] (by intro h hm;simp at hm;rcases hm with rfl|rfl;exact aa4 _ (abr ..);exact aa4 _ (aa4 _ (abr ..))) Nm I (aJ qk 2 I (stp 0 1 I I I I (ci (.inl qk) (aM qk 0 I (th (WC.drop (acI (WL.em ?_))))))))
 have hul:=dH (n:=i) hi;have hu0:0<eq (aI i):=by rw[aI];split <;> simp
 refine cl 2 I (jE none 0 [] i (aZ.nil _ _) hi Nn) ?_;rintro v48 K48 hs48 ⟨hu,rfl,rfl,ao',c',rfl,ou⟩;rw[abd] at ou;refine WL.frz fun K1 l1 l2=>cl 0 I (AJ wb db b20 first _ _ (next+1) ⟨next,i,0,[]⟩ none 0 (gm.nil _ _) Nm E (c+1) oS qo (la.le l1) aH Nm ao' c' (aI i) ⟨hu0,qo⟩ (.inl rfl) (ou.isS.le l2)) ?_;rintro v49 K49 hs49 ⟨le,aR,cR,rH',dh',rfl,oR,hd',rfl⟩;refine au ?_;refine ah I I ⟨l1.trans le,[_,_,_,_,_],dh',I,⟨some b20,aL,cL,ao43,c43,_,rH',gL,g43,?_,⟨b20,aR,cR,I,I,oR⟩,hL.imp fun _ _ h=>h.le (l1.trans le),?_⟩,hd',I⟩
 all_goals simp_all
end
section
theorem pG(n:Nat):0<eq (aI n):=by rw[aI];split <;> simp
def II{n:Nat}(h:n<=2305843009213693952):0<=aK n/\aK n<=18446744073709551615:=by unfold aK;omega
theorem aP.wrL:∀ (f:Nat) (o:fq) (D:Dk) (c:Nat),aP c D->o.num<=2305843009213693952->aP (c+(eq o.rest / 63+1)) (wrL f o D).2.1
 | 0,o,D,c,h,_=>h.up qo
 | f+1,o,D,c,h,hn=>by
  have hw:=h.write (aK o.num) o.full (UInt8.ofNat (min (eq o.rest) 63)::o.rest.take (min (eq o.rest) 63)) (II hn);rw[nq]
  split
  ·exact hw.up qo
  split
  ·exact hw.up qo
  rename_i h1 h2;refine (aP.wrL f _ _ _ hw (by exact hn)).up ?_;dsimp only;rw[aak];omega
theorem AM:∀ (f:Nat) (o:fq) (D:Dk),(wrL f o D).1.num=o.num/\(wrL f o D).1.idx=o.idx/\(wrL f o D).1.full<=o.full+eq o.rest / 63
 | 0,o,D=>⟨rfl,rfl,acx _ _⟩
 | f+1,o,D=>by
  rw[nq]
  split
  ·simp
  split
  ·exact ⟨I,I,aH⟩
  obtain ⟨h1,h2,h3⟩:=AM f { o with full:=o.full+1,rest:=o.rest.drop 63 } (D.write (aK o.num) o.full (UInt8.ofNat (min (eq o.rest) 63)::o.rest.take (min (eq o.rest) 63))).1;refine ⟨h1,h2,aas h3 ?_⟩;dsimp only;rw[aak];omega
theorem zw:∀ (f:Nat) (o:fq) (D:Dk),eq o.rest<f->(wrL f o D).2.2=0->eq (wrL f o D).1.rest<=62
 | 0,o,D,h,_=>by omega
 | f+1,o,D,h,he=>by
  rw[nq] at he ⊢
  split
  ·grind
  rename_i h1;rw[aaa h1] at he
  split
  ·simp
  rename_i h2;rw[aaa h2] at he;exact zw f _ _ (by dsimp only;rw[aak];omega) he
theorem aP.wrO{c:Nat}{D:Dk}(h:aP c D)(o:fq)(b:List UInt8)(hn:o.num<=2305843009213693952):aP (c+((eq o.rest+eq b) / 63+1)) (wrO o b D).2.1:=by
 have:=aP.wrL (eq o.rest+eq b+1) { o with rest:=o.rest++b } D c h hn;dsimp only at this
 rwa [aah] at this
theorem pN(o:fq)(b:List UInt8)(D:Dk):(wrO o b D).1.num=o.num/\(wrO o b D).1.idx=o.idx/\(wrO o b D).1.full<=o.full+(eq o.rest+eq b) / 63:=by
 have:=AM (eq o.rest+eq b+1) { o with rest:=o.rest++b } D;dsimp only at this
 rwa [aah] at this
def zt(o:fq)(b:List UInt8)(D:Dk)(h:(wrO o b D).2.2=0):eq (wrO o b D).1.rest<=62:=zw _ _ _ Nm h
theorem Wl.sync_eq(W:Wl)(D:Dk):(W.sync D).1={ W with code:=(W.sync D).1.code }:=by
 unfold Wl.sync
 split
 ·rfl
 split <;> rfl
def aP.syncW{c:Nat}{D:Dk}(h:aP c D)(W:Wl):aP (c+1) (W.sync D).2:=by
 unfold Wl.sync
 split
 ·exact h.up qo
 split
 ·exact h.up qo
 exact h.sync _
def Wl.sync_code{W:Wl}{D:Dk}(h:(W.sync D).1.code=0):W.code=0:=by
 grind [Wl.sync]
theorem cy.sync{c:Nat}{W:Wl}(o:cy c W)(D:Dk):cy c (W.sync D).1:=by
 rw[Wl.sync_eq];exact ⟨o.last,o.recs,o.old,o.next,o.op,fun q hq hc=>o.rest q hq (Wl.sync_code hc),o.olds,o.recl⟩
theorem aP.begin{c:Nat}{D:Dk}(h:aP c D){W:Wl}(o:cy c W)(i:Nat)(hi:i<18446744073709551616)(hc:c<=1000000000):aP (c+2) (W.begin i D).2:=by
 have h1:=h.syncW W;have hn:=o.next;unfold cG at hn;have hu:=dH hi;unfold Wl.begin
 split
 ·exact h1.up qo
 refine (h1.wrO ⟨W.next,i,0,[]⟩ (aI i) aH).up ?_;dsimp only[List.length_nil];omega
theorem cy.begin{c:Nat}{W:Wl}(o:cy c W)(i:Nat)(hi:i<=bn)(D:Dk):cy (c+1) (W.begin i D).1:=by
 have h1:=o.sync D;unfold Wl.begin
 split
 ·exact h1.up qo
 have hn:=pN ⟨W.next,i,0,[]⟩ (aI i) (W.sync D).2;have hu:=dH (n:=i) (by unfold bn at hi;omega);dsimp only[List.length_nil] at hn;rw[Wl.sync_eq];refine ⟨o.last,aas o.recs qo,?_,?_,?_,?_,?_,o.recl⟩
 ·have:=o.old;simp_all
 ·have:=o.next;dsimp only;omega
 ·intro q hq;simp only[aae] at hq;rw[<-hq];have:=o.next;omega
 ·simp_all [zt]
 intro s hs;rcases aaj.1 hs with hs|hs
 ·have:=o.olds s hs;omega
 simp only[aaz] at hs;subst hs;have:=o.next;omega
def H1{W:Wl}{i:Nat}{D:Dk}(h:(W.begin i D).1.code=0):(W.begin i D).1.op≠none/\(W.begin i D).1.first=W.first/\(W.begin i D).1.recs=W.recs/\(W.sync D).1.code=0:=by
 unfold Wl.begin at h ⊢
 split
 ·simp_all
 rename_i h2;rw[Wl.sync_eq]
 simp_all
def pu(W:Wl)(i:Nat)(D:Dk):(W.begin i D).1.first=W.first/\(W.begin i D).1.recs=W.recs:=by
 unfold Wl.begin
 split
 ·rw[Wl.sync_eq];simp
 rw[Wl.sync_eq];simp
def ph{b:List UInt8}(h:eq b<=512):0<eq (cm b)/\eq (cm b)<=522:=by
 grind [pG,dH,m9]
theorem aP.lay{c:Nat}{D:Dk}(h:aP c D){W:Wl}(o:cy c W)(hc:c<=1000000000)(hw:W.code=0){b:List UInt8}(hb:eq b<=512):aP (c+10) (dl W b D).2.1:=by
 unfold dl;cases hop:W.op with
 | none=>exact h.up qo
 | some q=>
  have hq:=o.op q hop;unfold cG at hq;have hr:=o.rest q hop hw;have hp:=ph hb;exact (h.wrO q (cm b) qo).up qo
theorem cy.lay{c:Nat}{W:Wl}(o:cy c W)(hw:W.code=0)(hl:W.first+eq W.recs<bn){b:List UInt8}(hb:eq b<=512)(D:Dk):cy (c+10) (dl W b D).1:=by
 unfold dl;cases hop:W.op with
 | none=>exact o.up qo
 | some q=>
  have hq:=o.op q hop;have hr:=o.rest q hop hw;have hp:=ph hb;have hn:=pN q (cm b) D;have h1:=o.recs;have h2:=o.old;have h3:=o.next;have h4:=o.last;refine ⟨?_,?_,aH,aH,?_,?_,?_,?_⟩
  ·grind
  ·grind
  ·grind
  ·simp_all [zt]
  ·intro s hs;have:=o.olds s hs;omega
  intro r hr;dsimp only at hr
  split at hr
  ·rcases aaj.1 hr with hr|hr
   ·exact o.recl r hr
   simp_all
  exact o.recl r hr
theorem aP.append{c:Nat}{D:Dk}(h:aP c D){W:Wl}(o:cy c W)(hc:c<=999999990)(b:List UInt8):aP (c+12) (W.append b D).2.1:=by
 have hl:=o.last;unfold Wl.append
 split
 ·exact h.up qo
 rename_i hw;have hw:=Decidable.not_not.1 hw
 split
 ·exact h.up qo
 split
 ·exact h.up qo
 split
 ·have hb:=h.begin o (W.first+eq W.recs) (by unfold bn at hl;omega) qo
  split
  ·exact hb.up qo
  rename_i h2;exact (hb.lay ((o.begin _ hl D).up qo) qo (Decidable.not_not.1 h2) qo).up qo
 exact (h.lay o qo hw qo).up qo
theorem cy.append{c:Nat}{W:Wl}(o:cy c W)(b:List UInt8)(D:Dk):cy (c+12) (W.append b D).1:=by
 have hl:=o.last;unfold Wl.append
 split
 ·exact o.up qo
 rename_i hw;have hw:=Decidable.not_not.1 hw
 split
 ·exact o.up qo
 split
 ·exact o.up qo
 split
 ·have hb:=o.begin (W.first+eq W.recs) hl D
  split
  ·exact hb.up qo
  rename_i h2;have hr:=pu W (W.first+eq W.recs) D;exact (hb.lay (Decidable.not_not.1 h2) (by rw[hr.1,hr.2];omega) qo _).up qo
 exact (o.lay hw qo qo D).up qo
theorem aP.truncate{c:Nat}{D:Dk}(h:aP c D){W:Wl}(o:cy c W)(hc:c<=1000000000)(i:Nat)(hi:i<18446744073709551616):aP (c+2) (W.truncate i D).2.1:=by
 unfold Wl.truncate
 split
 ·exact h.up qo
 split
 ·exact h.up qo
 split
 ·exact h.up qo
 exact h.begin o i hi hc
def cy.cutR{c:Nat}{W:Wl}(o:cy c W)(n:Nat):cy c { W with recs:=W.recs.take n }:=by
 have h1:eq (W.recs.take n)<=eq W.recs:=by rw[aam];omega
 exact ⟨by have:=o.last;dsimp only;omega,by have:=o.recs;dsimp only;omega,o.old,o.next,o.op,o.rest,o.olds,fun r hr=>o.recl r (aaW hr)⟩
theorem cy.truncate{c:Nat}{W:Wl}(o:cy c W)(i:Nat)(D:Dk):cy (c+1) (W.truncate i D).1:=by
 have hl:=o.last;unfold Wl.truncate
 split
 ·exact o.up qo
 split
 ·exact o.up qo
 split
 ·exact o.up qo
 have hb:=o.begin i qo D;dsimp only
 split
 ·have hr:=pu W i D;rw[<-hr.2];exact hb.cutR _
 exact hb
theorem aP.compact1{c:Nat}{D:Dk}(h:aP c D){W:Wl}(o:cy c W)(hc:c<=1000000000)(i:Nat)(hi:i<18446744073709551616):aP (c+2) (W.compact1 i D).2:=by
 unfold Wl.compact1
 split
 ·exact h.begin o i hi hc
 exact h.up qo
theorem cy.compact1{c:Nat}{W:Wl}(o:cy c W)(i:Nat)(D:Dk):cy (c+1) (W.compact1 i D).1:=by
 have hl:=o.last;unfold Wl.compact1
 split
 ·exact o.begin i qo D
 exact o.up qo
theorem aP.compact2{c:Nat}{D:Dk}(h:aP c D){W:Wl}(o:cy c W)(hc:c<=1000000000)(i:Nat)(hi:i<18446744073709551616):aP (c+3) (W.compact2 i D).2:=(h.compact1 o hc i hi).syncW _
theorem cy.compact2{c:Nat}{W:Wl}(o:cy c W)(i:Nat)(D:Dk):cy (c+1) (W.compact2 i D).1:=(o.compact1 i D).sync _
def xh(W:Wl)(i:Nat)(D:Dk):(W.compact2 i D).1.first=W.first/\(W.compact2 i D).1.recs=W.recs:=by
 unfold Wl.compact2;rw[Wl.sync_eq];unfold Wl.compact1
 split
 ·simp[pu]
 simp
theorem aP.wfree(i:Nat):∀ (f:Nat) (old:List (Nat×Nat)) (D:Dk) (c:Nat),aP c D->aP (c+eq old) (wfree i f old D).2.1/\(wfree i f old D).1 <:+ old
 | 0,old,D,c,h=>⟨h.up qo,abh _⟩
 | f+1,old,D,c,h=>by
  have hf:=h.free (aK (old.headD (0,0)).1);unfold Go.En.wfree
  split
  ·rename_i h1
   split
   ·exact ⟨hf.up qo,abh _⟩
   obtain ⟨g1,g2⟩:=aP.wfree i f (old.drop 1) _ _ hf;refine ⟨g1.up (by rw[aak];omega),g2.trans (acy 1 old)⟩
  exact ⟨h.up qo,abh _⟩
theorem aP.compact{c:Nat}{D:Dk}(h:aP c D){W:Wl}(o:cy c W)(hc:c<=1000000000)(i:Nat)(hi:i<18446744073709551616):aP (c+3+eq (W.compact2 i D).1.old) (W.compact i D).2.1:=by
 have h2:=h.compact2 o hc i hi;have h3:=(aP.wfree i (eq (W.compact2 i D).1.old+1) (W.compact2 i D).1.old (W.compact2 i D).2 _ h2).1;unfold Wl.compact
 split
 ·exact h.up qo
 split
 ·exact h.up qo
 split
 ·exact h.up qo
 split
 ·exact h2.up qo
 grind
theorem cy.compact{c:Nat}{W:Wl}(o:cy c W)(i:Nat)(D:Dk):cy (c+1) (W.compact i D).1:=by
 have h2:=o.compact2 i D;have hr:=xh W i D
 have hs:(Go.En.wfree i (eq (W.compact2 i D).1.old+1) (W.compact2 i D).1.old (W.compact2 i D).2).1 <:+ (W.compact2 i D).1.old:=by
  generalize (W.compact2 i D).1.old=old;generalize (W.compact2 i D).2=E;generalize (eq old)+1=f
  induction f generalizing old E with
  | zero=>exact abh _
  | succ f ih=>
   grind [List.drop_suffix,Go.En.wfree]
 have hl:=o.last;unfold Wl.compact
 split
 ·exact o.up qo
 rename_i hcode
 split
 ·exact o.up qo
 split
 ·exact o.up qo
 split
 ·exact h2
 rename_i hc2
 split
 ·rename_i h6;exact ⟨h2.last,h2.recs,aas hs.length_le h2.old,h2.next,h2.op,fun q hq hc=>absurd hc h6,fun s hm=>h2.olds s (hs.subset hm),h2.recl⟩
 refine ⟨?_,?_,aas hs.length_le h2.old,h2.next,h2.op,h2.rest,fun s hm=>h2.olds s (hs.subset hm),fun r hm=>o.recl r (aaM hm)⟩
 ·dsimp only;rw[aak];omega
 have:=o.recs;dsimp only;rw[aak];omega
theorem aP.wreset:∀ (l:List Int) (D:Dk) (c:Nat),aP c D->aP (c+eq l) (wreset l D).1
 | [],D,c,h=>h.up qo
 | a::r,D,c,h=>by
  have hf:=h.free a;unfold Go.En.wreset
  split
  ·split
   ·exact (aP.wreset r _ _ hf).up (by simp only[aan];omega)
   exact hf.up (by simp only[aan];omega)
  exact (aP.wreset r _ _ h).up (by simp only[aan];omega)
theorem aP.reset{c:Nat}{D:Dk}(h:aP c D)(W:Wl)(first:Nat):aP (c+eq (aU D)) (W.reset first D).2.1:=by
 have h1:=aP.wreset (aU D) D c h;unfold Wl.reset
 split
 ·exact h.up qo
 split
 ·exact h.up qo
 split
 all_goals omega
theorem cy.reset{c:Nat}{W:Wl}(o:cy c W)(first:Nat)(D:Dk):cy c (W.reset first D).1:=by
 unfold Wl.reset
 split
 ·exact o
 split
 ·exact o
 split
 ·rename_i h1;exact ⟨o.last,o.recs,o.old,o.next,o.op,fun q hq hc=>absurd hc h1,o.olds,o.recl⟩
 exact ⟨by simp;omega,Nm,Nm,o.next,Nm,Nm,Nm,Nm⟩
end
section
def H4{dh hv:PH}{m:List PH}(wb db:Nat)(W:Wl)(hW:dq K wb db W m)(D:Dk)(c:Nat)(oD:aP c D)(hc:c<=999999000)(hb:cy c W)(hd:bN K db D dh)(ab:Option Addr)(cb:Nat)(b:List UInt8)(hbl:eq b<1099511627776)(hin:In K hs hv)(x:aw hv ab (eq b) cb 1 (bv b)):
  aj w0 203 [Nr wb,.slice ab (eq b) cb] K (m++dh::hs)
   (fun v K' hs'=>Le K K'/\∃ m' dh',hs'=m'++dh'::hs/\dq K' wb db (W.append b D).1 m'/\bN K' db (W.append b D).2.1 dh'/\v=.int .i64 (W.append b D).2.2):=by
 obtain ⟨ob,aL,cL,aO,cO,oH,rH,gL,gO,rfl,hop,hL,hO⟩:=id hW;have hlast:=hb.last;refine cB Tryz.func203 ?_;refine ai 0 I fun b10 h10=>fin 1 I (th (ax h10 I (fun e2=>?_) (fun e2=>?_)))
 ·have e:W.append b D=(W,D,W.code):=by unfold Wl.append;rw[aab e2]
  rw[e];refine au ?_;exact ah I I ⟨Le.refl _,_,_,I,hW,hd,I⟩
 have hcode:W.code=0:=Decidable.not_not.1 e2;refine acI (ai 2 I fun b18 h18=>fin 1 I (th (ax h18 I (fun e4=>?_) (fun e4=>?_))))
 ·have e:W.append b D=(W,D,50):=by grind [Wl.append]
  rw[e];refine au ?_;exact ah I I ⟨Le.refl _,_,_,I,hW,hd,I⟩
 refine acI (cl 1 I (pR wb db W hW hlast) ?_);rintro v21 K21 hs21 ⟨rfl,rfl,rfl⟩;refine ar 0 I (rj _ (by unfold bn at hlast;omega)) (ai 0 rfl fun b23 h23=>fin 1 rfl (th (ax h23 rfl (fun e6=>?_) (fun e6=>?_))))
 ·have e:W.append b D=(W,D,51):=by grind [Wl.append,bn]
  rw[e];refine au ?_;exact ah I I ⟨Le.refl _,_,_,I,hW,hd,I⟩
 have e0:W.append b D=if j5 W.op=true then
   (if (W.begin (W.first+eq W.recs) D).1.code≠0 then ((W.begin (W.first+eq W.recs) D).1,(W.begin (W.first+eq W.recs) D).2,(W.begin (W.first+eq W.recs) D).1.code)
    else dl (W.begin (W.first+eq W.recs) D).1 b (W.begin (W.first+eq W.recs) D).2)
  else dl W b D:=by grind [Wl.append,bn]
 rw[e0];obtain ⟨B,hB⟩:=be (W.begin (W.first+eq W.recs) D);have oB:aP (c+2) B.2:=by rw[hB];exact oD.begin hb _ (by unfold bn at hlast;omega) qo
 have bB:cy (c+2) B.1:=by rw[hB];exact (hb.begin _ hlast D).up qo
 have rB2:=pu W (W.first+eq W.recs) D;have oB2:B.1.code=0->B.1.op≠none:=by rw[hB];exact fun h=>(H1 h).1
 rw[<-hB] at rB2 ⊢
 refine sk (bl (th (jR (σ:=(Wl×Dk)×(List PH×PH)×PH) (fun _=>[(0,Nr wb),(1,.slice ab (eq b) cb)]) (fun s=>s.2.2) (fun s=>s.2.1.1++s.2.1.2::hs)
  (fun s=>Le K21 s.2.2/\dq s.2.2 wb db s.1.1 s.2.1.1/\bN s.2.2 db s.1.2 s.2.1.2/\aP (c+2) s.1.2/\cy (c+2) s.1.1/\s.1.1.code=0/\s.1.1.op≠none/\s.1.1.first+eq s.1.1.recs<bn /\
   (if j5 W.op=true then (if B.1.code≠0 then (B.1,B.2,B.1.code) else dl B.1 b B.2) else dl W b D)=dl s.1.1 b s.1.2) ?_ ?_)))
 ·refine au ?_;cases hwo:W.op with
  | none=>
   rw[hwo] at hop;obtain ⟨rfl,rfl,rfl⟩:=hop;refine En.cb 0 I (fun h=>cl 13 I (pR wb db W hW hlast) ?_) (fun h=>by simp at h);rintro v42 K42 hs42 ⟨rfl,rfl,rfl⟩;refine ar 0 I (rj _ (by unfold bn at hlast;omega)) (cl 0 rfl (rA wb db W hW D c oD.ok qo hb hd (W.first+eq W.recs) (by unfold bn at hlast;omega)) ?_);rintro v44 K44 hs44 ⟨le,m',dh',rfl,hW',hd',rfl⟩;rw[<-hB] at hW' hd' ⊢;refine ai 0 I fun b45 h45=>fin 1 I (th (ax h45 I (fun e12=>?_) (fun e12=>?_)))
   ·rw[aab (by rfl),aab e12];obtain ⟨ob2,aL2,cL2,aO2,cO2,oH2,rH2,gL2,gO2,rfl,hop2,hL2,hO2⟩:=id hW';refine au ?_;exact ah I I ⟨le,_,_,I,hW',hd',I⟩
   have e12:=Decidable.not_not.1 e12;refine sk ?_;exact fb ((B.1,B.2),(m',dh'),K44) ⟨le,hW',hd',oB,bB,e12,oB2 e12,by rw[rB2.1,rB2.2];unfold bn at hlast ⊢;omega,by rw[aab (by rfl),aaa qo]⟩ sb rfl rfl
  | some o=>
   rw[hwo] at hop;obtain ⟨b1,aR,cR,rfl,rfl,oR⟩:=hop;refine En.cb 0 I (fun h=>by simp at h) (fun h=>au ?_);refine bh 0 I (fun h37=>?_) (fun h37=>?_)
   ·have hneed:j5 (some o)=true:=decide_eq_true qo;refine cl 4 I (pR wb db W hW hlast) ?_;rintro v42 K42 hs42 ⟨rfl,rfl,rfl⟩;refine ar 0 I (rj _ (by unfold bn at hlast;omega)) (cl 0 rfl (rA wb db W hW D c oD.ok qo hb hd (W.first+eq W.recs) (by unfold bn at hlast;omega)) ?_);rintro v44 K44 hs44 ⟨le,m',dh',rfl,hW',hd',rfl⟩;rw[<-hB] at hW' hd' ⊢;refine ai 0 I fun b45 h45=>fin 1 I (th (ax h45 I (fun e12=>?_) (fun e12=>?_)))
    ·rw[aab hneed,aab e12];obtain ⟨ob2,aL2,cL2,aO2,cO2,oH2,rH2,gL2,gO2,rfl,hop2,hL2,hO2⟩:=id hW';refine au ?_;exact ah I I ⟨le,_,_,I,hW',hd',I⟩
    have e12:=Decidable.not_not.1 e12;refine sk ?_;exact fb ((B.1,B.2),(m',dh'),K44) ⟨le,hW',hd',oB,bB,e12,oB2 e12,by rw[rB2.1,rB2.2];unfold bn at hlast ⊢;omega,by simp_all⟩ sb rfl rfl
   have hneed:¬j5 (some o)=true:=by simp only[j5,decide_eq_true_eq];omega
   refine fin 9 I (th (bY I (sk ?_)));exact fb ((W,D),([_,_,_,_,_],dh),K21) ⟨Le.refl _,hW,hd,oD.up qo,hb.up qo,hcode,by rw[hwo];simp,by dsimp only;unfold bn at hlast ⊢;omega,by rw[aaa hneed]⟩ sb rfl rfl
 clear oB2 rB2 bB oB hop hL hO;rintro ⟨⟨V,E⟩,⟨m1,eh⟩,K1⟩ ⟨le,hV,hE,oE,bV,hcV,hoV,hlV,heq⟩;dsimp only at *;rw[heq];clear heq;obtain ⟨ob,aL,cL,aO,cO,oH,rH,gL,gO,rfl,hop,hL,hO⟩:=id hV;obtain ⟨op,first,recs,old,next,code⟩:=V;dsimp only at *;subst hcV;cases op with
 | none=>exact absurd rfl hoV
 | some o=>
  obtain ⟨b1,aR,cR,rfl,rfl,oR⟩:=hop;have hq:=bV.op o rfl;have hr:=bV.rest o rfl rfl;have hrl:=bV.recs;unfold cG at hq;dsimp only at hq hr hrl;have hpb:=ph (b:=b) qo;have eL:dl ⟨some o,first,recs,old,next,0⟩ b E=(⟨some (wrO o (cm b) E).1,first,if (wrO o (cm b) E).2.2=0 then recs++[b] else recs,old,next,(wrO o (cm b) E).2.2⟩,(wrO o (cm b) E).2.1,(wrO o (cm b) E).2.2):=rfl;rw[eL];refine sq (acI (WL.em ?_));obtain ⟨hv',hin',lev⟩:=hin.le le;refine cl 2 I (nj none 0 [] ab cb b (aZ.nil _ _) (hin'.tail (_::_::_::_::_::[eh])) (x.le lev) Nn qo) ?_;rintro v53 K53 hs53 ⟨hu,rfl,rfl,ao',c',rfl,ou⟩;rw[abd] at ou;refine WL.frz fun K2 l1 l2=>?_;obtain ⟨hv2,hin2,lev2⟩:=hin'.le l1;refine cl 0 I (AJ wb db b1 first _ _ next o aR cR oR qo E (c+2) oE.ok qo (hE.le l1) qo qo ao' c' (cm b) ⟨hpb.1,qo⟩ (.inl I) (ou.isS.le l2)) ?_
  rintro v54 K54 hs54 ⟨le3,aR',cR',rH',dh',rfl,oR',hd',rfl⟩;obtain ⟨hv3,hin3,lev3⟩:=hin2.le le3;have dg:=le.trans (l1.trans le3);refine bh 0 I (fun e14=>?_) (fun e14=>?_)
  ·refine au ?_;rw[aab e14];refine bG [pt wb (dp db (some b1) first (.slice aL (eq recs) cL) (.slice aO (eq old) cO) next (wrO o (cm b) E).2.2) 192] 11 [0,2,4,6,8,10,13,15,17,18,20,23] Nm qk qk (au ?_);refine cl 0 I (j4 ab cb b (hin3.tail (_::_::_::_::_::[dh'])) (((x.le lev).le lev2).le lev3) qo) ?_;rintro v62 K62 hs62 ⟨rfl,g,aoc,cc,rfl,rfl,og⟩;refine WL.frz fun K3 l3 l4=>eK Nm l3 (au ?_);refine lit 0 #[.slice aoc (eq b) cc] I Nn qk fun b63=>ba Nm I (aJ qk 0 I (mF (R:=n6 K3) 0 4 [.slice aoc (eq b) cc] b I I I (hL.imp fun _ _ h=>((h.le l1).le le3).le l3) ⟨aoc,cc,I,og.isS.le l4⟩ I (by simp[Value.oneCell']) I Nn (by show (eq recs+1)*24<=_;omega) (by simp only[maxLen];omega) fun ao64 c64 g64 o64=>ba Nm rfl (aJ qk 2 rfl (stp 0 1 rfl rfl rfl rfl (ci (.inl qk) (aM qk 0 rfl (acF (WL.drop (au ?_)))))))))
   refine ah I I ⟨dg.trans l3,[_,_,_,_,_],dh',I,⟨some b1,ao64,c64,aO,cO,_,rH',g64,gO,?_,⟨b1,aR',cR',I,I,oR'⟩,?_,hO⟩,hd'.le l3,I⟩
   ·dsimp only;rw[aah];rfl
   simp_all
  refine au ?_;rw[aaa e14];refine au ?_;exact ah I I ⟨dg,[_,_,_,_,_],dh',I,⟨some b1,aL,cL,aO,cO,_,rH',gL,gO,I,⟨b1,aR',cR',I,I,oR'⟩,hL.imp fun _ _ h=>(h.le l1).le le3,hO⟩,hd',I⟩
def IB{dh:PH}{m:List PH}(wb db:Nat)(W:Wl)(hW:dq K wb db W m)(D:Dk)(c:Nat)(oD:aP c D)(hc:c<=999999000)(hb:cy c W)(hd:bN K db D dh)(i:Nat)(hi:i<18446744073709551616):
  aj w0 197 [Nr wb,.int .u64 (i:Nat)] K (m++dh::hs)
   (fun v K' hs'=>Le K K'/\∃ m' dh',hs'=m'++dh'::hs/\dq K' wb db (W.truncate i D).1 m'/\bN K' db (W.truncate i D).2.1 dh'/\v=.int .i64 (W.truncate i D).2.2):=by
 obtain ⟨ob,aL,cL,aO,cO,oH,rH,gL,gO,rfl,hop,hL,hO⟩:=id hW;have hlast:=hb.last;have hrl:=hb.recs;unfold bn at hlast;refine enter Tryz.func197 qk I I I (acI (fin 1 I (th (sq (bk (acI (a9 3 0 I I I (ai 0 I fun b10 h10=>fin 1 I (th (ax h10 I (fun e2=>?_) (fun e2=>?_)))))))))))
 ·have e:W.truncate i D=(W,D,W.code):=by unfold Wl.truncate;rw[aab e2]
  rw[e];exact acI (a9 3 0 I I I (fin 1 I (acK (rB (rT (ah I I ⟨Le.refl _,_,_,I,hW,hd,I⟩))))))
 have hcode:W.code=0:=Decidable.not_not.1 e2;refine sq (bG [pt wb (dp db ob W.first (.slice aL (eq W.recs) cL) (.slice aO (eq W.old) cO) W.next W.code) 192] 22 [0,2,4,6,8,10,12,14,16,18,20,22,24,26,28,30,32,34,36,38,40,42] Nm qk qk (bS qk 4 0 I I I (dN qk 0 (i<W.first) I Nm (fun h3=>?_) (fun h3=>?_))))
 ·have e:W.truncate i D=(W,D,51):=by unfold Wl.truncate;rw[aaa e2,aab (.inl h3)]
  rw[e];exact aM qk 16 I (th (cU I (acI (fin 1 I (acK (rB (rT (ah I I ⟨Le.refl _,_,_,I,hW,hd,I⟩))))))))
 refine bS qk 5 0 I I I (bA qk 0 I (v':=.int .u64 (i-W.first:Nat)) (by rw[show ((i:Nat):Int)-((W.first:Nat):Int)=((i-W.first:Nat):Int) from qo];exact bL qo) (bS qk 3 0 I I I (bA qk 1 I (bL (x:=((eq W.recs:Nat):Int)) qo) (dC qk 0 (eq W.recs<i-W.first) I Nm fun b35 h35=>aM qk 2 I (th (ax h35 I (fun e4=>?_) (fun e4=>?_)))))))
 ·have e:W.truncate i D=(W,D,51):=by unfold Wl.truncate;rw[aaa e2,aab (.inr e4)]
  rw[e];exact acI (fin 1 I (acK (rB (rT (ah I I ⟨Le.refl _,_,_,I,hW,hd,I⟩)))))
 refine sq (bG [pt wb (dp db ob W.first (.slice aL (eq W.recs) cL) (.slice aO (eq W.old) cO) W.next W.code) 192] 14 [0,2,4,6,8,10,12,14,16,18,20,22,24,26] Nm qk qk (bS qk 4 0 I I I (bA qk 0 I (v':=.int .u64 (i-W.first:Nat)) (by rw[show ((i:Nat):Int)-((W.first:Nat):Int)=((i-W.first:Nat):Int) from qo];exact bL qo) (bS qk 3 0 I I I (bA qk 1 I (bL (x:=((eq W.recs:Nat):Int)) qo) (dC qk 0 (i-W.first=eq W.recs) I (by simp;omega) fun b50 h50=>aM qk 1 rfl (th (ax h50 rfl (fun e5=>?_) (fun e5=>?_)))))))))
 ·have e:W.truncate i D=(W,D,0):=by unfold Wl.truncate;rw[aaa e2,aaa qo,aab e5]
  rw[e];exact acI (fin 1 I (acK (rB (rT (ah I I ⟨Le.refl _,_,_,I,hW,hd,I⟩)))))
 have e:W.truncate i D=(if (W.begin i D).1.code=0 then { (W.begin i D).1 with recs:=W.recs.take (i-W.first) } else (W.begin i D).1,(W.begin i D).2,(W.begin i D).1.code):=by
  unfold Wl.truncate;rw[aaa e2,aaa qo,aaa e5]
 rw[e];refine sk (bl (acE (cl 2 I (rA wb db W hW D c oD.ok qo hb hd i hi) ?_)));rintro v53 K53 hs53 ⟨le,m',dh',rfl,hW',hd',rfl⟩;have hr:=pu W i D;obtain ⟨B,hB⟩:=be (W.begin i D);rw[<-hB] at hW' hd' hr ⊢;refine ai 0 I fun b54 h54=>fin 0 I (th (ax h54 I (fun e7=>?_) (fun e7=>?_)))
 ·rw[aab e7];obtain ⟨ob2,aL2,cL2,aO2,cO2,oH2,rH2,gL2,gO2,rfl,hop2,hL2,hO2⟩:=hW';obtain ⟨⟨op,first,recs,old,next,code⟩,E⟩:=B;dsimp only at *;obtain ⟨rfl,rfl⟩:=hr;have hcap:=hL2.caps;refine bG [pt wb (dp db ob2 W.first (.slice aL2 (eq W.recs) cL2) (.slice aO2 (eq old) cO2) next code) 192] 14 [0,2,4,6,8,10,12,14,16,18,20,22,24,26,29] Nm qk qk (bP qk 4 0 I qk I I (bP qk 4 0 I qk I I (bA qk 0 I (v':=.int .u64 (i-W.first:Nat)) (by rw[show ((i:Nat):Int)-((W.first:Nat):Int)=((i-W.first:Nat):Int) from qo];exact bL qo) (mK qk 0 0 (i-W.first) I I I (by show ((i-W.first:Nat):Int)=((0+(i-W.first):Nat):Int);omega) qo (aJ qk 2 rfl (stp 0 0 rfl rfl rfl rfl (ci (.inl qk) ?_)))))));obtain ⟨gL3,hg3,hL3⟩:=hL2.cut 0 (i-W.first) qo
  refine aM qk 0 I (th (sq (WC.loss 3 gL3 I hg3 (rg (a9 3 0 I I I (fin 1 I (acK ?_)))))));have hlen:eq (W.recs.take (i-W.first))=i-W.first:=by rw[aam];omega
  refine ah I I ⟨le,[_,_,_,_,_],dh',I,⟨ob2,dm aL2 cL2 0 1,cL2-0,aO2,cO2,oH2,rH2,gL3,gO2,?_,hop2,?_,hO2⟩,hd',I⟩
  ·dsimp only;rw[hlen];rfl
  dsimp only;rw[hlen,<-abs (l:=W.recs)];exact hL3
 rw[aaa e7];obtain ⟨ob2,aL2,cL2,aO2,cO2,oH2,rH2,gL2,gO2,rfl,hop2,hL2,hO2⟩:=id hW';exact sk (acF (a9 3 0 I I I (fin 1 I (acK (ah I I ⟨le,_,_,I,hW',hd',I⟩)))))
end
section
def dt.gets{α:Type}{R:List Value->α->Prop}{size e:Nat}{h:PH}{ao:Option Addr}{n cap:Nat}{xs:List α}(x:dt size e R h ao n cap xs)(hs:0<size){i:Nat}{y:α}(hy:xs[i]?=some y):
  ∃ c,R c y/\eq c=size/\∃ g off cur,ao=some ⟨g,off,none⟩/\h=pt g cur e/\∀ (j:Nat) v,c[j]?=some v->cur[off+i*size+j]?=some v:=by
 obtain ⟨css,h1,h2,h3,h4⟩:=x;obtain ⟨c,hc,hR⟩:=h3.get hy;have hl:=h4 c (aao hc);have hi:i<n:=by grind
 refine ⟨c,hR,hl,?_⟩;rcases h2 with ⟨g1,g2,g3,⟨g4,g5,g6⟩|⟨g,off,cur,g4,g5,g6,g7⟩⟩|⟨rfl,_⟩
 ·omega
 ·refine ⟨g,off,cur,g4,g5,fun j v hv=>?_⟩;have hj:j<size:=by grind
  have hf:=q9 h4 hc j v hv
  grind
 omega
def E8(i f:Nat)(old:List (Nat×Nat))(D:Dk):wfree i (f+1) old D=if 1<eq old/\j1 old i=true then
   (if (D.free (aK (old.headD (0,0)).1)).2≠0 then (old,(D.free (aK (old.headD (0,0)).1)).1,(D.free (aK (old.headD (0,0)).1)).2)
    else wfree i f (old.drop 1) (D.free (aK (old.headD (0,0)).1)).1)
  else (old,D,0):=rfl
def KW{oH rH gL gO:PH}(wb db:Nat)(ob:Option Nat)(first:Nat)(lv:Value)(next:Nat)(code:Int)(aO:Option Addr)(cO:Nat)(old:List (Nat×Nat))(hO:dt 2 197 ww gO aO (eq old) cO old)(h1:1<eq old)(hl:eq old<=1099511627776)(i:Nat):
  aj w0 210 [Nr wb,.int .u64 (i:Nat)] K (pt wb (dp db ob first lv (.slice aO (eq old) cO) next code) 192::oH::rH::gL::gO::hs)
   (fun v K' hs'=>K'=K/\hs'=pt wb (dp db ob first lv (.slice aO (eq old) cO) next code) 192::oH::rH::gL::gO::hs/\v=.bool (j1 old i)):=by
 have hcap:=hO.caps;have hS:=hO.slS.cut 1 qo;obtain ⟨a,ha⟩:=hS.addr qo Nn;rw[ha] at hS;obtain ⟨vs,xs⟩:=hS.isS;refine cB Tryz.func210 ?_;refine mV 0 1 (eq old-1) I I (by show ((eq old:Nat):Int)=_;omega) qo ?_;rw[show dm aO cO 1 2=some a from ha];refine au ?_
 refine loop (σ:=Nat) (fun j=>[(1,.int .u64 (i:Nat)),(11,.slice (some a) (eq old-1) (cO-1)),(12,.int .i64 (eq old-1:Nat)),(13,.int .i64 (j:Nat))]) (fun _=>K) (fun _=>pt wb (dp db ob first lv (.slice aO (eq old) cO) next code) 192::oH::rH::gL::gO::hs)
  (fun j=>j<=eq old-1/\((old.drop 1).take j).any (fun s=>decide (s.2<=i))=false) (fun j=>eq old-1-j) 0 ⟨aad _,rfl⟩ ⟨rfl,rfl,rfl,rfl,trivial⟩ rfl rfl ?_
 rintro j ⟨hj,hno⟩;refine acI (bh 0 I (fun e2=>?_) (fun e2=>?_))
 ·refine au ?_;have hjl:j<eq (old.drop 1):=by rw[aak];omega
  obtain ⟨cs,hc,hcl,hcell⟩:=hS.cells (i:=j) (x:=(old.drop 1)[j]) (aai hjl);obtain ⟨s,hs0⟩:=be ((old.drop 1)[j]);rw[<-hs0] at hc;have hc:cs=[.int .u64 s.1,.int .u64 s.2]:=hc;subst hc;refine au ?_;refine fj 0 j I I xs qo Nn fun a15 h15=>?_;cases h15;refine fW 0 [.int .u64 s.1,.int .u64 s.2] I qk (.inr ⟨4,I⟩) hcell (al 0 (.agg #[.int .u64 0,.int .u64 0]) I qk fun b6=>?_);refine bJ 0 0 I I qk I I ?_;refine fin 0 I (acF (a9 1 0 I I I (ai 1 I fun b20 h20=>?_)));have htk:((old.drop 1).take (j+1))=((old.drop 1).take j)++[s]:=by simp_all [aaK]
  refine fin 0 I<|th (ax h20 I (fun e4=>?_) (fun e4=>?_))
  ·have he:j1 old i=true:=by
    grind [j1]
   rw[he];exact acI (fin 1 I (acK (rB (rT (rT (rB (rT (WQ.drop (ah I I ⟨I,I,I⟩)))))))))
  refine sk<|acG (ar 0 I (aC (x:=((j+1:Nat):Int)) qo)<|fin 1 I (WQ.drop<|bw (x:=j) (j+1) sb I I ⟨qo,?_⟩ qo))
  grind
 refine au ?_
 have he:j1 old i=false:=by
  grind [List.length_drop,j1]
 rw[he];refine au ?_;exact ah I I ⟨I,I,I⟩
def GO{w0:World}{K dh:PH}{m hs:List PH}(wb db:Nat)(W:Wl)(hW:dq K wb db W m)(D:Dk)(c:Nat)(oD:aP c D)(hc:c<=499999000)(hb:cy c W)(hol:eq W.old<=c)(hd:bN K db D dh)(i:Nat)(hi:i<18446744073709551616):
  aj w0 160 [Nr wb,.int .u64 (i:Nat)] K (m++dh::hs)
   (fun v K' hs'=>Le K K'/\∃ m' dh',hs'=m'++dh'::hs/\dq K' wb db (W.compact i D).1 m'/\bN K' db (W.compact i D).2.1 dh'/\v=.int .i64 (W.compact i D).2.2):=by
 obtain ⟨ob,aL,cL,aO,cO,oH,rH,gL,gO,rfl,hop,hL,hO⟩:=id hW;have hlast:=hb.last;have hlast0:=hb.last;have hrl:=hb.recs;unfold bn at hlast;refine cB Tryz.func160 ?_;refine bh 0 I (fun e2=>?_) (fun e2=>?_)
 ·refine au ?_;have e:W.compact i D=(W,D,W.code):=by unfold Wl.compact;rw[aab e2]
  rw[e];refine au ?_;exact ah I I ⟨Le.refl _,_,_,I,hW,hd,I⟩
 refine au ?_;have hcode:W.code=0:=Decidable.not_not.1 e2;refine au ?_;refine ai 0 I fun b21 h21=>fin 1 I (th (ax h21 I (fun e4=>?_) (fun e4=>?_)))
 ·have e:W.compact i D=(W,D,0):=by simp_all [Wl.compact]
  rw[e];refine au ?_;exact ah I I ⟨Le.refl _,_,_,I,hW,hd,I⟩
 refine sq (bG [pt wb (dp db ob W.first (.slice aL (eq W.recs) cL) (.slice aO (eq W.old) cO) W.next W.code) 192] 14 [0,2,4,6,8,10,12,14,16,18,20,22,24,26] Nm qk qk (au ?_));refine bA qk 0 I (v':=.int .u64 (i-W.first:Nat)) (by grind [bL]) (au ?_);refine bA qk 1 I (bL (x:=((eq W.recs:Nat):Int)) qo) (dC qk 0 (eq W.recs<i-W.first) I Nm fun b35 h35=>au ?_);refine ax h35 I (fun e5=>?_) (fun e5=>?_)
 ·have e:W.compact i D=(W,D,51):=by simp_all [Wl.compact]
  rw[e];refine au ?_;exact ah I I ⟨Le.refl _,_,_,I,hW,hd,I⟩
 refine sk (bl (th (jR (σ:=(List PH×PH)×PH) (fun _=>[(0,Nr wb),(1,.int .u64 (i:Nat))]) (fun s=>s.2) (fun s=>s.1.1++s.1.2::hs)
  (fun s=>Le K s.2/\dq s.2 wb db (W.compact1 i D).1 s.1.1/\bN s.2 db (W.compact1 i D).2 s.1.2) ?_ ?_)))
 ·refine acI (cl 2 I (pR wb db W hW hlast0) ?_);rintro v38 K38 hs38 ⟨rfl,rfl,rfl⟩;refine ar 0 I (rj _ qo) (ai 0 I fun b40 h40=>fin 0 I (th (ax h40 I (fun e7=>?_) (fun e7=>?_))))
  ·have e:W.compact1 i D=W.begin i D:=by unfold Wl.compact1;rw[aab qo]
   rw[e];refine rg (cl 2 I (rA wb db W hW D c oD.ok qo hb hd i hi) ?_);rintro v43 K43 hs43 ⟨le,m',dh',rfl,hW',hd',rfl⟩;exact fin 0 I (fb ((m',dh'),K43) ⟨le,hW',hd'⟩ sb I I)
  have e:W.compact1 i D=(W,D):=by unfold Wl.compact1;rw[aaa qo]
  rw[e];refine sk ?_;exact fb (([_,_,_,_,_],dh),K38) ⟨Le.refl _,hW,hd⟩ ⟨I,I,trivial⟩ I I
 rintro ⟨⟨m1,eh⟩,K1⟩ ⟨le,hV,hE⟩;dsimp only at *;have o1:=oD.compact1 hb qo i hi;have b1:=hb.compact1 i D;have o2:=oD.compact2 hb qo i hi;have b2:=hb.compact2 i D;have r2:=xh W i D
 have hol2:eq (W.compact2 i D).1.old<=c+1:=by
  grind [Wl.sync_eq,Wl.compact2,Wl.compact1,Wl.begin]
 refine sq (acI (cl 1 I (vj wb db (W.compact1 i D).1 hV (W.compact1 i D).2 (c+2) o1.ok qo (b1.up qo) hE) ?_));rintro v45 K45 hs45 ⟨rfl,m2,eh2,rfl,hV2,hE2,rfl⟩;have hc2:((W.compact1 i D).1.sync (W.compact1 i D).2)=W.compact2 i D:=rfl;rw[hc2] at hV2 hE2 ⊢
 have e0:W.compact i D=if (W.compact2 i D).1.code≠0 then ((W.compact2 i D).1,(W.compact2 i D).2,(W.compact2 i D).1.code)
  else if (wfree i (eq (W.compact2 i D).1.old+1) (W.compact2 i D).1.old (W.compact2 i D).2).2.2≠0 then
   ({ (W.compact2 i D).1 with old:=(wfree i (eq (W.compact2 i D).1.old+1) (W.compact2 i D).1.old (W.compact2 i D).2).1,code:=(wfree i (eq (W.compact2 i D).1.old+1) (W.compact2 i D).1.old (W.compact2 i D).2).2.2 },(wfree i (eq (W.compact2 i D).1.old+1) (W.compact2 i D).1.old (W.compact2 i D).2).2.1,(wfree i (eq (W.compact2 i D).1.old+1) (W.compact2 i D).1.old (W.compact2 i D).2).2.2)
  else ({ (W.compact2 i D).1 with old:=(wfree i (eq (W.compact2 i D).1.old+1) (W.compact2 i D).1.old (W.compact2 i D).2).1,recs:=W.recs.drop (i-W.first),first:=i },(wfree i (eq (W.compact2 i D).1.old+1) (W.compact2 i D).1.old (W.compact2 i D).2).2.1,0):=by
  simp_all [aaa,Wl.compact]
 rw[e0];clear e0 hc2;obtain ⟨Z,hZ⟩:=be (W.compact2 i D);rw[<-hZ] at hV2 hE2 r2 o2 b2 hol2 ⊢;clear hZ hV hE o1 b1;obtain ⟨⟨op,first,recs,old,next,code⟩,E⟩:=Z;dsimp only at *;obtain ⟨rfl,rfl⟩:=r2;refine ai 0 I fun b46 h46=>fin 0 I (th (ax h46 I (fun e9=>?_) (fun e9=>?_)))
 ·rw[aab e9];obtain ⟨ob2,aL2,cL2,aO2,cO2,oH2,rH2,gL2,gO2,rfl,hop2,hL2,hO2⟩:=id hV2;refine au ?_;exact ah I I ⟨le,_,_,I,hV2,hE2,I⟩
 obtain rfl:code=0:=Decidable.not_not.1 e9;rw[aaa Nm];obtain ⟨ob2,aL2,cL2,aO2,cO2,oH2,rH2,gL2,gO2,rfl,hop2,hL2,hO2⟩:=hV2;dsimp only at *;have hcapL:=hL2.caps;obtain ⟨R,hR⟩:=be (wfree i (eq old+1) old E);rw[<-hR];refine sk (th (sq (bk ?_)))
 refine loop (σ:=(Nat×List (Nat×Nat)×Dk)×(Option Addr×Nat×PH×PH)) (fun _=>[(0,Nr wb),(1,.int .u64 (i:Nat))]) (fun _=>K45)
  (fun s=>pt wb (dp db ob2 W.first (.slice aL2 (eq W.recs) cL2) (.slice s.2.1 (eq s.1.2.1) s.2.2.1) next 0) 192::oH2::rH2::gL2::s.2.2.2.1::s.2.2.2.2::hs)
  (fun s=>wfree i s.1.1 s.1.2.1 s.1.2.2=R/\eq s.1.2.1<s.1.1/\eq s.1.2.1<=eq old/\(∀ x∈s.1.2.1,x.1<=cG+(c+1))/\aP (c+3+(eq old-eq s.1.2.1)) s.1.2.2/\bN K45 db s.1.2.2 s.2.2.2.2/\dt 2 197 ww s.2.2.2.1 s.2.1 (eq s.1.2.1) s.2.2.1 s.1.2.1)
  (fun s=>s.1.1) ((eq old+1,old,E),(aO2,cO2,gO2,eh2)) ⟨hR.symm,Nm,aac _,fun x hx=>(b2.olds x hx).1,by dsimp only;exact o2.up qo,hE2,hO2⟩ sb I I ?_
 rintro ⟨⟨f,old1,E1⟩,⟨aO1,cO1,gO1,eh1⟩⟩ ⟨hw,hlf,hlo,hmany,oE,hE1,hO1⟩;dsimp only at *;obtain ⟨f,rfl⟩:∃ g,f=g+1:=⟨f-1,qo⟩;rw[E8] at hw;refine au ?_;refine ai 1 I fun b56 h56=>?_
 refine' dU (q:=j1 old1 i=true) 1 4 61 [56,57] h56 I I I I I I I (fun hp1=>?x11) (fun b61 h61=>?_)
 case x11=>
  refine cl 2 I (KW wb db ob2 W.first _ next 0 aO1 cO1 old1 hO1 qo qo i) ?_;rintro v60 K60 hs60 ⟨rfl,rfl,rfl⟩;exact oO fun b60 h60=>fin 1 I (bK h60 I I I)
 refine fin 0 I<|th (ax h61 I (fun e12=>?_) (fun e12=>?_))
 ·rw[aab ⟨qo,e12.2⟩] at hw;have hl1:1<eq old1:=qo
  obtain ⟨s,hs0⟩:∃ s,old1[0]?=some s:=⟨old1[0]'qo,aai qo⟩
  have hhd:old1.headD (0,0)=s:=by
   cases old1 with
   | nil=>simp at hl1
   | cons a l=>simpa using hs0
  rw[hhd] at hw;have hs1:=hmany s (aao hs0);unfold cG at hs1;obtain ⟨cs,hcs,hcl,g,off,cur,rfl,rfl,hcur⟩:=hO1.gets Nn hs0;have hcs:cs=[.int .u64 s.1,.int .u64 s.2]:=hcs;subst hcs;have hcap1:=hO1.caps;refine au ?_;refine bG [pt wb (dp db ob2 W.first (.slice aL2 (eq W.recs) cL2) (.slice (some ⟨g,off,none⟩) (eq old1) cO1) next 0) 192,pt g cur 197] 14 [0,2,4,6,8,10,12,14,16,18,20,22,25,27,29,30] Nm qk qk (dk [13] qk 4 0 I qk I I (dk [13,12,11,10,9] qk 3 0 I qk I I (bt qk 0 0 I I qo ?_)));simp only[bf,abq,aa5];refine dk [13,12] qk 1 1 I qk I (by simpa using hcur 0 _ rfl) (au ?_);refine cl 0 I (nZ s.1 qo) ?_;rintro v74 K74 hs74 ⟨rfl,rfl,rfl⟩;refine ba Nm I (aJ qk 0 I (cl 0 I (Ct.at 5 I (p7 db E1 _ oE.ok qo hE1 (aK s.1))) ?_))
  rintro v75 K75 hs75 ⟨eh3,rfl,rfl,hE3,rfl⟩;refine ba Nm I (aJ qk 0 I (cl 0 I (sL wb db ob2 W.first _ _ next 0 _) ?_));rintro v76 K76 hs76 ⟨_,rfl,rfl,rfl,rfl⟩;rw[aab rfl];refine au ?_;refine dC qk 0 ((E1.free (aK s.1)).2≠0) I Nm fun b77 h77=>au ?_;refine ax h77 I (fun e13=>?_) (fun e13=>?_)
  ·rw[aab e13] at hw;rw[<-hw,aab e13];refine au ?_;exact ah I I ⟨le,[_,_,_,_,_],eh3,I,⟨ob2,aL2,cL2,some ⟨g,off,none⟩,cO1,oH2,rH2,gL2,_,I,hop2,hL2,hO1⟩,hE3,I⟩
  rw[aaa e13] at hw;rw[Decidable.not_not.1 e13];obtain ⟨gO3,hg3,hO3⟩:=hO1.cut 1 (eq old1-1) qo;refine au ?_;refine mV 0 1 (eq old1-1) I I (by show ((eq old1:Nat):Int)=_;omega) qo (stp 2 0 rfl rfl rfl rfl (fin 0 rfl (bl (WQ.loss 4 gO3 rfl hg3 ?_))));have hdl:eq (old1.drop 1)=eq old1-1:=by simp
  refine bw (x:=((f+1,old1,E1),(some ⟨g,off,none⟩,cO1,pt g cur 197,eh1))) ((f,old1.drop 1,(E1.free (aK s.1)).1),(dm (some ⟨g,off,none⟩) cO1 1 2,cO1-1,gO3,eh3)) sb I ?_ ⟨hw,aH,aH,fun x hx=>hmany x (aaM hx),by dsimp only;exact (oE.free _).up qo,hE3,?_⟩ Nm
  ·dsimp only;rw[hdl];rfl
  grind
 rw[aaa (by grind)] at hw;rw[<-hw,aaa Nm];dsimp only;refine au ?_;refine bG [pt wb (dp db ob2 W.first (.slice aL2 (eq W.recs) cL2) (.slice aO1 (eq old1) cO1) next 0) 192] 14 [0,2,4,6,8,10,12,14,16,18,20,22,24,26,29] Nm qk qk (au ?_);refine bA qk 0 I (v':=.int .u64 (i-W.first:Nat)) (by grind [bL]) (mK qk 0 (i-W.first) (eq W.recs-(i-W.first)) I I I (by simp_all) qo (aJ qk 2 I (stp 0 0 I I I I (ci (.inl qk) ?_))));obtain ⟨gL3,hg3,hL3⟩:=hL2.cut (i-W.first) (eq W.recs-(i-W.first)) qo;refine aM qk 0 I (th (sq (WC.loss 3 gL3 I hg3 (rg (au ?_)))));have hlen:eq (W.recs.drop (i-W.first))=eq W.recs-(i-W.first):=by simp
 refine ah I I ⟨le,[_,_,_,_,_],eh1,I,⟨ob2,dm aL2 cL2 (i-W.first) 1,cL2-(i-W.first),aO1,cO1,oH2,rH2,gL3,gO1,?_,hop2,?_,hO1⟩,hE1,I⟩
 ·dsimp only;rw[hlen];rfl
 grind
end
section
def pF{c:Nat}{D:Dk}(o:aP c D):∀ k∈aU D,0<=k/\k<=18446744073709551615:=fun k hk=>o.ar k ((dJ _).mem_iff.1 hk)
def px{c:Nat}{D:Dk}(o:aP c D):eq (aU D)<=c:=by
 unfold aU;rw[(dJ _).length_eq,aaO];exact o.len
def uX{l:List Int}{j:Nat}{a:Int}(h:l[j]?=some a):(oU l)[j]?=some (.int .u64 a):=by simp[oU,h]
def IM{dh:PH}{m:List PH}(wb db:Nat)(W:Wl)(hW:dq K wb db W m)(D:Dk)(c:Nat)(oD:aP c D)(hc:c<=499999000)(hb:cy c W)(hd:bN K db D dh)(first:Nat)(hfi:first<18446744073709551616):
  aj w0 201 [Nr wb,.int .u64 (first:Nat)] K (m++dh::hs)
   (fun v K' hs'=>Le K K'/\∃ m' dh',hs'=m'++dh'::hs/\dq K' wb db (W.reset first D).1 m'/\bN K' db (W.reset first D).2.1 dh'/\v=.int .i64 (W.reset first D).2.2):=by
 obtain ⟨ob,aL,cL,aO,cO,oH,rH,gL,gO,rfl,hop,hL,hO⟩:=id hW;refine enter Tryz.func201 qk I I I (acI (fin 1 I (th (sq (bk (acI (a9 3 0 I I I (ai 0 I fun b12 h12=>fin 1 I (th (ax h12 I (fun e2=>?_) (fun e2=>?_)))))))))))
 ·have e:W.reset first D=(W,D,W.code):=by unfold Wl.reset;rw[aab e2]
  rw[e];exact acI (a9 3 0 I I I (fin 1 I (acK (rB (rT (ah I I ⟨Le.refl _,_,_,I,hW,hd,I⟩))))))
 have hcode:W.code=0:=Decidable.not_not.1 e2;refine acI (ai 1 I fun b19 h19=>fin 1 I (th (ax h19 I (fun e4=>?_) (fun e4=>?_))))
 ·have e:W.reset first D=(W,D,51):=by unfold Wl.reset;rw[aaa e2,aab (by unfold bn;omega)]
  rw[e];exact acI (fin 1 I (acK (rB (rT (ah I I ⟨Le.refl _,_,_,I,hW,hd,I⟩)))))
 have e0:W.reset first D=if (wreset (aU D) D).2≠0 then ({ W with code:=(wreset (aU D) D).2 },wreset (aU D) D)
   else ({ W with op:=none,old:=[],recs:=[],first:=first },(wreset (aU D) D).1,0):=by unfold Wl.reset;rw[aaa e2,aaa (by unfold bn;omega)]
 rw[e0];clear e0;obtain ⟨R,hR⟩:=be (wreset (aU D) D);rw[<-hR];have hbd:=pF oD;have hal:=px oD;obtain ⟨l,hl⟩:=be (aU D);rw[<-hl] at hbd hal hR;obtain ⟨op,first0,recs,old,next,code⟩:=W;dsimp only at *;subst hcode;refine sk (bl (acE (a9 3 0 I I I (cl 0 I (Ct.at 5 I (vG db D c oD qo hd)) ?_))));rintro v24 K24 hs24 ⟨_,rfl,rfl,le,ao,cc,rfl,xA⟩;rw[<-hl] at xA ⊢;refine fin 2 I (th (bk ?_))
 refine loop (σ:=Nat×Dk×PH) (fun s=>[(0,Nr wb),(1,.int .u64 (first:Nat)),(24,.slice ao (eq l) cc),(25,.int .i64 (eq l)),(26,.int .i64 s.1)]) (fun _=>K24)
  (fun s=>pt wb (dp db ob first0 (.slice aL (eq recs) cL) (.slice aO (eq old) cO) next 0) 192::oH::rH::gL::gO::s.2.2::hs)
  (fun s=>s.1<=eq l/\wreset (l.drop s.1) s.2.1=R/\aP (c+s.1) s.2.1/\bN K24 db s.2.1 s.2.2) (fun s=>eq l-s.1) (0,D,_) ⟨aad _,hR.symm,oD,hd.le le⟩ ⟨rfl,rfl,rfl,rfl,rfl,trivial⟩ rfl rfl ?_
 rintro ⟨j,E,eh⟩ ⟨hj,hw,oE,hE⟩;dsimp only at *;refine acI (ai 0 I fun b27 h27=>fin 0 I (th (sq (ax h27 I (fun e6=>?_) (fun e6=>?_)))))
 ·have hjl:j<eq l:=qo
  obtain ⟨a,ha⟩:∃ a,l[j]?=some a:=⟨l[j],aai hjl⟩;have hab:=hbd a (aao ha);obtain ⟨n,rfl⟩:=aa2 hab.1;rw[aaF hjl,show l[j]=((n:Nat):Int) from by rw[aai hjl] at ha;exact aaU ha] at hw;unfold wreset at hw;refine sk (th (sq (bk (acI (dR 0 j I I I xA (uX ha) fun a28 hc28=>ld 0 I (.inl I) hc28 (fin 1 I (acF (ar 1 I (kK .u64 n 4) (bh 0 I (fun h32=>?_) (fun h32=>?_))))))))))
  ·rw[aab qo] at hw;refine a9 5 0 I I I (cl 1 I (Ct.at 5 I (p7 db E _ oE.ok qo hE ((n:Nat):Int))) ?_);rintro v40 K40 hs40 ⟨eh2,rfl,rfl,hE2,rfl⟩;refine cl 0 I (sL wb db ob first0 _ _ next 0 _) ?_;rintro v41 K41 hs41 ⟨_,rfl,rfl,rfl,rfl⟩;rw[aab rfl];refine ai 0 I fun b42 h42=>fin 1 I (th (ax h42 I (fun e10=>?_) (fun e10=>?_)))
   ·rw[aaa e10] at hw;rw[<-hw,aab e10];refine acI (a9 3 0 I I I (fin 1 I (acK (rB (rT (rT (rB (rT ?_))))))));exact ah I I ⟨le,[_,_,_,_,_],eh2,I,⟨ob,aL,cL,aO,cO,oH,rH,gL,gO,I,hop,hL.imp fun _ _ h=>h.le le,hO⟩,hE2,I⟩
   have e10:=Decidable.not_not.1 e10;rw[aab e10] at hw;rw[e10];exact sk (acG (ar 0 I (aC (x:=((j+1:Nat):Int)) qo) (fin 1 I (bw (x:=(j,E,eh)) (j+1,(E.free ((n:Nat):Int)).1,eh2) sb I I ⟨aH,hw,(oE.free _).up aH,hE2⟩ aH))))
  rw[aaa qo] at hw;exact fin 11 I (th (bY I (sk (acG (ar 0 I (aC (x:=((j+1:Nat):Int)) qo) (fin 1 I (bw (x:=(j,E,eh)) (j+1,E,eh) sb I I ⟨aH,hw,oE.up aH,hE⟩ aH)))))))
 obtain rfl:j=eq l:=qo
 rw[aaY] at hw;have hw:(E,(0:Int))=R:=hw;rw[<-hw,aaa Nm];refine ex (xt (xt (xb (acF (stp 7 0 I I I I (stp 2 0 I I I I (stp 2 0 I I I I (stp 2 0 I I I I (fin 0 I (acF (fin 1 I (acK (WQ.loss 1 em I (.inr I) (WQ.loss 2 em I (.inr I) (WQ.loss 3 em I (.inr I) (WQ.loss 4 em I (.inr I) ?_))))))))))))))));exact ah I I ⟨le,[_,_,_,_,_],eh,I,⟨none,none,0,none,0,em,em,em,em,I,⟨I,I,I⟩,dt.nil _ _,dt.nil _ _⟩,hE,I⟩
end
section
def qP(D:Dk)(num f n:Nat):km D num (f+1) n=match D.read (aK num) n with
  | none=>[]
  | some s=>(s.drop 1).take (gK s)++(if gK s<63 then [] else km D num f (n+1)):=rfl
theorem AI(D:Dk)(num:Nat):∀ (f n:Nat),eq (km D num f n)<=63*f
 | 0,n=>by simp[km]
 | f+1,n=>by
  rw[qP];have ih:=AI D num f (n+1)
  split
  ·simp
  rename_i s _;have:gK s<=63:=by unfold gK;omega
  rw[aah,aam]
  split
  ·simp;omega
  omega
theorem tU(D:Dk)(num:Nat):eq (fw D num)<=4128831:=AI D num 65537 0
def Dk.Ok.noRead{c:Nat}{D:Dk}(o:D.Ok c)(a n:Int)(h:65536<=n):D.read a n=none:=by
 unfold Dk.read;cases hs:D.sec a n with
 | none=>rfl
 | some s=>
  have hm:=f8 hs;obtain ⟨l,h1,h2⟩:=Dk.ar_mem _ hm;rw[h2] at hm;have:=o.at_ _ h1 _ hm;omega
def Lt{dh:PH}(db:Nat)(D:Dk)(c:Nat)(oD:D.Ok c)(hc:c<=1000000000)(hd:bN K db D dh)(num:Nat)(hn:num<=2305843009213693952):
  aj w0 171 [Nr db,.int .u64 (num:Nat)] K (dh::hs)
   (fun v K' hs'=>∃ h',hs'=h'::hs/\h'=dh/\Le K K'/\∃ ao k,v=.slice ao (eq (fw D num)) k/\aw K' ao (eq (fw D num)) k 1 (bv (fw D num))):=by
 refine ent Tryz.func171 ?_;refine acI (fin 1 I (acF (fin 1 I (acF (fin 1 I (th (bk (WC.em ?_))))))))
 refine loop (σ:=(Nat×List UInt8)×(Option Addr×Nat×PH)×PH) (fun s=>[(0,Nr db),(1,.int .u64 (num:Nat)),(5,.slice s.2.1.1 (eq s.1.2) s.2.1.2.1),(6,.int .i64 s.1.1)]) (fun s=>s.2.2) (fun s=>s.2.1.2.2::dh::hs)
  (fun s=>s.1.2++km D num (65537-s.1.1) s.1.1=fw D num/\s.1.1<=65536/\Le K s.2.2/\aZ s.2.1.2.2 s.2.1.1 (eq s.1.2) s.2.1.2.1 5 1 (bv s.1.2)) (fun s=>65537-s.1.1) ((0,[]),(none,0,em),K) ⟨by dsimp only;rw[abd,abT,fw],Nm,Le.refl _,aZ.nil _ _⟩ ⟨rfl,rfl,rfl,rfl,trivial⟩ rfl rfl ?_
 rintro ⟨⟨n,b⟩,⟨ao,k,g⟩,K1⟩ ⟨hw,hn2,le,o⟩;dsimp only at *;rw[show 65537-n=(65536-n)+1 from qo,qP] at hw;have hlen:=tU D num
 have hbl:eq b<=4128831:=by
  grind
 refine sq (bk (acI (cl 2 I (nZ num hn) ?_)));rintro v15 K15 hs15 ⟨rfl,rfl,rfl⟩;refine cl 1 I (Ct.at 1 I (vL db D c oD qo (hd.le le) (aK num) ((n:Nat):Int))) ?_;rintro v17 K17 hs17 ⟨_,rfl,rfl,le2,⟨hr,rfl⟩|⟨s,as',cs,hr,hsl,rfl,xs⟩⟩
 ·rw[hr] at hw;simp only[aar] at hw;refine fin 5 I (acE (fin 2 I (th (cU I (acI (fin 2 I (acK (rT (rB (rT (rT (rB (WQ.frz fun K2 l1 l2=>ah I I ⟨_,I,I,(le.trans le2).trans l1,ao,k,by rw[<-hw],?_⟩)))))))))))));rw[<-hw];exact o.isS.le l2
 rw[hr] at hw;dsimp only at hw
 have hn3:n<65536:=by
  rcases aaL n 65536 with h|h
  ·exact h
  rw[oD.noRead _ _ qo] at hr;cases hr
 obtain ⟨c0,hc0⟩:∃ c0,s[0]?=some c0:=⟨s[0]'qo,aai qo⟩;have hg0:s.getD 0 0=c0:=by rw[aaG,hc0];rfl
 have hx0:(bv s)[0]?=some (.int .u8 c0.toNat):=by simp[bv,hc0]
 have hcl:=c0.toNat_lt;have hu:gK s=min c0.toNat 63:=by unfold gK;rw[hg0]
 obtain ⟨u,hu0⟩:=be (gK s);have hu63:u<=63:=qo
 rw[<-hu0] at hw hu;obtain ⟨t,ht⟩:=be ((s.drop 1).take u);have htl:eq t=u:=by simp_all
 rw[<-ht] at hw;refine au ?_;refine dR 1 0 I I I xs hx0 fun a24 hc24=>ld 0 I (.inl I) hc24 (ar 0 I (aC qo) ?_)
 refine ar 0 I (v':=.int .i64 (u:Nat)) (by
  congr 1
  omega) ?_
 refine au ?_;refine ar 3 I (aC (x:=((1+u:Nat):Int)) qo) ?_
 refine sl 0 1 u I xs I I qo (ys:=bv t) (by
  simp_all [bv]) fun ao32 c32 x32=>?_
 refine app 0 0 I I o (.inl I) x32 I Nn (fM _) (by show (eq b+u)*1<=_;omega) (by simp only[maxLen];omega) fun ao33 c33 g33 o33=>au ?_;have o33':aZ g33 ao33 (eq (b++t)) c33 5 1 (bv (b++t)):=nP o33 (by rw[aah,htl]) (by rw[jD]);refine ai 1 I fun b35 h35=>fin 0 I (th (ax h35 I (fun e3=>?_) (fun e3=>?_)))
 ·rw[aab qo,aar] at hw;refine acI (fin 2 I (acK (rB (rT (rT (rB (WQ.frz fun K2 l1 l2=>ah I I ⟨_,I,I,(le.trans le2).trans l1,ao33,c33,by rw[<-hw,aah,htl],?_⟩)))))));rw[<-hw];exact o33'.isS.le l2
 rw[aaa qo,<-aaD] at hw;refine sk (acG (ar 1 I (aC (x:=((n+1:Nat):Int)) qo) (fin 1 I (bw (x:=((n,b),(ao,k,g),K15)) ((n+1,b++t),(ao33,c33,g33),K17) ⟨I,I,?_,I,trivial⟩ I I ⟨by simp_all,aH,le.trans le2,o33'⟩ aH))));dsimp only;rw[aah,htl]
 rfl
def Dy{h hb:PH}{R:List PH}(rb:Nat)(s:Rd)(r:ej rb hb s h):aj w0 172 [Nr rb] K (h::R) (fun v K' hs'=>K'=K/\hs'=h::R/\v=.int .i64 s.2):=by
 obtain ⟨ao,cap,rfl,x⟩:=r;refine cB Tryz.func172 ?_;exact ah I I ⟨I,I,I⟩
def HH{m:List PH}(wb db:Nat)(W:Wl)(hW:dq K wb db W m)(hb:W.first+eq W.recs<=bn)(hr:eq W.recs<=1000000000000)(hol:eq W.old<=10000000000)(n idx:Nat)(hi:idx<=bn):
  aj w0 114 [Nr wb,.agg #[.int .u64 (n:Nat),.int .u64 (idx:Nat)]] K (m++hs)
   (fun v K' hs'=>K'=K/\∃ m',hs'=m'++hs/\dq K wb db (W.follows n idx).1 m'/\v=.bool (W.follows n idx).2):=by
 obtain ⟨ob,aL,cL,aO,cO,oH,rH,gL,gO,rfl,hop,hL,hO⟩:=hW;obtain ⟨op,first,recs,old,next,code⟩:=W;dsimp only at *;unfold bn at hb hi;refine ent Tryz.func114 ?_;refine acI (bx 0 I fun b3=>WL.h 0 (pt b3 #[.int .u64 (n:Nat),.int .u64 (idx:Nat)] 197) (fin 1 I (th ?_)))
 refine jn (σ:=Nat×List (List UInt8)×(Option Addr×Nat×PH)) (fun _=>[(0,Nr wb),(3,Nr b3)])
  (fun s=>pt b3 #[.int .u64 (n:Nat),.int .u64 (idx:Nat)] 197::pt wb (dp db ob s.1 (.slice s.2.2.1 (eq s.2.1) s.2.2.2.1) (.slice aO (eq old) cO) next code) 192::oH::rH::s.2.2.2.2::gO::hs)
  (fun s=>dt 1 32 (n6 K) s.2.2.2.2 s.2.2.1 (eq s.2.1) s.2.2.2.1 s.2.1/\s.1<=idx/\idx-s.1<=eq s.2.1/\(Wl.follows ⟨op,first,recs,old,next,code⟩ n idx)=(⟨op,s.1,s.2.1.take (idx-s.1),old++[(n,idx)],next,code⟩,true)) ?_ ?_
 ·refine bk (sq (bQ [0,1] 16 [0,2,4,6,8,10,12,14,16,18,20,22,24,26,28,30] ?_));refine au ?_;refine dN qk 1 (eq old=0) I Nm (fun h1=>?_) (fun h1=>?_)
  ·have e:(Wl.follows ⟨op,first,recs,old,next,code⟩ n idx)=(⟨op,idx,[],old++[(n,idx)],next,code⟩,true):=by unfold Wl.follows;rw[aab (.inl h1)]
   refine aM qk 10 I (th (cU I (rg (a9 3 0 I I I (stp 2 1 I I I I (stp 2 1 I I I I (fin 0 I (bl (WQ.loss 4 em I (.inr I) ?_)))))))));exact jx (idx,[],(none,0,em)) ⟨dt.nil _ _,aac _,qo,by rw[e];simp⟩ sb rfl rfl
  refine au ?_;refine dC qk 0 (idx<first) I Nm fun b19 h19=>au ?_;refine ax h19 I (fun e2=>?_) (fun e2=>?_)
  ·have e:(Wl.follows ⟨op,first,recs,old,next,code⟩ n idx)=(⟨op,idx,[],old++[(n,idx)],next,code⟩,true):=by unfold Wl.follows;rw[aab (.inr e2)]
   refine rg (a9 3 0 I I I (stp 2 1 I I I I (stp 2 1 I I I I (fin 0 I (bl (WQ.loss 4 em I (.inr I) ?_))))));exact jx (idx,[],(none,0,em)) ⟨dt.nil _ _,aac _,qo,by rw[e];simp⟩ sb rfl rfl
  refine sq (bQ [0,1] 15 [0,2,4,6,8,10,12,14,16,18,20,22,24,26,28] ?_);refine au ?_;refine bA qk 0 I (v':=.int .u64 (idx-first:Nat)) (by grind [bL]) (au ?_);refine bA qk 1 I (bL (x:=((eq recs:Nat):Int)) qo) (dC qk 0 (eq recs<idx-first) I Nm fun b43 h43=>au ?_);refine ax h43 I (fun e3=>?_) (fun e3=>?_)
  ·have e:(Wl.follows ⟨op,first,recs,old,next,code⟩ n idx)=(⟨op,first,recs,old,next,code⟩,false):=by simp_all [Wl.follows]
   rw[e];refine au ?_;refine jr (WQ.drop ?_);exact ah I I ⟨I,[_,_,_,_,_],I,⟨ob,aL,cL,aO,cO,oH,rH,gL,gO,I,hop,hL,hO⟩,I⟩
  have e:(Wl.follows ⟨op,first,recs,old,next,code⟩ n idx)=(⟨op,first,recs.take (idx-first),old++[(n,idx)],next,code⟩,true):=by simp_all [aaa,Wl.follows]
  exact sk (bl (jx (first,recs,(aL,cL,gL)) ⟨hL,qo,aH,e⟩ sb rfl rfl))
 clear hL;rintro ⟨fi,rs,⟨aR,cR,gR⟩⟩ ⟨hL,h1,h2,e⟩;dsimp only at *;rw[e];have hcap:=hL.caps;refine sq (bG [pt b3 #[.int .u64 (n:Nat),.int .u64 (idx:Nat)] 197,pt wb (dp db ob fi (.slice aR (eq rs) cR) (.slice aO (eq old) cO) next code) 192] 15 [0,2,4,6,8,10,12,14,16,18,20,22,24,26,28,31] Nm qk qk (au ?_));refine bA qk 0 I (v':=.int .u64 (idx-fi:Nat)) (by grind [bL]) (mK qk 0 0 (idx-fi) I I I Nm qo (aJ qk 2 I (stp 0 1 I I I I (ci (.inl qk) ?_))));obtain ⟨gR2,hg2,hL2⟩:=hL.cut 0 (idx-fi) qo;have hlen:eq (rs.take (idx-fi))=idx-fi:=by rw[aam];omega
 refine aM qk 0 I (th (WC.loss 4 gR2 I hg2 (sq (bG [pt wb (dp db ob fi (.slice (dm aR cR 0 1) (idx-fi) (cR-0)) (.slice aO (eq old) cO) next code) 192,pt b3 #[.int .u64 (n:Nat),.int .u64 (idx:Nat)] 197] 10 [0,2,4,6,8,10,13,15,16,18,21] (by intro h hm;simp at hm;rcases hm with rfl|rfl;exact aa4 _ (abr ..);simp) qk qk (bP qk 4 0 rfl qk rfl rfl (kT qk 0 1 rfl qk rfl qk (aJ qk 0 rfl (lit 0 #[.int .u64 (n:Nat),.int .u64 (idx:Nat)] rfl Nn qk fun b65=>?_))))))))
 have hA:∀ h∈[pt wb (dp db ob fi (.slice (dm aR cR 0 1) (idx-fi) (cR-0)) (.slice aO (eq old) cO) next code) 192,pt b3 #[.int .u64 (n:Nat),.int .u64 (idx:Nat)] 197],∀ x:PH,∀ t:List PH,h∈x::pt b3 #[.int .u64 (n:Nat),.int .u64 (idx:Nat)] 197::pt wb (dp db ob fi (.slice (dm aR cR 0 1) (idx-fi) (cR-0)) (.slice aO (eq old) cO) next code) 192::t:=by
  simp
 refine mM [pt wb (dp db ob fi (.slice (dm aR cR 0 1) (idx-fi) (cR-0)) (.slice aO (eq old) cO) next code) 192,pt b3 #[.int .u64 (n:Nat),.int .u64 (idx:Nat)] 197] (fun h hm=>hA h hm _ _) Nm I (au ?_);refine mF 0 6 [.int .u64 (n:Nat),.int .u64 (idx:Nat)] (n,idx) I I I hO I I (by simp[Value.oneCell']) I Nn (by show (eq old+1)*16<=_;omega) (by simp only[maxLen];omega) fun ao66 c66 g66 o66=>mM [pt wb (dp db ob fi (.slice (dm aR cR 0 1) (idx-fi) (cR-0)) (.slice aO (eq old) cO) next code) 192,pt b3 #[.int .u64 (n:Nat),.int .u64 (idx:Nat)] 197] (fun h hm=>hA h hm _ _) Nm rfl (aJ qk 2 rfl (stp 0 2 rfl rfl rfl rfl (ci (.inl qk) (aM qk 0 rfl (th (WC.drop (WC.drop (acI (au ?_)))))))));refine ah I I ⟨I,[_,_,_,_,_],I,⟨ob,dm aR cR 0 1,cR-0,ao66,c66,oH,rH,gR2,g66,?_,hop,?_,?_⟩,I⟩
 ·dsimp only;rw[hlen,aah];rfl
 all_goals simp_all
def KG{rd:PH}{m:List PH}(wb db b8 b12:Nat)(W:Wl)(hW:dq K wb db W m)(hb:W.first+eq W.recs<=bn)(hr:eq W.recs<=1000000000000)(hol:eq W.old<=10000000000)(n idx:Nat)(hi:idx<=bn):
  aj w0 113 [.int .u64 (idx:Nat),Nr b8,Nr b12] K (m++(rd::pt b12 #[.int .u64 (n:Nat)] 29::pt b8 #[Nr wb] 116::hs))
   (fun v K' hs'=>K'=K/\∃ m',hs'=m'++(rd::pt b12 #[.int .u64 (n:Nat)] 29::pt b8 #[Nr wb] 116::hs)/\dq K wb db (W.follows n idx).1 m'/\v=.bool (W.follows n idx).2):=by
 obtain ⟨ob,aL,cL,aO,cO,oH,rH,gL,gO,rfl,hop,hL,hO⟩:=id hW;refine cB Tryz.func113 ?_;refine bd 1 (.agg #[.int .u64 (n:Nat),.int .u64 (idx:Nat)]) I (fun w=>by kernel_rfl) (cl 0 I (HH wb db W hW hb hr hol n idx hi) ?_);rintro v9 K9 hs9 ⟨rfl,m',rfl,hW',rfl⟩;refine au ?_;exact ah I I ⟨I,m',I,hW',I⟩
def KF{rd b12:PH}{m:List PH}(wb db b8:Nat)(W:Wl)(hW:dq K wb db W m)(hr:eq W.recs<=1000000000000)(r:List UInt8)(ao:Option Addr)(k:Nat)(x:aw K ao (eq r) k 1 (bv r)):
  aj w0 115 [.slice ao (eq r) k,Nr b8] K (m++(rd::b12::pt b8 #[Nr wb] 116::hs))
   (fun v K' hs'=>K'=K/\∃ m',hs'=m'++(rd::b12::pt b8 #[Nr wb] 116::hs)/\dq K wb db { W with recs:=W.recs++[r] } m'):=by
 obtain ⟨ob,aL,cL,aO,cO,oH,rH,gL,gO,rfl,hop,hL,hO⟩:=id hW;refine ent Tryz.func115 ?_;refine bQ [0,7] 10 [0,2,4,6,8,10,13,15,16,18,21] ?_;refine au ?_;refine lit 0 #[.slice ao (eq r) k] I Nn qk fun b9=>ba Nm I (aJ qk 0 I (mF 0 4 [.slice ao (eq r) k] r I I I hL ⟨ao,k,I,x⟩ I (by simp[Value.oneCell']) I Nn (by show (eq W.recs+1)*24<=_;omega) (by simp only[maxLen];omega) fun ao10 c10 g10 o10=>ba Nm rfl (aJ qk 2 rfl (stp 0 1 rfl rfl rfl rfl (ci (.inl qk) (aM qk 0 rfl (WQ.drop ?_)))))));refine dA I ⟨I,[_,_,_,_,_],I,⟨ob,ao10,c10,aO,cO,oH,rH,g10,gO,?_,hop,?_,hO⟩⟩
 ·dsimp only;rw[aah];rfl
 simp_all
end
section
def yq{m:Int}{b:List UInt8}(h:(bR m (b,0)).2.2=0):eq (bR m (b,0)).2.1<eq b/\(eq (bR m (b,0)).1:Int)<=m.toNat:=by
 unfold bR at h ⊢;dsimp only at h ⊢
 by_cases h1:(aG m.toNat (b,0)).2.2=0
 ·rw[aab h1] at h ⊢;obtain ⟨g1,g2⟩:=nt h1
  grind [aI]
 rw[aaa h1] at h;exact absurd h h1
def pn(f:Nat)(r:Rd):iX (f+1) r=if (bR 512 r).2.2=0 then (bR 512 r).1::iX f (bR 512 r).2 else []:=rfl
def ri{l:List Nat}{j n:Nat}(h:l[j]?=some n):(ik l)[j]?=some (.int .u64 (n:Nat)):=by simp[ik,h]
def AP(a b:List Nat):ik (a++b)=ik a++ik b:=by simp[ik]
def yD(a b:List Int):ca (a++b)=ca a++ca b:=by simp[ca]
def ye(a:List Int)(x:Int):gJ (a++[x])=if x % 4=1 then x.toNat / 4+1 else gJ a:=by
 grind [gJ,ca]
theorem pz(a:List Int):eq (ca a)<=eq a:=by
 simp[acb,ca]
def xo(g:List Nat)(n:Nat)(r:List Nat)(D:Dk):wsettle g (n::r) D=if (fy D g n).2=0 then wsettle g r (fy D g n).1 else fy D g n:=rfl
def aP.set1{c:Nat}{D:Dk}(o:aP c D)(g:List Nat)(n:Nat):aP (c+1) (fy D g n).1:=by
 unfold fy
 split
 ·exact o.free _
 exact o.sync _
theorem aP.settle:∀ (l:List Nat) (g:List Nat) (D:Dk) (c:Nat),aP c D->aP (c+eq l) (wsettle g l D).1
 | [],g,D,c,o=>o.up qo
 | n::r,g,D,c,o=>by
  rw[xo]
  split
  ·exact (aP.settle r g _ _ (o.set1 g n)).up (by simp only[aan];omega)
  exact (o.set1 g n).up (by simp only[aan];omega)
theorem ej.up{rb:Nat}{hb hb':PH}{s:Rd}{h:PH}(l:Le hb hb')(r:ej rb hb s h):ej rb hb' s h:=let ⟨a,c,h1,h2⟩:=r;⟨a,c,h1,h2.le l⟩
def Kt{dh:PH}{m:List PH}(wb db b8 b12:Nat)(W:Wl)(hW:dq K wb db W m)(hb:W.first+eq W.recs<=bn)(hr:eq W.recs<=900000000000)(hol:eq W.old<=10000000000)(D:Dk)(c:Nat)(oD:D.Ok c)(hc:c<=1000000000)(hd:bN K db D dh)(n:Nat)(hn:n<=2305843009213693952):
  aj w0 112 [Nr db,.int .u64 (n:Nat),.func (.func 113) #[] #[Nr b8,Nr b12],.func (.func 115) #[] #[Nr b8]] K
   (m++(pt b12 #[.int .u64 (n:Nat)] 29::pt b8 #[Nr wb] 116::dh::hs))
   (fun v K' hs'=>Le K K'/\∃ m',hs'=m'++(pt b12 #[.int .u64 (n:Nat)] 29::pt b8 #[Nr wb] 116::dh::hs)/\dq K' wb db (jl D n W).1 m'/\v=.tuple #[.bool (jl D n W).2.1,.bool (jl D n W).2.2]):=by
 obtain ⟨ob,aL,cL,aO,cO,oH,rH,gL,gO,rfl,hop,hL,hO⟩:=id hW;obtain ⟨X,hX⟩:=be (fw D n);have hXl:=tU D n;rw[<-hX] at hXl
 have e0:jl D n W=if (aG bn (X,0)).2.2≠0 then (W,true,true)
  else if (W.follows n (aG bn (X,0)).1).2=false then ((W.follows n (aG bn (X,0)).1).1,false,false)
  else ({ (W.follows n (aG bn (X,0)).1).1 with recs:=(W.follows n (aG bn (X,0)).1).1.recs++iX (eq X+1) (aG bn (X,0)).2 },true,false):=by rw[hX];rfl
 rw[e0];clear e0;refine cB Tryz.func112 ?_;refine cl 2 I (Ct.at 7 I (Lt db D c oD hc hd n hn)) ?_;rintro v15 K15 hs15 ⟨dh,rfl,rfl,le,ao,k,rfl,xX⟩;rw[<-hX] at xX ⊢;refine cl 0 I (pY ao k X (.inl I) xX qo) ?_;rintro v16 K16 hs16 ⟨rfl,rb,rd,hbb,rfl,rfl,ir⟩;refine WL.perm (aat _ _ _) (WL.frz fun K1 l1 l2=>?_)
 replace ir:=ir.up l2
 refine WL.perm (hs':=[_,_,_,_,_]++(rd::_::_::_::hs)) (aaN (l₁:=[_,_,_,_,_])).symm ?_;have le1:=le.trans l1;have hW1:dq K1 wb db W [pt wb (dp db ob W.first (.slice aL (eq W.recs) cL) (.slice aO (eq W.old) cO) W.next W.code) 192,oH,rH,gL,gO]:=hW.le le1;refine au ?_;refine cl 1 I (Ct.at 5 I (gc (.inl I) bn (X,0) aH ir)) ?_;rintro v18 K18 hs18 ⟨rd2,rfl,rfl,rfl,ir2⟩;obtain ⟨U,hU⟩:=be (aG bn (X,0));have hUl:=(nu bn X 0).2;have hU0:U.2.2=0->U.1<=bn:=by rw[hU];exact fun h=>(nt h).2
 rw[<-hU] at ir2 hUl ⊢;refine au ?_;refine cl 1 I (Ct.keep 5 I (Dy rb U.2 ir2)) ?_;rintro v20 K20 hs20 ⟨rfl,rfl,rfl⟩;refine ai 0 I fun b21 h21=>fin 0 I (th (ax h21 I (fun e2=>?_) (fun e2=>?_)))
 ·rw[aab e2];refine acI (fin 2 I (acK (rT (WQ.del 5 I ?_))));exact bM I I I ⟨le1,[_,_,_,_,_],I,hW1,I⟩
 have e2:=Decidable.not_not.1 e2;have hUt:=hU0 e2;rw[aaa (by rw[e2];simp)];refine au ?_;refine cl 2 I (KG wb db b8 b12 W hW1 hb qo hol n U.1 hUt) ?_;rintro v24 K24 hs24 ⟨rfl,m2,rfl,hW2,rfl⟩;obtain ⟨V,hV⟩:=be (W.follows n U.1)
 have hVr:eq V.1.recs<=eq W.recs:=by
  grind [Wl.follows]
 rw[<-hV] at hW2 ⊢;refine oO fun b24 h24=>dE 0 _ I (kU h24) fun b25 h25=>fin 0 I (th (ax h25 I (fun e3=>?_) (fun e3=>?_)))
 ·have e3:V.2=false:=by simp_all
  rw[aab e3];obtain ⟨ob2,aL2,cL2,aO2,cO2,oH2,rH2,gL2,gO2,rfl,_⟩:=id hW2;refine acI (fin 2 I (acK (rT (WQ.del 5 I ?_))));exact bM I I I ⟨le1,[_,_,_,_,_],I,hW2,I⟩
 have e3:V.2=true:=Decidable.not_not.1 e3;rw[aaa (by rw[e3];simp)];refine sk (th (bk ?_))
 refine loop (σ:=(Wl×Rd×Nat)×(List PH×PH)×PH) (fun _=>[(3,.func (.func 115) #[] #[Nr b8]),(10,Nr rb)]) (fun s=>s.2.2) (fun s=>s.2.1.1++(s.2.1.2::pt b12 #[.int .u64 (n:Nat)] 29::pt b8 #[Nr wb] 116::dh::hs))
  (fun s=>{ s.1.1 with recs:=s.1.1.recs++iX s.1.2.2 s.1.2.1 }={ V.1 with recs:=V.1.recs++iX (eq X+1) U.2 }/\eq s.1.2.1.1<s.1.2.2/\s.1.2.1.2=0/\eq s.1.1.recs+eq s.1.2.1.1<=999000000000/\eq s.1.2.1.1<=4128831/\Le K s.2.2/\dq s.2.2 wb db s.1.1 s.2.1.1/\ej rb s.2.2 s.1.2.1 s.2.1.2) (fun s=>s.1.2.2)
  ((V.1,U.2,eq X+1),(m2,rd2),K24) ⟨rfl,aH,e2,aH,aH,le1,hW2,ir2⟩ sb rfl rfl ?_
 clear hW2 hVr;clear m2;rintro ⟨⟨Y,⟨rs,re⟩,f⟩,⟨m2,rd3⟩,K2⟩ ⟨hw,hlf,rfl,hbd,hrs,le2,hW2,ir3⟩;dsimp only at *;obtain ⟨f,rfl⟩:∃ g,f=g+1:=⟨f-1,qo⟩;rw[pn] at hw;obtain ⟨G,hG⟩:=be (bR 512 (rs,0));have hGd:G.2.2=0->eq G.2.1<eq rs:=by rw[hG];exact fun h=>(yq h).1
 rw[<-hG] at hw;obtain ⟨ob2,aL2,cL2,aO2,cO2,oH2,rH2,gL2,gO2,rfl,hop2,hL2,hO2⟩:=id hW2;refine bk (acI (cl 1 I (Ct.atN 5 I (nU (.inl I) 512 Nn (rs,0) aH ir3)) ?_));rintro v27 K27 hs27 ⟨rd4,_,rfl,rfl,hx,ao',c',rfl,rfl,ox,ir4⟩;rw[<-hG] at ox ir4 ⊢;refine WL.frz fun K3 l3 l4=>au ?_;refine cl 1 I (Ct.keep 5 I (Dy rb G.2 (ir4.up l3))) ?_;rintro v29 K29 hs29 ⟨rfl,rfl,rfl⟩;refine ai 0 I fun b30 h30=>fin 0 I (th (ax h30 I (fun e5=>?_) (fun e5=>?_)))
 ·rw[aaa e5,aar] at hw;refine acI (fin 2 I (acK (rT (rB (rT (rB (WQ.del 5 I ?_)))))));rw[<-hw];exact bM I I I ⟨le2.trans l3,[_,_,_,_,_],I,hW2.le l3,I⟩
 have e5:=Decidable.not_not.1 e5;have hgd:=hGd e5;rw[aab e5] at hw;refine sk (acH ?_);have hW3:dq K29 wb db Y [pt wb (dp db ob2 Y.first (.slice aL2 (eq Y.recs) cL2) (.slice aO2 (eq Y.old) cO2) Y.next Y.code) 192,oH2,rH2,gL2,gO2]:=hW2.le l3;refine cl 2 I (KF wb db b8 Y hW3 qo G.1 ao' c' (ox.isS.le l4)) ?_;rintro v33 K33 hs33 ⟨rfl,m5,rfl,hW5⟩;refine fin 0 I (bl ?_);refine bw (x:=((Y,(rs,0),f+1),(m5,rd4),K33)) (({ Y with recs:=Y.recs++[G.1] },G.2,f),(m5,rd4),K33) sb I I ⟨by dsimp only;rw[aaD];exact hw,aH,e5,by grind,aH,le2.trans l3,hW5,ir4.up l3⟩ aH
def Hs{dh x:PH}{m:List PH}(wb db:Nat)(W:Wl)(hW:dq K wb db W m)(D:Dk)(c:Nat)(oD:aP c D)(hc:c<=1000000000)(hd:bN K db D dh)(h0:W.next=0):
  aj w0 111 [Nr wb] K (m++(x::dh::hs))
   (fun v K' hs'=>Le K K'/\∃ m',hs'=m'++(x::dh::hs)/\dq K' wb db { W with next:=gJ (aU D) } m'/\∃ ao k,v=.slice ao (eq (ca (aU D))) k/\aw K' ao (eq (ca (aU D))) k 1 (ik (ca (aU D)))):=by
 obtain ⟨ob,aL,cL,aO,cO,oH,rH,gL,gO,rfl,hop,hL,hO⟩:=hW;obtain ⟨op,first,recs,old,next,code⟩:=W;dsimp only at *;subst h0;have hbd:=pF oD;have hal:=px oD;obtain ⟨l,hl⟩:=be (aU D);rw[<-hl] at hbd hal ⊢;refine cB Tryz.func111 ?_;refine cl 0 I (Ct.at 6 I (vG db D c oD qo hd)) ?_;rintro v10 K10 hs10 ⟨dh,rfl,rfl,le,ao,cc,rfl,xA⟩;rw[<-hl] at xA ⊢;refine fin 2 I (th (bk (WC.em ?_)))
 refine loop (σ:=Nat×(Option Addr×Nat×PH)) (fun s=>[(0,Nr wb),(3,.slice s.2.1 (eq (ca (l.take s.1))) s.2.2.1),(10,.slice ao (eq l) cc),(11,.int .i64 (eq l)),(12,.int .i64 s.1)]) (fun _=>K10)
  (fun s=>s.2.2.2::pt wb (dp db ob first (.slice aL (eq recs) cL) (.slice aO (eq old) cO) (gJ (l.take s.1)) code) 192::oH::rH::gL::gO::x::dh::hs)
  (fun s=>s.1<=eq l/\aZ s.2.2.2 s.2.1 (eq (ca (l.take s.1))) s.2.2.1 29 1 (ik (ca (l.take s.1)))) (fun s=>eq l-s.1) (0,(none,0,em)) ⟨aad _,aZ.nil _ _⟩ ⟨rfl,rfl,rfl,rfl,rfl,trivial⟩ rfl rfl ?_
 rintro ⟨j,⟨an,cn,gn⟩⟩ ⟨hj,o⟩;dsimp only at *;refine acI (ai 0 I fun b13 h13=>au ?_);refine ax h13 I (fun e2=>?_) (fun e2=>?_)
 ·have hjl:j<eq l:=qo
  obtain ⟨a,ha⟩:∃ a,l[j]?=some a:=⟨l[j],aai hjl⟩;have hab:=hbd a (aao ha);obtain ⟨n,rfl⟩:=aa2 hab.1;have htk:l.take (j+1)=l.take j++[((n:Nat):Int)]:=by rw[aaK,ha];rfl
  have hnl:=pz (l.take j);rw[aam] at hnl;refine au ?_;refine dR 0 j I I I xA (uX ha) fun a14 hc14=>ld 0 I (.inl I) hc14 (au ?_);refine ar 1 I (kK .u64 n 4) (ai 0 I fun b18 h18=>fin 0 I (th (ax h18 I (fun e4=>?_) (fun e4=>?_))))
  ·have en:ca [((n:Nat):Int)]=[n / 4]:=by
    simp_all [ca]
   have en1:ca (l.take (j+1))=ca (l.take j)++[n / 4]:=by rw[htk,yD,en]
   have en2:gJ (l.take (j+1))=n / 4+1:=by rw[htk,ye,aab qo];rfl
   refine acI (ar 2 I (vh n 4 qo) (lit 0 #[.int .u64 (n / 4:Nat)] I Nn qk fun b22=>app 0 1 I I o (.inr ⟨0,I⟩) (aZ.ofPt (n:=1) (size:=1) I Nn).isS I Nn (by simp[Value.oneCell']) (by grind) (by simp only[maxLen];omega) fun ao23 c23 g23 o23=>au ?_));refine ar 2 I (vh n 4 qo) (ar 0 I (bL (x:=((n / 4+1:Nat):Int)) qo) (stp 2 2 I I I I (fin 0 I (acG (WL.drop (ar 0 I (aC (x:=((j+1:Nat):Int)) qo) (fin 1 I (bw (x:=(j,(an,cn,gn))) (j+1,(ao23,c23,g23)) ⟨I,?_,I,I,I,trivial⟩ I ?_ ⟨aH,?_⟩ qo))))))))
   ·dsimp only;rw[en1,aah];rfl
   ·dsimp only;rw[en2];rfl
   dsimp only;rw[en1,aah,AP];exact o23
  have en:ca [((n:Nat):Int)]=[]:=by
   simp_all [ca]
  have en1:ca (l.take (j+1))=ca (l.take j):=by rw[htk,yD,en,aar]
  have en2:gJ (l.take (j+1))=gJ (l.take j):=by rw[htk,ye,aaa qo]
  refine sk (acG (ar 0 I (aC (x:=((j+1:Nat):Int)) qo) (fin 1 I ?_)));refine bw (x:=(j,(an,cn,gn))) (j+1,(an,cn,gn)) ⟨I,by dsimp only;rw[en1];rfl,rfl,rfl,rfl,trivial⟩ rfl (by dsimp only;rw[en2]) ⟨aH,by dsimp only;rw[en1];exact o⟩ qo
 obtain rfl:j=eq l:=qo
 rw[aaE] at o ⊢;refine ex (xt (xt (xb (acF (fin 2 I (acK (WQ.frz fun K2 l1 l2=>?_)))))));exact ah I I ⟨le.trans l1,[_,_,_,_,_],I,⟨ob,aL,cL,aO,cO,oH,rH,gL,gO,I,hop,hL.imp fun _ _ h=>h.le (le.trans l1),hO⟩,an,cn,I,o.isS.le l2⟩
def GM(ao:Option Addr)(k:Nat)(l:List Nat)(x:aw K ao (eq l) k 1 (ik l))(hl:eq l<=1099511627776)(n:Nat):
  aj w0 173 [.slice ao (eq l) k,.int .u64 (n:Nat)] K hs (fun v K' hs'=>K'=K/\hs'=hs/\∃ t:Bool,v=.bool t/\(t=true↔n∈l)):=by
 have hidx:aj w0 228 [.slice ao (eq l) k,.int .u64 (n:Nat)] K hs (fun v K' hs'=>K'=K/\hs'=hs/\∃ i:Int,v=.int .i64 i/\(0<=i↔n∈l)):=by
  refine cB Tryz.func228 ?_;refine loop (σ:=Nat) (fun j=>[(0,.slice ao (eq l) k),(1,.int .u64 (n:Nat)),(7,.int .i64 (eq l)),(8,.int .i64 (j:Nat))]) (fun _=>K) (fun _=>hs) (fun j=>j<=eq l/\n∉l.take j) (fun j=>eq l-j) 0 ⟨aad _,Nm⟩ ⟨I,I,I,I,trivial⟩ I I ?_;rintro j ⟨hj,hno⟩;refine acI (bh 0 I (fun e2=>?_) (fun e2=>?_))
  ·refine au ?_;have hjl:j<eq l:=qo
   obtain ⟨a,ha⟩:∃ a,l[j]?=some a:=⟨l[j],aai hjl⟩;refine au ?_;refine dR 3 j I I I x (ri ha) fun a14 hc14=>ld 0 I (.inl I) hc14 (ai 0 I fun b16 h16=>fin 0 I (th (ax h16 I (fun e4=>?_) (fun e4=>?_))))
   ·refine au ?_;refine ah I I ⟨I,I,((j:Nat):Int),I,fun _=>?_,fun _=>by omega⟩
    grind [List.mem_of_getElem?]
   refine sk (acG (ar 0 I (aC (x:=((j+1:Nat):Int)) qo) (fin 1 I (bw (x:=j) (j+1) sb I I ⟨qo,?_⟩ qo))));rw[aaK,ha]
   grind
  refine au ?_;rw[aav qo] at hno;refine au ?_;exact ah I I ⟨I,I,-1,I,fun h=>absurd h Nn,fun h=>absurd h hno⟩
 refine cB Tryz.func173 ?_;refine cl 2 I hidx ?_;rintro v7 K7 hs7 ⟨rfl,rfl,i,rfl,hi⟩;refine ai 0 I fun b8 h8=>au ?_;exact ah I I ⟨I,I,b8,I,h8.trans hi⟩
def IH{dh x:PH}{m:List PH}(wb db:Nat)(W:Wl)(hW:dq K wb db W m)(D:Dk)(c:Nat)(oD:aP c D)(hc:c<=499000000)(hd:bN K db D dh)(l g:List Nat)(al:Option Addr)(kl:Nat)(xl:aw K al (eq l) kl 1 (ik l))(ag:Option Addr)(kg:Nat)(xg:aw K ag (eq g) kg 1 (ik g))(hll:eq l<=c)(hgl:eq g<=c)(hbd:∀ n∈l,n<=2305843009213693952):
  aj w0 116 [Nr wb,.slice al (eq l) kl,.slice ag (eq g) kg] K (m++(x::dh::hs))
   (fun v K' hs'=>K'=K/\∃ dh',hs'=m++(x::dh'::hs)/\bN K db (wsettle g l D).1 dh'/\v=.int .i64 (wsettle g l D).2):=by
 obtain ⟨ob,aL,cL,aO,cO,oH,rH,gL,gO,rfl,hop,hL,hO⟩:=hW;obtain ⟨R,hR⟩:=be (wsettle g l D);rw[<-hR];obtain ⟨S,hS⟩:=be (dp db ob W.first (.slice aL (eq W.recs) cL) (.slice aO (eq W.old) cO) W.next W.code)
 have hS1:S[1]?=some (Nr db):=by rw[hS];rfl
 rw[<-hS];refine cB Tryz.func116 ?_
 refine loop (σ:=Nat×Dk×PH) (fun s=>[(0,Nr wb),(2,.slice ag (eq g) kg),(10,.slice al (eq l) kl),(11,.int .i64 (eq l)),(12,.int .i64 s.1)]) (fun _=>K)
  (fun s=>pt wb S 192::oH::rH::gL::gO::x::s.2.2::hs)
  (fun s=>s.1<=eq l/\wsettle g (l.drop s.1) s.2.1=R/\aP (c+s.1) s.2.1/\bN K db s.2.1 s.2.2) (fun s=>eq l-s.1) (0,D,dh) ⟨aad _,hR.symm,oD,hd⟩ ⟨rfl,rfl,rfl,rfl,rfl,trivial⟩ rfl rfl ?_
 rintro ⟨j,E,eh⟩ ⟨hj,hw,oE,hE⟩;dsimp only at *;refine acI (bh 0 I (fun e2=>?_) (fun e2=>?_))
 ·refine au ?_;have hjl:j<eq l:=qo
  obtain ⟨n,ha⟩:∃ a,l[j]?=some a:=⟨l[j],aai hjl⟩;have hnb:=hbd n (aao ha);rw[aaF hjl,show l[j]=n from by simp_all,xo] at hw;refine au ?_;refine dR 0 j I I I xl (ri ha) fun a14 hc14=>ld 0 I (.inl I) hc14 (fin 1 I (acF (fin 1 I (th ?_))))
  refine jn (σ:=PH) (fun _=>[(0,Nr wb),(2,.slice ag (eq g) kg),(9,.int .i64 (fy E g n).2),(10,.slice al (eq l) kl),(11,.int .i64 (eq l)),(12,.int .i64 (j:Nat))])
   (fun s=>pt wb S 192::oH::rH::gL::gO::x::s::hs) (fun s=>bN K db (fy E g n).1 s) ?_ ?_
  ·refine acI (cl 2 I (GM ag kg g xg qo n) ?_);rintro v18 K18 hs18 ⟨rfl,rfl,t18,rfl,h18⟩;refine fin 0 I (th (ax h18 I (fun e3=>?_) (fun e3=>?_)))
   ·have e:fy E g n=E.free (aK n):=by unfold fy;rw[aab e3]
    rw[e];refine bG [pt wb S 192] 8 [0,2,4,6,8,11,13,14] Nm qk qk (bS qk 3 0 I I hS1 (au ?_));refine cl 0 I (nZ n hnb) ?_;rintro v24 K24 hs24 ⟨rfl,rfl,rfl⟩;refine ba Nm I (aJ qk 0 I (cl 0 I (Ct.at 6 I (p7 db E _ oE.ok qo hE (aK n))) ?_));rintro v25 K25 hs25 ⟨eh2,rfl,rfl,hE2,rfl⟩;exact ba Nm I (aM qk 1 I (jx eh2 hE2 sb I I))
   have e:fy E g n=E.sync (aK n):=by unfold fy;rw[aaa e3]
   rw[e];refine bG [pt wb S 192] 8 [0,2,4,6,8,11,13,14] Nm qk qk (bS qk 3 0 I I hS1 (au ?_));refine cl 0 I (nZ n hnb) ?_;rintro v24 K24 hs24 ⟨rfl,rfl,rfl⟩;refine ba Nm I (aJ qk 0 I (cl 0 I (Ct.at 6 I (rU db E _ oE.ok qo hE (aK n))) ?_));rintro v25 K25 hs25 ⟨eh2,rfl,rfl,hE2,rfl⟩;exact ba Nm I (aM qk 1 I (jx eh2 hE2 sb I I))
  rintro eh2 hE2;refine acI (ai 1 I fun b34 h34=>fin 0 I (th (ax h34 I (fun e5=>?_) (fun e5=>?_))))
  ·rw[aaa e5] at hw;refine au ?_;rw[<-hw];exact ah I I ⟨I,eh2,I,hE2,I⟩
  rw[aab (Decidable.not_not.1 e5)] at hw;exact sk (acG (ar 0 I (aC (x:=((j+1:Nat):Int)) qo) (fin 1 I (bw (x:=(j,E,eh)) (j+1,(fy E g n).1,eh2) sb I I ⟨aH,hw,(oE.set1 g n).up qo,hE2⟩ aH))))
 refine au ?_;obtain rfl:j=eq l:=qo
 rw[aaY] at hw;have hw:(E,(0:Int))=R:=hw;rw[<-hw];refine au ?_;exact ah I I ⟨I,eh,I,hE,I⟩
end
section
theorem AH(D:Dk)(num:Nat):∀ (f n:Nat),∃ m,eq (km D num f n)<=63*m/\∀ i,i<m->(((n+i:Nat):Int))∈(D.ar (aK num)).map (·.1)
 | 0,n=>⟨0,by simp[km],fun i h=>by omega⟩
 | f+1,n=>by
  obtain ⟨m,h1,h2⟩:=AH D num f (n+1);rw[qP];cases hr:D.read (aK num) n with
  | none=>exact ⟨0,Nm,fun i h=>by omega⟩
  | some s=>
   refine ⟨m+1,?_,fun i hi=>?_⟩
   ·have:gK s<=63:=by unfold gK;omega
    dsimp only;rw[aah,aam]
    grind
   by_cases e:i=0
   ·subst e;unfold Dk.read Dk.sec at hr;cases hg:a8 ((n:Nat):Int) (D.ar (aK num)) with
    | none=>rw[hg] at hr;cases hr
    | some x=>exact aap.2 ⟨_,f8 hg,rfl⟩
   have:=h2 (i-1) qo
   grind
def GX{c:Nat}{D:Dk}(o:D.Ok c)(num:Nat):eq (fw D num)<=63*eq (D.ar (aK num)):=by
 obtain ⟨m,h1,h2⟩:=AH D num 65537 0
 have hm:m<=eq (D.ar (aK num)):=by
  have hnd:((List.range m).map fun i=>((i:Nat):Int)).Nodup:=by
   rw[abB,abA];exact (abB.1 List.nodup_range).imp fun h e=>h qo
  have:=hnd.length_le_of_subset (l₂:=(D.ar (aK num)).map (·.1)) (fun x hx=>by
   grind)
  simpa using this
 grind [fw]
def jL(m:List (Int×Ar))(ks:List Int):Nat:=(ks.map fun k=>eq ((a8 k m).getD [])).sum
theorem yK(k0:Int)(u:Ar)(m:List (Int×Ar)):∀ ks:List Int,ks.Nodup->jL ((k0,u)::m) ks<=(if k0∈ks then eq u else 0)+jL m ks
 | [],_=>by simp[jL]
 | k::ks,h=>by
  simp only[aa7] at h;have ih:=yK k0 u m ks h.2;have e0:∀ mm,jL mm (k::ks)=eq ((a8 k mm).getD [])+jL mm ks:=fun mm=>rfl;have e1:a8 k ((k0,u)::m)=if k=k0 then some u else a8 k m:=rfl
  grind
theorem AY:∀ (m:List (Int×Ar)) (ks:List Int),ks.Nodup->jL m ks<=eC m
 | [],ks,_=>by
  have:∀ ks:List Int,jL [] ks=0:=fun ks=>by
   induction ks with
   | nil=>rfl
   | cons k ks ih=>
    have e0:jL [] (k::ks)=0+jL [] ks:=rfl;rw[e0,ih]
  rw[this];omega
 | (k0,u)::m,ks,h=>by
  have h1:=yK k0 u m ks h;have h2:=AY m ks h;have h3:eC ((k0,u)::m)=eq u+eC m:=by simp[eC]
  rw[h3]
  split at h1 <;> omega
def jG(D:Dk)(l:List Nat):Nat:=(l.map fun n=>eq (D.ar (aK n))).sum
def F0(D:Dk)(l:List Nat):jG D l=jL D.areas (l.map aK):=by
 unfold jG jL;rw[aa3]
 rfl
theorem kE{a b:Nat}(h:aK a=aK b):a=b:=by unfold aK at h;omega
theorem yJ{D:Dk}{l:List Nat}(h:l.Nodup):jG D l<=eC D.areas:=by
 rw[F0];refine AY _ _ ?_;rw[abB,abA];exact (abB.1 h).imp fun h e=>h (kE e)
def Fe(D:Dk)(a b:List Nat):jG D (a++b)=jG D a+jG D b:=by simp[jG]
def xK{c:Nat}{D:Dk}(o:D.Ok c):(aU D).Nodup:=(dJ _).symm.nodup o.keys
def pd{l:List Int}(h:l.Nodup)(h0:∀ k∈l,0<=k):(ca l).Nodup:=by
 unfold ca;rw[abB,abA];have h1:=(abB.1 h).filter (fun a=>decide (a % 4=1));refine List.Pairwise.imp_of_mem ?_ h1
 grind
theorem yB{l:List Int}{n:Nat}(h:n∈ca l):∃ a∈l,a % 4=1/\a.toNat / 4=n:=by
 unfold ca at h
 grind
theorem Bu:∀ (l:List Nat) (z:Nat),l.Pairwise (· <= ·)->(∀ n∈l,n<l.foldl (fun _ n=>n+1) z)/\∀ y,(∀ n∈l,y<=n)->y<z->y<l.foldl (fun _ n=>n+1) z
 | [],z,_=>⟨fun n h=>by simp at h,fun y _ h=>h⟩
 | a::t,z,h=>by
  have h1:=aa1.1 h;obtain ⟨g1,g2⟩:=Bu t (a+1) h1.2
  grind
def uo{l:List Int}(h:l.Pairwise (· <= ·)):∀ n∈ca l,n<gJ l:=by
 refine (Bu (ca l) 0 ?_).1;unfold ca;rw[abA];refine (h.filter _).imp fun {a b} hab=>?_;omega
structure ig (D:Dk) (mx:Nat) (don:List Nat) (W:Wl):Prop where
 op:W.op=none
 code:W.code=0
 next:W.next=mx
 recs:eq W.recs<=63*jG D don
 last:W.first+eq W.recs<=bn
 old:eq W.old<=eq don
 olds:∀ s∈W.old,s.1∈don/\s.2<=bn
 recl:∀ r∈W.recs,eq r<=512
def EB(W:Wl)(n idx:Nat):eq (W.follows n idx).1.recs<=eq W.recs/\(∀ r∈(W.follows n idx).1.recs,r∈W.recs)/\(W.follows n idx).1.op=W.op/\(W.follows n idx).1.code=W.code/\(W.follows n idx).1.next=W.next /\
  eq (W.follows n idx).1.old<=eq W.old+1/\∀ s∈(W.follows n idx).1.old,s∈W.old\/s=(n,idx):=by
 unfold Wl.follows
 grind
theorem tV:∀ (f:Nat) (r:Rd),r.2=0->eq (iX f r)<=eq r.1/\∀ x∈iX f r,eq x<=512
 | 0,r,_=>⟨by simp[iX],by simp[iX]⟩
 | f+1,(b,e),he=>by
  have he:e=0:=he;subst he;rw[pn]
  split
  ·rename_i h;obtain ⟨g1,g2⟩:=yq h;obtain ⟨g3,g4⟩:=tV f (bR 512 (b,0)).2 h
   grind
  simp
def ig.step{c:Nat}{D:Dk}(o:D.Ok c){mx fr n:Nat}{don:List Nat}{W:Wl}(h:ig D mx don W)(hchk:(eN D fr n W).1.first+eq (eN D fr n W).1.recs<=bn):ig D mx (don++[n]) (eN D fr n W).1:=by
 have hsum:=Fe D don [n];have hs1:jG D [n]=eq (D.ar (aK n)):=by simp[jG]
 have keep:ig D mx (don++[n]) W:=⟨h.op,h.code,h.next,by have:=h.recs;omega,h.last,by have:=h.old;simp;omega,fun s hs=>⟨by simp[(h.olds s hs).1],(h.olds s hs).2⟩,h.recl⟩;unfold eN at hchk ⊢
 split
 ·exact keep
 rename_i hfr;rw[aaa hfr] at hchk;have hx:=GX o n;unfold jl at hchk ⊢
 split
 ·exact keep
 rename_i h1;rw[aaa h1] at hchk;have h1:=Decidable.not_not.1 h1;have hU:=(nt h1).2;have hUl:=(nu bn (fw D n) 0).2;obtain ⟨f1,f2,f3,f4,f5,f6,f7⟩:=EB W n (aG bn (fw D n,0)).1
 have holds:∀ s∈(W.follows n (aG bn (fw D n,0)).1).1.old,s.1∈don++[n]/\s.2<=bn:=fun s hs=>by
  rcases f7 s hs with g|rfl
  ·exact ⟨by simp[(h.olds s g).1],(h.olds s g).2⟩
  exact ⟨Nm,hU⟩
 split
 ·rename_i h2;rw[aab h2] at hchk;exact ⟨f3.trans h.op,f4.trans h.code,f5.trans h.next,by have:=h.recs;dsimp only;omega,hchk,by have:=h.old;grind,holds,fun r hr=>h.recl r (f2 r hr)⟩
 rename_i h2;rw[aaa h2] at hchk;obtain ⟨g1,g2⟩:=tV (eq (fw D n)+1) (aG bn (fw D n,0)).2 h1;refine ⟨f3.trans h.op,f4.trans h.code,f5.trans h.next,?_,hchk,?_,holds,?_⟩
 ·have:=h.recs
  grind
 ·have:=h.old;grind
 intro r hr;rcases aaj.1 hr with hr|hr
 ·exact h.recl r<|f2 r hr
 exact g2 r hr
theorem ig.scan{c:Nat}{D:Dk}(o:D.Ok c){mx fr:Nat}:∀ (l don:List Nat) (W:Wl) (g:List Nat),ig D mx don W->(ga D fr l W g).2.2=true->ig D mx (don++l) (ga D fr l W g).1
 | [],don,W,g,h,_=>by simpa[ga] using h
 | n::r,don,W,g,h,hok=>by
  unfold ga at hok ⊢
  split
  ·simp_all
  rename_i h1;rw[aaa h1] at hok;have hs:=ig.step o h (fr:=fr) (n:=n) qo;have:=ig.scan o r (don++[n]) _ _ hs hok
  rwa [aaD] at this
def cy.opened{c:Nat}{D:Dk}(o:aP c D){fr first:Nat}{W:Wl}{E:Dk}(h:dz D fr first=(some W,E,0)):cy c W/\W.op=none/\W.code=0/\eq W.old<=c:=by
 unfold dz at h
 split at h
 ·cases h
 split at h
 ·cases h
 rename_i h1
 split at h
 ·cases h
 rename_i h2
 split at h
 ·cases h
 rename_i h3
 split at h
 ·cases h
 simp only[aag,aae] at h;obtain ⟨rfl,_⟩:=h
 have h3:(ga D fr (ca (aU D)) (dD fr first (aU D)) []).2.2=true:=by
  simp_all
 have h0:ig D (dD fr first (aU D)).next [] (dD fr first (aU D)):=⟨rfl,rfl,rfl,by simp[dD],by simp[dD];omega,by simp[dD],by simp[dD],by simp[dD]⟩;have hS:=ig.scan o.ok _ _ _ _ h0 h3;rw[abd] at hS;have hnd:=pd (xK o.ok) (fun k hk=>(pF o k hk).1);have hsum:=yJ (D:=D) hnd;have hcap:=o.cap;have hroom:=o.ok.room;have hlen:=px o;have hnl:=pz (aU D);have hol:=hS.old;have hre:=hS.recs;have hnx:=hS.next;refine ⟨⟨hS.last,qo,qo,qo,fun q hq=>(by rw[hS.op] at hq;cases hq),fun q hq=>(by rw[hS.op] at hq;cases hq),fun s hs=>?_,hS.recl⟩,hS.op,hS.code,qo⟩;obtain ⟨g1,g2⟩:=hS.olds s hs;have:=uo (l:=aU D) (nr _) s.1 g1
 grind [dD]
def aP.opened{c:Nat}{D:Dk}(o:aP c D)(fr first:Nat):aP (c+eq D.areas) (dz D fr first).2.1:=by
 have hs:=aP.settle (ca (aU D)) (ga D fr (ca (aU D)) (dD fr first (aU D)) []).2.1 D c o;have hlen:eq (aU D)=eq D.areas:=by unfold aU;rw[(dJ _).length_eq,aaO]
 have hnl:=pz (aU D);have hs:=hs.up (d:=c+eq D.areas) qo;unfold dz
 split
 ·exact o.up qo
 split
 ·exact o.up qo
 split
 ·exact o.up qo
 split
 ·exact o.up qo
 grind
end
end Go.En
