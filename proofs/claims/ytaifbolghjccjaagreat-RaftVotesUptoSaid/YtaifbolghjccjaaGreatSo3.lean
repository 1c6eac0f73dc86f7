/-
  Part 3.
-/
import Derived.Test.YtaifbolghjccjaaGreatSo2
set_option linter.defProp false
set_option linter.unusedSectionVars false
set_option linter.unusedSimpArgs false
set_option linter.unusedVariables false
set_option maxRecDepth 4000
namespace Go.En
open Go.Proofs Go.Proofs.YtaifbolghjccjaaGreat
open List renaming length -> eq
attribute [local irreducible] Code.wp wpList Calls
variable {w0:World}{K:PH}{hs:Ac}{P:Program}
section
def PU(kd)(g cap pre post xs a b)(bo:a<b)(hb:b<=eq xs)(hc:eq xs<=cap)(hl:eq xs<=2^40)(a0:iu a b xs):
  ai w0 (sf kd 259 221) [.slice (some ⟨g,eq pre,none⟩) (eq xs) cap,.int .i64 (a:Nat),.int .i64 (b:Nat)] K (pt g (kA kd pre xs post) (sf kd 29 3)::hs)
   (fun v K' hs'=>K'=K/\∃ys,∃t:Bool,hs'=pt g (kA kd pre ys post) (sf kd 29 3)::hs/\v=.bool t/\bK a b xs ys/\(t=true->dz a b ys)):=by
 cases kd
 let kd:Bool:=false
 rewrite[show sf false=sf kd from rfl]
 try rewrite[show kA false=kA kd from rfl]
 refine enter Tryz.func221 qk I I I ?_
 rotate_left
 let kd:Bool:=true
 rewrite[show sf true=sf kd from rfl]
 try rewrite[show kA true=kA kd from rfl]
 refine enter Tryz.func259 qk I I I ?_
 rotate_left
 all_goals
  refine acY (fin 1 I (acV (eP 1 a ?_)));refine fin 1 I (acU (fin 1 I (th (bk ?_))))
  refine loop (σ:=Nat×Nat×Af) (fun s=>[(0,.slice (some ⟨g,eq pre,none⟩) (eq xs) cap),(1,.int .i64 (a:Nat)),(2,.int .i64 (b:Nat)),(7,.int .i64 s.2.1),(8,.int .i64 s.1)]) (fun _=>K) (fun s=>pt g (kA kd pre s.2.2 post) (sf kd 29 3)::hs)
   (fun s=>s.1<=5/\a+1<=s.2.1/\s.2.1<=b/\bK a b xs s.2.2/\dz a s.2.1 s.2.2) (fun s=>5-s.1) (0,a+1,xs) ⟨qo,aac _,aC,bK.refl _ _ _,dz.zero _ _⟩ ⟨rfl,rfl,rfl,rfl,rfl,trivial⟩ rfl rfl ?_
  rintro⟨k,i0,ys⟩ ⟨hk,aT,ap,hP,am⟩;dsimp only at *;have a2:eq ys=eq xs:=hP.len;refine sq (acY (aw 1 I fun a4 aF=>fin 0 I (th (ax aF I (fun e2=>?_) (fun e2=>?_)))))
  ·refine sk<|th (sq<|bk (jn (σ:=Nat) (fun i=>[(0,.slice (some ⟨g,eq pre,none⟩) (eq xs) cap),(1,.int .i64 (a:Nat)),(2,.int .i64 (b:Nat)),(7,.int .i64 (i:Nat)),(8,.int .i64 k)]) (fun _=>pt g (kA kd pre ys post) (sf kd 29 3)::hs) (fun i=>a+1<=i/\i<=b/\dz a i ys) ?_ ?_))
   ·refine bk (loop (σ:=Nat) (fun i=>[(0,.slice (some ⟨g,eq pre,none⟩) (eq xs) cap),(1,.int .i64 (a:Nat)),(2,.int .i64 (b:Nat)),(7,.int .i64 (i:Nat)),(8,.int .i64 k)]) (fun _=>K) (fun _=>pt g (kA kd pre ys post) (sf kd 29 3)::hs) (fun i=>a+1<=i/\i<=b/\dz a i ys) (fun i=>b-i) i0 ⟨aT,ap,am⟩ sb I I ?_);rintro i ⟨aa,ab,hS⟩;refine sq (sq (bO [pt g (kA kd pre ys post) (sf kd 29 3)] 16 [0,2,4,6,8,10,12,14,16,18,20,22,24,27,28,30] Q8 qk qk (dP qk 2 (i<b) I Q8 (fun h3=>?_) (fun h3=>?_))))
    ·refine bu qk 3 i I I qo ?_;simp only[bf,aaf];refine bT qk 0 0 I I (bN qo) (bF qk 2 I (v':=.int .i64 (i-1:Nat)) (by rw[show((i:Nat):Int)-1=((i-1:Nat):Int)from qo];exact ba qo) (bu qk 0 (i-1) I I qo ?_));simp only[bf,aaf];refine bT qk 0 0 I I (bN qo) (aB qk 0 I (cl 0 I (jG kd (ys.getD i 0) (ys.getD (i-1) 0)) ?_));rintro ay ag ad ⟨rfl,rfl,rfl⟩;refine aP Q8 I ?_
     by_cases N:ys.getD i 0<ys.getD (i-1) 0
     ·rw[decide_eq_true N];exact aI qk 2 I (th (bP I (ex (xt (xt (xb (jx i ⟨aa,ab,hS⟩ sb I I)))))))
     rw[decide_eq_false N];refine aI qk 2 I (th (dk I (sk (th (bk (rg (eP 1 i ?_)))))));exact fin 1 I (bl (bn (x:=i) (i+1) sb I I ⟨qo,qo,hS.snoc qo (abo N)⟩ qo))
    exact aB qk 10 I<|Bc 1 I (aP Q8 I<|aI qk 2 I (th<|bP I (ex<|xt (xt<|xb (jx i ⟨aa,ab,hS⟩ sb I I)))))
   rintro i ⟨aa,ab,hS⟩;refine sq (acY (aw 2 I fun a5 aL=>fin 0 I (th (ax aL I (fun e6=>?_) (fun e6=>?_)))))
   ·obtain rfl:i=b:=qo
    exact acY (fin 1 I<|ac0<|rT (rB<|rT (rT<|rB (rT<|af I I ⟨I,ys,true,I,I,hP,fun _=>hS⟩))))
   refine sk<|acU<|ar 2 I (ba qo) (aw 0 I fun a6 aN=>fin 0 I<|th (ax aN I (fun e8=>?_) (fun e8=>?_)))
   ·exact acY (fin 1 I<|ac0<|rT (rB<|rT (rT<|rB (rT<|af I I ⟨I,ys,false,I,I,hP,fun h=>by cases h⟩))))
   have bp:i<b:=qo
   have V:(kA kd pre ys post)[eq pre+i]?=some (.int (kI kd) ((ys.getD i 0:Nat):Int)):=bN qo;have O:(kA kd pre ys post)[eq pre+(i-1)]?=some (.int (kI kd) ((ys.getD (i-1) 0:Nat):Int)):=bN qo;have U:(kA kd pre (ys.set i (ys.getD (i-1) 0)) post)[eq pre+(i-1)]?=some (.int (kI kd) (((ys.set i (ys.getD (i-1) 0)).getD (i-1) 0:Nat):Int)):=bN (by rw[aan];omega);refine sk (th (sq (bO [pt g (kA kd pre ys post) (sf kd 29 3)] 15 [0,2,4,6,8,10,12,14,16,18,20,22,24,26,28,31,32,35] Q8 qk qk (bF qk 4 I (v':=.int .i64 (i-1:Nat)) (by rw[show((i:Nat):Int)-1=((i-1:Nat):Int)from qo];exact ba qo) (bF qk 2 I (v':=.int .i64 (i-1:Nat)) (by rw[show((i:Nat):Int)-1=((i-1:Nat):Int)from qo];exact ba qo) (bu qk 0 (i-1) I I qo ?_))))))
   simp only[bf,aaf];refine bR qk 0 0 I qk I O (bu qk 2 i I I qo ?_);simp only[bf,aaf];refine bR qk 0 0 I qk I V (bu qk 0 i I I qo ?_);simp only[bf,aaf];refine aB qk 0 I (Ji 0 0 I I V I (bQ (.inl qk) (bu qk 0 (i-1) I I qo ?_)));simp only[bf,aaf];refine aB qk 0 I ?_;refine Ew (pt g (kA kd pre (ys.set i (ys.getD (i-1) 0)) post) (sf kd 29 3)::hs) (congrArg (fun z=>pt g z (sf kd 29 3)::hs) (eK qo)) (Ji 0 0 I I U I ?_);refine Ew (pt g (kA kd pre (Ql i (i-1) ys) post) (sf kd 29 3)::hs) (congrArg (fun z=>pt g z (sf kd 29 3)::hs) (eK (by rw[aan];omega))) (bQ (.inl qk) ?_);have ae:bK a b xs (Ql i (i-1) ys):=hP.trans (bK.Ql ⟨qo,qo⟩ ⟨qo,qo⟩ qo)
   have an:dz a (i-1) (Ql i (i-1) ys):=dz.same (xs:=ys) (fun p q p1 p2 p3=>hS p q p1 p2 qo) fun p p1 p2=>by rw[kj qo qo,aaa qo,aaa qo]
   refine aI qk 0 I<|th (jn (σ:=Af) (fun _=>[(0,.slice (some ⟨g,eq pre,none⟩) (eq xs) cap),(1,.int .i64 (a:Nat)),(2,.int .i64 (b:Nat)),(7,.int .i64 i),(8,.int .i64 k)]) (fun J=>pt g (kA kd pre J post) (sf kd 29 3)::hs) (fun J=>bK a b xs J/\dz a i J) ?_ ?_)
   ·refine acY (ar 2 I (ba qo) (aw 0 I fun bb aO=>fin 0 I<|th (ax aO I (fun az=>?_) (fun az=>?_))))
    ·refine acY (ar 1 I (v':=.int .i64 (i-1:Nat)) (by rw[show((i:Nat):Int)-1=((i-1:Nat):Int)from qo];exact ba qo) (fin 1 I (th (bk ?_))))
     refine loop (σ:=Nat×Af) (fun s=>[(0,.slice (some ⟨g,eq pre,none⟩) (eq xs) cap),(1,.int .i64 (a:Nat)),(2,.int .i64 (b:Nat)),(7,.int .i64 i),(8,.int .i64 k),(9,.int .i64 s.1)]) (fun _=>K) (fun s=>pt g (kA kd pre s.2 post) (sf kd 29 3)::hs)
      (fun s=>a<=s.1/\s.1<=i-1/\bK a b xs s.2/\jY a (i-1) s.1 s.2) (fun s=>s.1) (i-1,Ql i (i-1) ys) ⟨aC,aac _,ae,jY.start an⟩ ⟨rfl,rfl,rfl,rfl,rfl,rfl,trivial⟩ rfl rfl ?_
     rintro⟨j,J⟩ ⟨aV,aq,X,hV⟩;dsimp only at *;have bs:eq J=eq xs:=X.len;have a1:=a0.perm X hb;refine sq (acY (aw 1 I fun bi aR=>fin 0 I (th (ax aR I (fun aA=>?_) (fun aA=>?_)))))
     ·refine sk (th (sq (bk (sq (sq (bO [pt g (kA kd pre J post) (sf kd 29 3)] 11 [0,2,4,6,8,10,12,14,16,19,20] Q8 qk qk (bu qk 2 j I I qo ?_)))))));simp only[bf,aaf];refine bT qk 0 0 I I (bN qo) (bF qk 2 I (iB (j:=j) qo) (bu qk 0 (j-1) I I qo ?_));simp only[bf,aaf];refine bT qk 0 0 I I (bN qo) (aB qk 0 I (cl 0 I (jG kd (J.getD j 0) (J.getD (j-1) 0)) ?_));rintro ay ag ad ⟨rfl,rfl,rfl⟩;refine aP Q8 I ?_
      by_cases N:J.getD j 0<J.getD (j-1) 0
      ·have aY:a<j:=by
        rcases aaz a j with h|h
        ·exact h
        obtain rfl:j=a:=qo
        have:=a1 (j-1) j qo (aac _) qo;omega
       rw[decide_eq_true N];refine aI qk 1 I (th (bP I ?_));have V:(kA kd pre J post)[eq pre+j]?=some (.int (kI kd) ((J.getD j 0:Nat):Int)):=bN qo;have O:(kA kd pre J post)[eq pre+(j-1)]?=some (.int (kI kd) ((J.getD (j-1) 0:Nat):Int)):=bN qo;have U:(kA kd pre (J.set j (J.getD (j-1) 0)) post)[eq pre+(j-1)]?=some (.int (kI kd) (((J.set j (J.getD (j-1) 0)).getD (j-1) 0:Nat):Int)):=bN (by rw[aan];omega);refine sk (th (bO [pt g (kA kd pre J post) (sf kd 29 3)] 15 [0,2,4,6,8,10,12,14,16,18,20,22,24,26,28,31,32,35] Q8 qk qk (bF qk 4 I (iB (j:=j) qo) (bF qk 2 I (iB (j:=j) qo) (bu qk 0 (j-1) I I qo ?_)))));simp only[bf,aaf];refine bR qk 0 0 I qk I O (bu qk 2 j I I qo ?_)
       simp only[bf,aaf];refine bR qk 0 0 I qk I V (bu qk 0 j I I qo ?_);simp only[bf,aaf];refine aB qk 0 I (Ji 0 0 I I V I (bQ (.inl qk) (bu qk 0 (j-1) I I qo ?_)));simp only[bf,aaf];refine aB qk 0 I ?_;refine Ew (pt g (kA kd pre (J.set j (J.getD (j-1) 0)) post) (sf kd 29 3)::hs) (congrArg (fun z=>pt g z (sf kd 29 3)::hs) (eK qo)) (Ji 0 0 I I U I ?_);exact Ew (pt g (kA kd pre (Ql j (j-1) J) post) (sf kd 29 3)::hs) (congrArg (fun z=>pt g z (sf kd 29 3)::hs) (eK (by rw[aan];omega))) (bQ (.inl qk) (aI qk 0 rfl (acW (ar 1 rfl (iB (j:=j) qo) (fin 1 rfl (bn (x:=(j,J)) (j-1,Ql j (j-1) J) sb rfl rfl ⟨aC,aC,X.trans (bK.Ql ⟨qo,qo⟩ ⟨qo,qo⟩ qo),hV.swap aY aq qo N⟩ aC))))))
      have Z:dz a i J:=by
       rw[show i=i-1+1 from qo];rcases aaz a j with h|h
       ·exact hV.stop h qo
       obtain rfl:j=a:=qo
       exact hV.done
      rw[decide_eq_false N];exact aI qk 1 I (th (dk I (ex (xt (xn I (xt (xt (xb (jx J ⟨X,Z⟩ sb I I)))))))))
     have Z:dz a i J:=by
      rw[show i=i-1+1 from qo];obtain rfl:j=a:=qo
      exact hV.done
     exact ex<|xt (xt<|xb (jx J ⟨X,Z⟩ sb I I))
    exact sk<|jx _ ⟨ae,dz.one qo⟩ ⟨I,I,I,I,I,trivial⟩ I I
   rintro J ⟨X,Y⟩;have av:eq J=eq xs:=X.len;clear an ae U O V hS am hP a2;refine acY (ar 2 I (ba qo) (aw 0 I fun bm aS=>fin 0 I (th (ax aS I (fun aD=>?_) (fun aD=>?_)))))
   ·refine acY (eP 1 i ?_);refine fin 1 I (th (bk ?_))
    refine loop (σ:=Nat×Af) (fun s=>[(0,.slice (some ⟨g,eq pre,none⟩) (eq xs) cap),(1,.int .i64 (a:Nat)),(2,.int .i64 (b:Nat)),(7,.int .i64 i),(8,.int .i64 k),(10,.int .i64 s.1)]) (fun _=>K) (fun s=>pt g (kA kd pre s.2 post) (sf kd 29 3)::hs)
     (fun s=>i+1<=s.1/\s.1<=b/\bK a b xs s.2/\dz a i s.2) (fun s=>b-s.1) (i+1,J) ⟨aac _,aC,X,Y⟩ sb rfl rfl ?_
    clear X Y av;rintro⟨j,us⟩ ⟨aV,aq,X,Y⟩;dsimp only at *;have bq:eq us=eq xs:=X.len;refine sq (acY (aw 2 I fun a3 ak=>fin 0 I (th (ax ak I (fun aE=>?_) (fun aE=>?_)))))
    ·refine sk (th (sq (bk (sq (sq (bO [pt g (kA kd pre us post) (sf kd 29 3)] 11 [0,2,4,6,8,10,12,14,16,19,20] Q8 qk qk (bu qk 2 j I I qo ?_)))))));simp only[bf,aaf];refine bT qk 0 0 I I (bN qo) (bF qk 2 I (iB (j:=j) qo) (bu qk 0 (j-1) I I qo ?_));simp only[bf,aaf];refine bT qk 0 0 I I (bN qo) (aB qk 0 I (cl 0 I (jG kd (us.getD j 0) (us.getD (j-1) 0)) ?_));rintro ay ag ad ⟨rfl,rfl,rfl⟩;refine aP Q8 I ?_
     by_cases N:us.getD j 0<us.getD (j-1) 0
     ·rw[decide_eq_true N];refine aI qk 1 I (th (bP I ?_));have V:(kA kd pre us post)[eq pre+j]?=some (.int (kI kd) ((us.getD j 0:Nat):Int)):=bN qo;have O:(kA kd pre us post)[eq pre+(j-1)]?=some (.int (kI kd) ((us.getD (j-1) 0:Nat):Int)):=bN qo;have U:(kA kd pre (us.set j (us.getD (j-1) 0)) post)[eq pre+(j-1)]?=some (.int (kI kd) (((us.set j (us.getD (j-1) 0)).getD (j-1) 0:Nat):Int)):=bN (by rw[aan];omega);refine sk (th (bO [pt g (kA kd pre us post) (sf kd 29 3)] 15 [0,2,4,6,8,10,12,14,16,18,20,22,24,26,28,31,32,35] Q8 qk qk (bF qk 4 I (iB (j:=j) qo) (bF qk 2 I (iB (j:=j) qo) (bu qk 0 (j-1) I I qo ?_)))));simp only[bf,aaf];refine bR qk 0 0 I qk I O (bu qk 2 j I I qo ?_)
      simp only[bf,aaf];refine bR qk 0 0 I qk I V (bu qk 0 j I I qo ?_);simp only[bf,aaf];refine aB qk 0 I (Ji 0 0 I I V I (bQ (.inl qk) (bu qk 0 (j-1) I I qo ?_)));simp only[bf,aaf];refine aB qk 0 I ?_;refine Ew (pt g (kA kd pre (us.set j (us.getD (j-1) 0)) post) (sf kd 29 3)::hs) (congrArg (fun z=>pt g z (sf kd 29 3)::hs) (eK qo)) (Ji 0 0 I I U I ?_);refine Ew (pt g (kA kd pre (Ql j (j-1) us) post) (sf kd 29 3)::hs) (congrArg (fun z=>pt g z (sf kd 29 3)::hs) (eK (by rw[aan];omega))) (bQ (.inl qk) (aI qk 0 rfl (acW (eP 1 j ?_))));refine fin 1 I ?_;exact bn (x:=(j,us)) (j+1,Ql j (j-1) us) sb I I ⟨aC,aC,X.trans (bK.Ql ⟨qo,qo⟩ ⟨qo,qo⟩ qo),Y.same fun p p1 p2=>by rw[kj qo qo,aaa qo,aaa qo]⟩ aC
     rw[decide_eq_false N];refine aI qk 1 I (th (dk I (ex (xt (xn I (xt (xt (xb (acW (eP 1 k ?_))))))))));exact fin 1 I (bn (x:=(k,i0,ys)) (k+1,i,us) sb I I ⟨aC,aa,ab,X,Y⟩ aC)
    refine ex (xt (xt (xb (acW (eP 1 k ?_)))));exact fin 1 I (bn (x:=(k,i0,ys)) (k+1,i,us) sb I I ⟨aC,aa,ab,X,Y⟩ aC)
   refine sk (acW (eP 1 k ?_));exact fin 1 I (bn (x:=(k,i0,ys)) (k+1,i,J) sb I I ⟨aC,aa,ab,X,Y⟩ aC)
  exact ex<|xt (xt<|xb (acV<|fin 1 I (ac0 (af I I ⟨I,ys,false,I,I,hP,fun h=>by cases h⟩))))
end
section
def ul(m b k)(hb:b=((k:Nat):Int))(J:k<=64):Value.int .u64 (((m:Nat):Int).fdiv (2^(min b.toNat IntKind.u64.bits)))=.int .u64 (m/2^k:Nat):=by
 have e:min b.toNat IntKind.u64.bits=k:=by
  have:IntKind.u64.bits=64:=rfl;omega
 grind
def N4(x):∃m:Nat,m<2^64/\Value.int .u64 (IntKind.u64.wrap x)=.int .u64 m:=by
 have e:IntKind.u64.wrap x=x%18446744073709551616:=by rfl
 refine⟨(x%18446744073709551616).toNat,qo,?_⟩;rw[e,acH qo]
def Mv(m n)(hm:m<2^64)(hn:n<=63):
  Value.int .u64 (IntKind.u64.wrap (BitVec.ofInt 64 ((m:Nat):Int) &&& BitVec.ofInt 64 ((2^n-1:Nat):Int)).toNat)=.int .u64 (m%2^n:Nat):=by
 have hp:2^n<2^64:=Nat.lt_of_le_of_lt (abO Q9 hn) Q9;have J:m%2^n<=m:=Nat.mod_le _ _;rw[BitVec.toNat_and,abu,abu,abv,abv,aaU (a:=m) qo,aaU (a:=2^n-1) qo,Nat.and_two_pow_sub_one_eq_mod,nC,aaU qo]
def L8:Aa:=(List.range 256).map fun b=>if b=0 then 0 else UInt8.ofNat (Nat.log2 b+1)
def O8(b)(h:b<256):∃c:UInt8,L8[b]?=some c/\c.toNat<=8/\b<2^c.toNat/\(0<b->2^c.toNat<=2*b):=by
 have J:∀b:Fin 256,((L8[b.1]?).map fun c=>decide (c.toNat<=8/\b.1<2^c.toNat/\(0<b.1->2^c.toNat<=2*b.1)))=some true:=by decide +kernel
 have:=J ⟨b,h⟩
 grind
def kG(x n y:Nat):Prop:=y*2^n<=x/\x<(y+1)*2^n/\(0<x->0<y)
def kG.start(x):kG x 0 x:=⟨Q8,Q8,id⟩
theorem kG.up{x n y k}(h:kG x n y)(O:2^k<=y):kG x (n+k) (y/2^k):=by
 have hp:0<2^k:=Nat.pow_pos Q9;obtain⟨J,N,U⟩:=h;have e:2^(n+k)=2^k*2^n:=by rw[Nat.pow_add,acb]
 refine⟨?_,?_,fun _=>Nat.div_pos O hp⟩
 ·rw[e,<-Nat.mul_assoc];exact aat (abh _ (Nat.div_mul_le_self y _)) J
 rw[e,<-Nat.mul_assoc];refine acg N (abh _ ?_);have:=Nat.lt_div_mul_add (a:=y) hp;rw[Nat.add_mul,Nat.one_mul];omega
def kG.done{x n y c}(h:kG x n y)(O:y<2^c)(U:0<y->2^c<=2*y):x<2^(n+c)/\(0<x->2^(n+c)<=2*x):=by
 obtain⟨X,J,N⟩:=h;have e:2^(n+c)=2^c*2^n:=by rw[Nat.pow_add,acb]
 refine⟨?_,fun V=>?_⟩
 ·rw[e];exact acg J (abh _ O)
 rw[e];refine aat (abh _ (U (N V))) ?_
 grind
def OL(x)(hx:x<2^64):ai w0 226 [.int .u64 (x:Nat)] K hs
  (fun v X hs'=>X=K/\hs'=hs/\∃n:Nat,v=.int .i64 n/\n<=64/\x<2^n/\(0<x->2^n<=2*x)):=by
 refine ent Tryz.func226 ?_;refine acY (fin 1 I (th (jn (σ:=Nat×Nat) (fun s=>[(0,.int .u64 s.1),(2,.int .i64 s.2)]) (fun _=>hs) (fun s=>kG x s.2 s.1/\s.1<4294967296/\s.2<=32) ?_ ?_)))
 ·refine acY (aw 1 I fun b4 h4=>fin 0 I<|th (ax h4 I (fun e2=>?_) (fun e2=>?_)))
  ·exact acY (ar 1 I (ul x _ 32 I qo)<|fin 1 I (acX (fin 1 I<|jx (x/2^32,32) ⟨by simpa using(kG.start x).up (k:=32) qo,qo,aac _⟩ ⟨I,I,trivial⟩ I I)))
  exact sk (jx (x,0) ⟨kG.start x,aC,qo⟩ sb rfl rfl)
 rintro⟨y,n⟩ ⟨J,N,hn⟩;dsimp only at *;refine jn (σ:=Nat×Nat) (fun s=>[(0,.int .u64 s.1),(2,.int .i64 s.2)]) (fun _=>hs) (fun s=>kG x s.2 s.1/\s.1<65536/\s.2<=48) ?_ ?_
 ·refine acY (aw 1 I fun b8 h8=>fin 0 I<|th (ax h8 I (fun Z=>?_) (fun Z=>?_)))
  ·refine acY (ar 1 I (ul y _ 16 I qo) (au ?_));exact ar 1 I (ba (x:=((n+16:Nat):Int)) qo) (fin 1 I (jx (y/2^16,n+16) ⟨J.up qo,qo,aC⟩ sb rfl rfl))
  exact sk (jx (y,n) ⟨J,aC,qo⟩ sb rfl rfl)
 clear J N hn;rintro⟨y,n⟩ ⟨J,N,hn⟩;dsimp only at *;refine jn (σ:=Nat×Nat) (fun s=>[(0,.int .u64 s.1),(2,.int .i64 s.2)]) (fun _=>hs) (fun s=>kG x s.2 s.1/\s.1<256/\s.2<=56) ?_ ?_
 ·refine acY (aw 1 I fun Y O=>fin 0 I<|th (ax O I (fun e6=>?_) (fun e6=>?_)))
  ·refine acY (ar 1 I (ul y _ 8 I qo) (au ?_));exact ar 1 I (ba (x:=((n+8:Nat):Int)) qo) (fin 1 I (jx (y/2^8,n+8) ⟨J.up qo,qo,aC⟩ sb rfl rfl))
  exact sk (jx (y,n) ⟨J,qo,aC⟩ sb rfl rfl)
 clear J N hn;rintro⟨y,n⟩ ⟨J,N,hn⟩;dsimp only at *;obtain⟨c,hc,aa,U,V⟩:=O8 y N;refine acY (ar 2 I (lr qo) (Qy 0 L8 y I qk I hc (ar 0 I (ba qo) (ar 0 I (ba (x:=((n+c.toNat:Nat):Int)) qo) (au ?_)))));exact af I I ⟨I,I,n+c.toNat,I,qo,J.done U V⟩
def zD(x)(X:x<2^64):ai w0 167 [.int .u64 (x:Nat)] K hs
  (fun v J hs'=>J=K/\hs'=hs/\∃n:Nat,v=.int .i64 n/\n<=64/\x<2^n/\(0<x->2^n<=2*x)):=by
 refine cP Tryz.func167 ?_;refine cl 1 I (OL x X) ?_;rintro Z Y V ⟨rfl,rfl,n,rfl,N,O,U⟩;refine au ?_;exact af I I ⟨I,I,n,I,N,O,U⟩
def QC(x)(X:0<x/\x<=2^40):ai w0 264 [.int .i64 (x:Nat)] K hs
  (fun v J hs'=>J=K/\hs'=hs/\∃n:Nat,v=.int .u64 (2^n:Nat)/\n<=41/\2^n<=2*x):=by
 refine cP Tryz.func264 ?_;refine ar 1 I (bL qo) (cl 0 I (zD x qo) ?_);rintro v5 Y V ⟨rfl,rfl,n,rfl,Z,h2,N⟩;have O:=N X.1
 have U:n<=41:=by
  rcases aaz 41 n with h|h
  ·have:2^42<=2^n:=abO Q9 h;omega
  exact h
 refine qv 0 I qo (.inl ⟨I,(show Value.int .u64 (IntKind.u64.wrap ((1:Int)*2^(min ((n:Nat):Int).toNat IntKind.u64.bits)))=.int .u64 (2^n:Nat)from by
  have e:min ((n:Nat):Int).toNat IntKind.u64.bits=n:=by
   have:IntKind.u64.bits=64:=rfl;omega
  rw[e,Int.one_mul,show((2:Int)^n)=((2^n:Nat):Int)from by rfl];exact bL qo)⟩) ?_
 refine au ?_;exact af I I ⟨I,I,n,I,U,O⟩
def PL(r x):ai w0 265 [Rp r] K (pt r #[.int .u64 x] 310::hs)
  (fun v V hs'=>V=K/\∃m:Nat,m<2^64/\hs'=pt r #[.int .u64 m] 310::hs/\v=.int .u64 m):=by
 refine cP Tryz.func265 ?_;refine bO [pt r #[.int .u64 x] 310] 9 [0,2,4,6,8,10,12,14,16,19] Q8 qk qk (au ?_);refine bF qk 0 I I (bF qk 0 I I (aB qk 1 I (Ji 0 0 I I I I (bQ (.inl qk) ?_))));obtain⟨J,O⟩:=a9 ((IntKind.u64.wrap (BitVec.ofInt 64 x ^^^ BitVec.ofInt 64 (IntKind.u64.wrap (x*2^(min (13:Int).toNat IntKind.u64.bits)))).toNat:Int));refine aI qk 0 I (th (sq (Bj (hs':=pt r #[.int .u64 J] 310::hs) (by rw[O];rfl) (bO [pt r #[.int .u64 J] 310] 9 [0,2,4,6,8,10,12,14,16,19] Q8 qk qk (au ?_)))));refine bF qk 0 I I (bF qk 0 I I (aB qk 1 I (Ji 0 0 I I I I (bQ (.inl qk) ?_))));obtain⟨N,U⟩:=a9 ((IntKind.u64.wrap (BitVec.ofInt 64 J ^^^ BitVec.ofInt 64 (J.fdiv (2^(min (7:Int).toNat IntKind.u64.bits)))).toNat:Int))
 refine aI qk 0 I (th (sq (Bj (hs':=pt r #[.int .u64 N] 310::hs) (by rw[U];rfl) (bO [pt r #[.int .u64 N] 310] 9 [0,2,4,6,8,10,12,14,16,19] Q8 qk qk (au ?_)))));refine bF qk 0 I I ?_;obtain⟨m,hm,X⟩:=N4 (BitVec.ofInt 64 N ^^^ BitVec.ofInt 64 (IntKind.u64.wrap (N*2^(min (17:Int).toNat IntKind.u64.bits)))).toNat;refine bF qk 0 I X (au ?_);exact af I I ⟨I,m,hm,I,I⟩
end
section
def Qm(kd)(g cap pre post xs a b)(ap:a+8<=b)(hb:b<=eq xs)(hc:eq xs<=cap)(hl:eq xs<=2^40):
  ai w0 (sf kd 256 218) [.slice (some ⟨g,eq pre,none⟩) (eq xs) cap,.int .i64 (a:Nat),.int .i64 (b:Nat)] K (pt g (kA kd pre xs post) (sf kd 29 3)::hs)
   (fun v K' hs'=>K'=K/\∃ys,hs'=pt g (kA kd pre ys post) (sf kd 29 3)::hs/\bK a b xs ys):=by
 cases kd
 let kd:Bool:=false
 rewrite[show sf false=sf kd from rfl]
 try rewrite[show kA false=kA kd from rfl]
 rotate_left
 let kd:Bool:=true
 rewrite[show sf true=sf kd from rfl]
 try rewrite[show kA true=kA kd from rfl]
 rotate_left
 all_goals
  obtain⟨n,hn⟩:=a9 (b-a)
 refine enter Tryz.func218 qk I I I ?_
 rotate_left
 refine enter Tryz.func256 qk I I I ?_
 rotate_left
 all_goals
  refine acY (ar 2 I (v':=.int .i64 n) (by rw[show((b:Nat):Int)-((a:Nat):Int)=((n:Nat):Int)from qo];exact ba qo) (fin 1 I (acV (aw 1 I fun ak V=>fin 0 I (th (uZ V qo I (acY (ar 1 I (bL qo) (al 0 (.int .u64 0) I qk fun r=>Ji 0 0 I I I I (fin 0 I (acV (cl 1 I (QC n qo) ?_))))))))))));rintro aE U ad ⟨rfl,rfl,w,rfl,hw,aA⟩;have ay:n/4*2+1<n:=qo
  have az:2<=n/4:=qo
  refine fin 1 I (acV (ar 2 I (mF n 4 qo) (ar 0 I (ba (x:=((n/4*2:Nat):Int)) qo) (ar 0 I (ba (x:=((a+n/4*2:Nat):Int)) qo) (ar 0 I (v':=.int .i64 (a+n/4*2-1:Nat)) (by rw[show((a+n/4*2:Nat):Int)-1=((a+n/4*2-1:Nat):Int)from qo];exact ba qo) (fin 1 I (th (bk ?_))))))))
  refine loop (σ:=Nat×Nat×Af) (fun s=>[(0,.slice (some ⟨g,eq pre,none⟩) (eq xs) cap),(1,.int .i64 (a:Nat)),(6,.int .i64 n),(7,Rp r),(8,.int .u64 (2^w:Nat)),(9,.int .i64 s.1)]) (fun _=>U) (fun s=>pt r #[.int .u64 s.2.1] 310::pt g (kA kd pre s.2.2 post) (sf kd 29 3)::hs)
   (fun s=>a<=s.1/\s.1<=a+n/4*2+2/\bK a b xs s.2.2) (fun s=>b-s.1) (a+n/4*2-1,n,xs) ⟨aC,aC,bK.refl _ _ _⟩ ⟨rfl,rfl,rfl,rfl,rfl,rfl,trivial⟩ rfl rfl ?_
  rintro⟨i,m0,ys⟩ ⟨aq,av,Z⟩;dsimp only at *;have aD:eq ys=eq xs:=Z.len;refine sq (acY (ar 3 I (mF n 4 qo) (ar 0 I (ba (x:=((n/4*2:Nat):Int)) qo) (ar 0 I (ba (x:=((a+n/4*2:Nat):Int)) qo) (ar 0 I (ba (x:=((a+n/4*2+1:Nat):Int)) qo) (aw 0 I fun am X=>fin 0 I (th (ax X I (fun e4=>?_) (fun e4=>?_)))))))))
  ·refine sk (th (sq (bk (acY (cl 0 I (PL r ((m0:Nat):Int)) ?_)))));rintro aF ag ae ⟨rfl,m,hm,rfl,rfl⟩;have ab:0<2^w:=Nat.pow_pos Q9;refine ar 1 I (v':=.int .u64 (2^w-1:Nat)) (by rw[show((2^w:Nat):Int)-1=((2^w-1:Nat):Int)from qo];exact bL qo) (ar 0 I (Mv m w hm qo) ?_);have O:m%2^w<2^w:=abR _ ab;obtain⟨o,ho⟩:=a9 (m%2^w);rw[<-ho]at O⊢;refine ar 0 I (ba (x:=((o:Nat):Int)) qo) (fin 1 I (th (jn (σ:=Nat) (fun o=>[(0,.slice (some ⟨g,eq pre,none⟩) (eq xs) cap),(1,.int .i64 (a:Nat)),(6,.int .i64 n),(7,Rp r),(8,.int .u64 (2^w:Nat)),(9,.int .i64 i),(10,.int .i64 (o:Nat))]) (fun _=>pt r #[.int .u64 m] 310::pt g (kA kd pre ys post) (sf kd 29 3)::hs) (fun o=>o<n) ?_ ?_)))
   ·refine acY (aw 2 I fun an Y=>fin 0 I<|th (ax Y I (fun e6=>?_) (fun e6=>?_)))
    ·exact rg (ar 2 I (v':=.int .i64 (o-n:Nat)) (by rw[show((o:Nat):Int)-((n:Nat):Int)=((o-n:Nat):Int)from qo];exact ba qo) (fin 1 I (jx (o-n) qo sb I I)))
    exact sk<|jx o qo sb I I
   clear ho O o;intro o ho;have J:(kA kd pre ys post)[eq pre+i]?=some (.int (kI kd) ((ys.getD i 0:Nat):Int)):=bN qo;have aa:(kA kd pre ys post)[eq pre+(a+o)]?=some (.int (kI kd) ((ys.getD (a+o) 0:Nat):Int)):=bN qo;have N:(kA kd pre (ys.set i (ys.getD (a+o) 0)) post)[eq pre+(a+o)]?=some (.int (kI kd) (((ys.set i (ys.getD (a+o) 0)).getD (a+o) 0:Nat):Int)):=bN (by rw[aan];omega);refine bO [pt g (kA kd pre ys post) (sf kd 29 3)] 17 [0,2,4,6,8,10,12,14,16,18,20,22,24,26,28,30,32,35,36,39] Q8 qk qk (bF qk 5 I (ba (x:=((a+o:Nat):Int)) qo) (bF qk 3 I (ba (x:=((a+o:Nat):Int)) qo) (bu qk 0 (a+o) I I qo ?_)));simp only[bf,aaf];refine bR qk 0 0 I qk I aa (bu qk 2 i I I qo ?_)
   simp only[bf,aaf];refine bR qk 0 0 I qk I J (bu qk 0 i I I qo ?_);simp only[bf,aaf];refine aB qk 0 I (Ji 0 1 I I J I (bQ (.inl qk) (bu qk 0 (a+o) I I qo ?_)));simp only[bf,aaf];refine aB qk 0 I ?_;refine Ew (pt r #[.int .u64 m] 310::pt g (kA kd pre (ys.set i (ys.getD (a+o) 0)) post) (sf kd 29 3)::hs) (congrArg (fun z=>pt r #[.int .u64 m] 310::pt g z (sf kd 29 3)::hs) (eK qo)) (Ji 0 1 I I N I ?_);refine Ew (pt r #[.int .u64 m] 310::pt g (kA kd pre (Ql i (a+o) ys) post) (sf kd 29 3)::hs) (congrArg (fun z=>pt r #[.int .u64 m] 310::pt g z (sf kd 29 3)::hs) (eK (by rw[aan];omega))) (bQ (.inl qk) (aI qk 0 rfl (acW (eP 1 i ?_))));exact fin 1 I (bn (x:=(i,m0,ys)) (i+1,m,Ql i (a+o) ys) sb I I ⟨aC,aC,Z.trans (bK.Ql ⟨qo,qo⟩ ⟨qo,qo⟩ qo)⟩ aC)
  exact ex<|xt (xt<|xb (Bh<|bZ I ⟨I,ys,I,Z⟩))
end
section
def PV(kd n):∀{w0:World} {K:PH} {hs:Ac} (g cap:Nat) (pre post:Ad) (xs:Af) (a b ak:Nat) (aL:a<=b) (hb:b<=eq xs) (hc:eq xs<=cap) (hl:eq xs<=2^40) (am:ak<=64) (aO:iu a b xs) (hn:b-a<=n),
  ai w0 (sf kd 215 166) [.slice (some ⟨g,eq pre,none⟩) (eq xs) cap,.int .i64 a,.int .i64 b,.int .i64 ak] K (pt g (kA kd pre xs post) (sf kd 29 3)::hs)
   (fun v K' hs'=>K'=K/\∃ys,hs'=pt g (kA kd pre ys post) (sf kd 29 3)::hs/\bK a b xs ys/\dz a b ys):=by
 cases kd
 let kd:Bool:=false
 rewrite[show sf false=sf kd from rfl]
 try rewrite[show kA false=kA kd from rfl]
 rotate_left
 let kd:Bool:=true
 rewrite[show sf true=sf kd from rfl]
 try rewrite[show kA true=kA kd from rfl]
 rotate_left
 all_goals
  induction n using Nat.strongRecOn
  rename_i n ih;intro w0 K hs g cap pre post xs a b ak aL hb hc hl am aO hn
 refine enter Tryz.func166 qk I I I ?_
 rotate_left
 refine enter Tryz.func215 qk I I I ?_
 rotate_left
 all_goals
  refine acY (fin 1 I<|acV (fin 1 I<|th (bk ?_)))
  refine loop (σ:=(Nat×Nat×Nat)×(Bool×Bool)×Af) (fun s=>[(0,.slice (some ⟨g,eq pre,none⟩) (eq xs) cap),(1,.int .i64 s.1.1),(2,.int .i64 s.1.2.1),(3,.int .i64 s.1.2.2),(8,.bool s.2.1.1),(9,.bool s.2.1.2)]) (fun _=>K) (fun s=>pt g (kA kd pre s.2.2 post) (sf kd 29 3)::hs)
   (fun s=>s.1.2.2<=64/\a<=s.1.1/\s.1.2.1<=b/\s.1.1<=s.1.2.1/\bK a b xs s.2.2/\ip a b s.1.1 s.1.2.1 s.2.2/\iu s.1.1 s.1.2.1 s.2.2) (fun s=>s.1.2.1-s.1.1) ((a,b,ak),(true,true),xs) ⟨am,aac _,aac _,aL,bK.refl _ _ _,ip.self _ _ _,aO⟩ ⟨rfl,rfl,rfl,rfl,rfl,rfl,trivial⟩ rfl rfl ?_
  rintro⟨⟨c,d,lm⟩,⟨wb,wp⟩,ys⟩ ⟨ab,O,N,aa,X,Z,hL⟩;dsimp only at *;have V:eq ys=eq xs:=X.len;obtain⟨n1,cr⟩:=a9 (d-c);refine bk (acY (ar 2 I (v':=.int .i64 n1) (by rw[show((d:Nat):Int)-((c:Nat):Int)=((n1:Nat):Int)from qo];exact ba qo) (fin 1 I (acU (aw 1 I fun cn a0=>fin 0 I (th (ax a0 I (fun e2=>?_) (fun e2=>?_))))))))
  ·refine acY ?_;have J:=P4 kd (w0:=w0) (K:=K) (hs:=hs) g cap pre post ys c d aa qo qo qo;rw[V]at J;refine cl 3 I J ?_;rintro cs cd b1 ⟨rfl,Y,rfl,U,hS⟩;exact fin 0 I (ac0 (rT (rB (rT (rB (jK I ⟨I,Y,I,X.trans (U.wide O N),Z Y U hS⟩))))))
  refine sk<|acU (aw 1 I fun aV aE=>fin 0 I<|th (ax aE I (fun e4=>?_) (fun e4=>?_)))
  ·refine acY ?_;have J:=Po kd (w0:=w0) (K:=K) (hs:=hs) g cap pre post ys c d qo qo qo qo;rw[V]at J;refine cl 3 I J ?_;rintro ct ce b2 ⟨rfl,Y,rfl,U,hS⟩;exact fin 0 I (ac0 (rT (rB (rT (rB (jK I ⟨I,Y,I,X.trans (U.wide O N),Z Y U hS⟩))))))
  refine sk<|th (jn (σ:=Nat×Af) (fun s=>[(0,.slice (some ⟨g,eq pre,none⟩) (eq xs) cap),(1,.int .i64 c),(2,.int .i64 d),(3,.int .i64 s.1),(8,.bool wb),(9,.bool wp),(10,.int .i64 n1)]) (fun s=>pt g (kA kd pre s.2 post) (sf kd 29 3)::hs) (fun s=>s.1<=64/\a<=c/\d<=b/\c<=d/\bK a b xs s.2/\ip a b c d s.2/\iu c d s.2) ?_ ?_)
  ·refine acY ?_;cases wb with
   |false=>
    refine fin 2 I (th (dk I (acY ?_)));have J:=Qm kd (w0:=w0) (K:=K) (hs:=hs) g cap pre post ys c d qo qo qo qo;rw[V]at J;refine cl 3 I J ?_;rintro cu cg b3 ⟨rfl,Y,rfl,U⟩;exact fin 0 I (acX (ar 1 I (v':=.int .i64 (lm-1:Nat)) (by rw[show((lm:Nat):Int)-1=((lm-1:Nat):Int)from qo];exact ba qo) (fin 1 I (jx (lm-1,Y) ⟨aC,O,N,aa,X.trans (U.wide O N),Z.step U,hL.perm U qo⟩ sb rfl rfl))))
   |true=>
    exact fin 2 I<|th (bP I<|sk (jx (lm,ys) ⟨ab,O,N,aa,X,Z,hL⟩ sb I I))
  clear X Z hL V;clear ys ab e4 aE aV;clear lm;rintro⟨lm,ys⟩ ⟨ab,-,-,-,X,Z,hL⟩;dsimp only at *;have V:eq ys=eq xs:=X.len;refine acY ?_;have J:=PT kd (w0:=w0) (K:=K) (hs:=hs) g cap pre post ys c d qo qo qo qo;rw[V]at J;refine cl 3 I J ?_;rintro cv an b4 ⟨rfl,rfl,pv,h,rfl,ad,hh⟩;refine fin 5 I (th (jn (σ:=(Nat×Nat)×Af) (fun s=>[(0,.slice (some ⟨g,eq pre,none⟩) (eq xs) cap),(1,.int .i64 c),(2,.int .i64 d),(3,.int .i64 lm),(8,.bool wb),(9,.bool wp),(10,.int .i64 n1),(11,.int .i64 s.1.1),(12,.int .i64 s.1.2)]) (fun s=>pt g (kA kd pre s.2 post) (sf kd 29 3)::hs) (fun s=>(c<=s.1.1/\s.1.1<d)/\a<=c/\d<=b/\c<=d/\bK a b xs s.2/\ip a b c d s.2/\iu c d s.2) ?_ ?_))
  ·refine acY (aw 1 I fun cp a1=>fin 0 I<|th (ax a1 I (fun e7=>?_) (fun e7=>?_)))
   ·refine acY ?_;have J:=Pe kd (w0:=w0) (K:=an) (hs:=hs) g cap pre post ys c d qo qo qo qo;rw[V]at J;refine cl 3 I J ?_;rintro cx ch b5 ⟨rfl,Y,rfl,U⟩;exact fin 0 I (acV (ar 1 I (ba qo) (ar 2 I (ba qo) (ar 0 I (v':=.int .i64 ((d-1-(pv-c):Nat):Int)) (by rw[show((d:Nat):Int)-1-(((pv:Nat):Int)-((c:Nat):Int))=((d-1-(pv-c):Nat):Int)from qo];exact ba qo) (fin 1 I (acX (fin 1 I (jx ((d-1-(pv-c),1),Y) ⟨aC,O,N,aa,X.trans (U.wide O N),Z.step U,hL.perm U qo⟩ sb rfl rfl))))))))
   exact sk<|jx ((pv,h),ys) ⟨ad,O,N,aa,X,Z,hL⟩ sb I I
  clear J X Z hL V ad hh;clear ys;clear pv h;rintro⟨⟨pv,h⟩,ys⟩ ⟨ad,-,-,-,X,Z,hL⟩;dsimp only at *;have V:eq ys=eq xs:=X.len;refine jn (σ:=Af) (fun s=>[(0,.slice (some ⟨g,eq pre,none⟩) (eq xs) cap),(1,.int .i64 c),(2,.int .i64 d),(3,.int .i64 lm),(8,.bool wb),(9,.bool wp),(10,.int .i64 n1),(11,.int .i64 pv)]) (fun s=>pt g (kA kd pre s post) (sf kd 29 3)::hs) (fun s=>a<=c/\d<=b/\c<=d/\bK a b xs s/\ip a b c d s/\iu c d s) ?_ ?_
  ·refine acY ?_;cases wb with
   |false=>
    exact fin 8 I<|th (bP I<|sk (jx ys ⟨O,N,aa,X,Z,hL⟩ sb I I))
   |true=>
   cases wp with
   |false=>
    exact fin 8 I<|th (bP I<|sk (jx ys ⟨O,N,aa,X,Z,hL⟩ sb I I))
   |true=>
    refine aw 6 I fun cq a2=>fin 1 I<|th (ax a2 I (fun h9=>?_) (fun h9=>?_))
    ·refine acY ?_;have J:=PU kd (w0:=w0) (K:=an) (hs:=hs) g cap pre post ys c d qo qo qo qo hL;rw[V]at J;refine cl 3 I J ?_;rintro cy ck b6 ⟨rfl,Y,t,rfl,rfl,U,hS⟩;refine fin 0 I (th (fw I (fun az=>?_) (fun az=>?_)))
     ·exact rt<|jr (rB<|rT (rB<|jK I ⟨I,Y,I,X.trans (U.wide O N),Z Y U (hS az)⟩))
     exact sk<|jx Y ⟨O,N,aa,X.trans (U.wide O N),Z.step U,hL.perm U qo⟩ sb I I
    exact sk<|jx ys ⟨O,N,aa,X,Z,hL⟩ sb I I
  clear X Z hL V;clear ys;rintro ys ⟨-,-,-,X,Z,hL⟩;have V:eq ys=eq xs:=X.len;refine jn (σ:=Unit) (fun _=>[(0,.slice (some ⟨g,eq pre,none⟩) (eq xs) cap),(1,.int .i64 c),(2,.int .i64 d),(3,.int .i64 lm),(8,.bool wb),(9,.bool wp),(10,.int .i64 n1),(11,.int .i64 pv)]) (fun _=>pt g (kA kd pre ys post) (sf kd 29 3)::hs) (fun _=>True) ?_ ?_
  ·refine sq<|bO [pt g (kA kd pre ys post) (sf kd 29 3)] 15 [0,2,4,6,8,10,12,14,16,18,20,22,25,26,28] Q8 qk qk (dP qk 1 (0<c) I Q8 (fun aA=>?_) (fun aA=>?_))
   ·refine bF qk 3 I (v':=.int .i64 (c-1:Nat)) (by rw[show((c:Nat):Int)-1=((c-1:Nat):Int)from qo];exact ba qo) (bu qk 0 (c-1) I I qo ?_);simp only[bf,aaf];refine bT qk 0 0 I I (bN qo) (bu qk 2 pv I I qo ?_);simp only[bf,aaf];refine bT qk 0 0 I I (bN qo) (aB qk 0 I (cl 0 I (jG kd (ys.getD (c-1) 0) (ys.getD pv 0)) ?_));rintro cz aT b7 ⟨rfl,rfl,rfl⟩;refine aP Q8 I ?_
    by_cases ap:ys.getD (c-1) 0<ys.getD pv 0
    ·rw[decide_eq_true ap];exact aI qk 2 I (th (bP I (sk (jx () trivial sb I I))))
    rw[decide_eq_false ap];refine aI qk 2 I (th (dk I (acY ?_)));have J:=Pj kd (w0:=w0) (K:=aT) (hs:=hs) g cap pre post ys c d pv qo ad qo qo qo;rw[V]at J;refine cl 4 I J ?_;rintro cA cm b8 ⟨rfl,Y,i,rfl,rfl,U,a5,aN,bm,bo,bp⟩;have ae:eq Y=eq ys:=U.len;obtain⟨a4,a3⟩:=(Z.step U).equal aA a5 aN qo (hL.perm U qo) (by rw[U.R8 (i:=c-1) (.inl qo),bp];exact abo ap) bm bo;exact fin 1 I (acV (fin 2 I (th (ex (je (xb (bn (x:=((c,d,lm),(wb,wp),Y)) ((i,d,lm),(wb,wp),Y) sb I I ⟨ab,aC,N,aN,X.trans (U.wide O N),a4,a3⟩ aC)))))))
   exact aB qk 10 I<|Bc 1 I (aP Q8 I<|aI qk 2 I (th<|bP I (sk<|jx () trivial sb I I)))
  rintro - -;refine acY ?_;have J:=PW kd (w0:=w0) (K:=an) (hs:=hs) g cap pre post ys c d pv qo ad qo qo qo;rw[V]at J;refine cl 4 I J ?_;rintro cB aq b9 ⟨rfl,Y,m,t,rfl,rfl,U,hA⟩;have aR:=hA.m1;have aS:=hA.m2;have ae:eq Y=eq xs:=U.len.trans V;have ag:=hL.perm U qo;have aF:=X.trans (U.wide O N);refine fin 5 I (acV (fin 2 I (acV (ar 2 I (v':=.int .i64 (m-c:Nat)) (by rw[show((m:Nat):Int)-((c:Nat):Int)=((m-c:Nat):Int)from qo];exact ba qo) (ar 2 I (v':=.int .i64 (d-m:Nat)) (by rw[show((d:Nat):Int)-((m:Nat):Int)=((d-m:Nat):Int)from qo];exact ba qo) (fin 2 I (acV (ar 1 I (mF n1 8 qo) (fin 1 I (acV (aw 2 I fun bB aD=>fin 0 I (th (ax aD I (fun aY=>?_) (fun aY=>?_))))))))))))))
  ·refine acY (aw 2 I fun av bV=>fin 1 I (acV ?_));have J:=ih (n-1) qo (w0:=w0) (K:=aq) (hs:=hs) g cap pre post Y c m lm aR qo qo qo ab (ag.cut qo) qo;rw[ae]at J;refine cl 4 I J ?_;rintro ca bq a6 ⟨rfl,us,rfl,hU,hS⟩;have bi:eq us=eq xs:=hU.len.trans ae;refine fin 0 I (acX (eP 1 m ?_));exact fin 1 I (bl (bn (x:=((c,d,lm),(wb,wp),Y)) ((m+1,d,lm),(av,t),us) sb I I ⟨ab,aC,N,aS,aF.trans (hU.wide O qo),(Z.step U).left hA qo hU hS,(hA.left hU qo).Up (ag.perm (hU.wide (aac _) qo) qo)⟩ aC))
  refine acY (aw 2 I fun ay b0=>fin 1 I (acV (eP 2 m ?_)));have J:=ih (n-1) qo (w0:=w0) (K:=aq) (hs:=hs) g cap pre post Y (m+1) d lm aS qo qo qo ab (hA.Up ag) qo;rw[ae]at J;refine cl 2 I J ?_;rintro cc bs bb ⟨rfl,us,rfl,hU,hS⟩;have bi:eq us=eq xs:=hU.len.trans ae;exact fin 0 I (acX (fin 2 I (bl (bn (x:=((c,d,lm),(wb,wp),Y)) ((c,m,lm),(ay,t),us) sb I I ⟨ab,O,aC,aR,aF.trans (hU.wide qo N),(Z.step U).right hA qo hU hS,(ag.perm (hU.wide qo (aac _)) qo).cut aC⟩ aC))))
end
section
def mn(l:Ae)(ks:Ae):Nat:=eq (l.filter fun x=>decide (x∉ks))
def tx{ks k}(O:k∉ks):∀{l:Ae},k∈l->mn l (ks++[k])<mn l ks:=by
 have N:∀l:Ae,mn l (ks++[k])<=mn l ks:=fun l=>by
  unfold mn;rw[<-acp,<-acp];exact List.countP_mono_left fun x _ J=>by simp at J⊢;exact J.1
 intro l
 induction l with
 |nil=>intro h;simp at h
 |cons x l U=>
  intro h
  by_cases e:x=k
  ·subst e;have:=N l;unfold mn at this⊢;rw[acI Q8,acJ (by simp[O])];simp only[aas];omega
  have:=U (by rcases aaB.1 h with h|h;exact absurd h.symm e;exact h);unfold mn at this⊢
  by_cases J:x∈ks
  ·rw[acI (by simp[J]),acI (by simp[J])];exact this
  rw[acJ (by simp[J,e]),acJ (by simp[J])];simp only[aas];omega
abbrev gq{ν:Type}(m:List (Int×ν)):={l:Ae // l.Nodup/\∀k∈l,k∈m.map (·.1)}
def gq.add{ν}{m:List (Int×ν)}(s:gq m)(k)(J:k∈m.map (·.1))(N:k∉s.1):gq m:=⟨s.1++[k],by
 refine acl.2 ⟨s.2.1,Q8,?_⟩;intro a O b hb;simp only[aaC]at hb;subst hb;intro e;subst e;exact N O,fun j hj=>by
 rcases aao.1 hj with hj|hj
 ·exact s.2.2 j hj
 simp only[aaC]at hj;rw[hj];exact J⟩
def gq.len{ν}{m:List (Int×ν)}(s:gq m):eq s.1<=eq m:=by
 have h:=s.2.1.length_le_of_subset (l₂:=m.map (·.1)) (fun k J=>s.2.2 k J);simpa using h
def rO{ν:Type}(enc:Int->Value)(m:List (Int×ν))(s:gq m)(vs:Ad)(s':gq m):Prop:=∃k J N,vs=[enc k]/\s'=s.add k J N
def gq.nil{ν}(m:List (Int×ν)):gq m:=⟨[],Q8,Q8⟩
def nu{ν}(m:List (Int×ν))(s:gq m):Prop:=∀k∈m.map (·.1),k∈s.1
def zu(hm:PH)(J N:Nat)(K:PH)(hs:Ac):Prop:=(∃h,In K hs h/\co h ⟨J,0,none⟩ (.map (some N)))/\In K hs hm
theorem gq.perm{ν}{m:List (Int×ν)}(J:(m.map (·.1)).Nodup)(s:gq m)(h:nu m s):s.1.Perm (m.map (·.1)):=
 (List.perm_ext_iff_of_nodup s.2.1 J).2 fun k=>⟨s.2.2 k,h k⟩
def qz(ks:Ae):Ad:=ks.map fun k=>Value.int .u64 k
def fV(kd:Bool)(ks:Ae):Ad:=ks.map fun k=>Value.int (kI kd) k
def Pn(kd):Tryz.prog.underlying (sf kd 124 129)=some (.map (sf kd 29 3) (sf kd 129 136)):=by
 cases kd
 ·exact Tryz.underlying129
 exact Tryz.underlying124
def F4(kd)(bo):ai w0 (sf kd 96 50) [.map (some bo)] K hs
  (fun v J hs'=>J=K/\∃b,hs'=pt b #[.map (some bo)] (sf kd 124 129)::hs/\v=.func (.func (sf kd 164 99)) #[] #[Rp b]):=by
 cases kd
 let kd:Bool:=false
 rewrite[show sf false=sf kd from rfl]
 refine enter Tryz.func50 qk I I I ?_
 rotate_left
 let kd:Bool:=true
 rewrite[show sf true=sf kd from rfl]
 refine enter Tryz.func96 qk I I I ?_
 rotate_left
 all_goals
  exact acY (bx 0 I fun N=>fin 1 I<|acV (fin 2 I<|ac0<|af I I ⟨I,N,I,I⟩))
def F3(kd){ν}(encv:ν->Value)(hm b1 bo)(m:List (Int×ν))(ad:(m.map (·.1)).Nodup)(hO:dH (fG kd) encv hm bo m):
  sM Tryz.prog w0 (sf kd 164 99) [Rp b1] (rO (fG kd) m) (nu m) (gq.nil m) (zu hm b1 bo):=by
 cases kd
 let kd:Bool:=false
 rewrite[show sf false=sf kd from rfl]
 try rewrite[show fG false=fG kd from rfl]
 rotate_left
 let kd:Bool:=true
 rewrite[show sf true=sf kd from rfl]
 try rewrite[show fG true=fG kd from rfl]
 rotate_left
 all_goals
  intro L St Sp X hY K hs h0
 refine nX Tryz.func99 qk I I I ?_
 rotate_left
 refine nX Tryz.func164 qk I I I ?_
 rotate_left
 all_goals
  obtain⟨⟨h1,m1,c1⟩,m2⟩:=X _ K hs h0;refine df (eW (ld 0 I m1 c1 (zT 0 I (Pn kd) m2 hO fun r hi ab=>fin 0 I (dx (du (kO ?_))))))
  refine uG (σ:=PH×gq m×PH×Ac) (fun _=>[(0,.func (.yield L) #[] #[]),(1,Rp b1),(5,Rp r)]) (fun s=>s.2.2.1) (fun s=>s.1::s.2.2.2)
   (fun s=>ke (fG kd) encv hm s.1 bo r m s.2.1.1/\St s.2.1 s.2.2.1 s.2.2.2) (fun s=>mn (m.map (·.1)) s.2.1.1) (hi,gq.nil m,K,hs) ⟨ab,h0⟩ sb rfl rfl ?_
  rintro⟨hi,ks,K,hs⟩ ⟨hI,V⟩;dsimp only at *;obtain⟨_,m2⟩:=X ks K hs V;refine df (eW (zU 0 0 I m2.cons I hI ad (fun k v J Z O hS=>?_) (fun Y=>?_)))
  ·have N:k∈m.map (·.1):=aau.2 ⟨_,Z,rfl⟩;refine fin 1 I (dx (du (df (sr I (mH (du (kO (df (eW (zV 0 I m2.cons (.inr ⟨0,I⟩) hS (fin 2 I (dx (du (df (zR (iT.cut 2 (fin 2 I (zI (zP I ((hY ks [(fG kd) k] (ks.add k N O) K hs [J] ⟨k,N,O,I,I⟩ V).perm (abw J hs).symm) ?_)))))))))))))))))));rintro ag aa ae ⟨U,rfl,⟨rfl,hn⟩|⟨rfl,hp⟩⟩
   ·exact iT.fin<|fin 1 I (dx<|du (su I<|mH (l6<|dw.perm (abw J U) (uC (x:=(hi,ks,K,hs)) (J,ks.add k N O,aa,U) sb I I ⟨hS.1,hn⟩<|tx O N))))
   exact iT.fin<|fin 1 I (dx<|du (sr I<|lu (qx<|qw (qx<|dw.perm (abw J U) (dw.drop<|y6 I (.inr hp))))))
  exact fin 1 I (dx (du (df (su I (vp (o8 (o8 (vg (dw.drop (zi I (.inl ⟨ks,fun k hk=>by obtain⟨x,hx,rfl⟩:=aau.1 hk;exact Y x hx,V⟩)))))))))))
def NQ(kd){ν}(f cap)(m:List (Int×ν))(Rd)(it:sM Tryz.prog w0 f cap (rO (fG kd) m) (nu m) (gq.nil m) Rd)(Y:jD Tryz.prog f=true)
  (hl:eq m<=1000000000) (hR:∀x y fr,Rd K (x::y::(hs++fr))):
  ai w0 (sf kd 214 165) [.slice none 0 0,.func (.func f) #[] cap.toArray] K hs
   (fun v X hs'=>X=K/\∃(s:gq m) (ao:Ab) (c:Nat) (g:PH),nu m s/\hs'=g::hs/\v=.slice ao (eq s.1) c/\aJ g ao (eq s.1) c (sf kd 29 3) 1 (fV kd s.1)):=by
 cases kd
 let kd:Bool:=false
 rewrite[show sf false=sf kd from rfl]
 try rewrite[show fV false=fV kd from rfl]
 try rewrite[show fG false=fG kd from rfl]
 refine nX Tryz.func165 qk I I I ?_
 rotate_left
 let kd:Bool:=true
 rewrite[show sf true=sf kd from rfl]
 try rewrite[show fV true=fV kd from rfl]
 try rewrite[show fG true=fG kd from rfl]
 refine nX Tryz.func214 qk I I I ?_
 rotate_left
 all_goals
  refine df<|eW (bx 0 I fun Z=>fin 1 I<|dx (du<|df (df<|eW (fin 1 I<|dx (du<|kO (WX.em<|WX.perm (aap _ _ _) ?_))))))
  refine QA cap (rO (fG kd) m) (nu m) (gq.nil m) Rd I it Y (fun s vs s' h=>by obtain⟨k,_,_,rfl,_⟩:=h;rfl) rfl
   (fun s X hs'=>X=K/\∃ao c g,hs'=pt Z #[.slice ao (eq s.1) c] (sf kd 127 31)::g::hs/\aJ g ao (eq s.1) c (sf kd 29 3) 1 (fV kd s.1))
   (fun _ _ _=>False) ⟨rfl,none,0,em,rfl,aJ.nil _ _⟩ (fun s X hs' t u h=>by obtain⟨rfl,ao,c,g,rfl,_⟩:=h;exact hR _ _ _) ?_ ?_ ?_
  ·rintro L s vs s' X hs' fr t u ⟨k,hk,V,rfl,rfl⟩ ⟨rfl,ao,c,g,rfl,o⟩;have ad:=(s.add k hk V).len;have N:eq (s.add k hk V).1=eq s.1+1:=by simp[gq.add]
   refine eW (fin 1 I (dx (zL (hs':=pt Z #[.slice ao (eq s.1) c] (sf kd 127 31)::g::(hs++fr)) Q8 fun u=>kO (eW (aX 0 0 I I I (lit 1 #[(fG kd) k] I Q9 qk fun ae=>app 0 2 I I o (.inr ⟨0,I⟩) (aJ.Re I Q9).Ni I Q9 (by simp[fG,Value.oneCell']) (by show(eq s.1+1)*8<=_;omega) As fun J O U ab=>Ji 0 1 rfl rfl rfl rfl (fin 0 rfl (dx (l6 (dw.drop (zB (hs':=pt Z #[.slice J (eq s.1+1) O] (sf kd 127 31)::U::(hs++fr)) rfl (⟨pt Z #[.slice J (eq s.1+1) O] (sf kd 127 31)::U::hs,rfl,rfl,J,O,U,by rw[N],?_⟩))))))))))));rw[N];have:fV kd (s.add k hk V).1=fV kd s.1++[(fG kd) k]:=by simp[gq.add,fV,fG]
   rw[this];exact ab
  ·rintro D s X hs' aa ⟨rfl,ao,c,g,rfl,o⟩;exact id (l6 (du (df (eW (aX 0 0 I I I (fin 1 I (dx (du (lu (dw.drop (Ph D (hs':=g::hs) I I I ⟨I,s,ao,c,g,aa,I,I,o⟩)))))))))))
  rintro D c K hs hj;exact hj.elim
end
section
def oO(x:Int):Ae->Ae
 |[]=>[x]
 |y::l=>if x<=y then x::y::l else y::oO x l
def fb:Ae->Ae
 |[]=>[]
 |x::l=>oO x (fb l)
theorem wQ(x):∀l,(oO x l).Perm (x::l)
 |[]=>List.Perm.refl _
 |y::l=>by
  unfold oO
  split
  ·exact List.Perm.refl _
  exact((wQ x l).cons y).trans<|aap x y l
theorem dW:∀l,(fb l).Perm l
 |[]=>List.Perm.refl _
 |x::l=>(wQ x _).trans ((dW l).cons x)
theorem C7(x):∀{l},l.Pairwise (· <= ·)->(oO x l).Pairwise (· <= ·)
 |[],_=>by simp[oO]
 |y::l,h=>by
  unfold oO;have O:=aa4.1 h
  split
  ·rename_i J;refine aa4.2 ⟨fun z N=>?_,h⟩;rcases aaB.1 N with rfl|N
   ·exact J
   exact Int.le_trans J<|O.1 z N
  rename_i J;refine aa4.2 ⟨fun z N=>?_,C7 x O.2⟩;rcases aaB.1 ((wQ x l).mem_iff.1 N)with rfl|N
  ·omega
  exact O.1 z N
theorem nM:∀l,(fb l).Pairwise (· <= ·)
 |[]=>List.Pairwise.nil
 |x::l=>C7 x (nM l)
def xZ{l ys:Ae}(hp:ys.Perm l)(hs:ys.Pairwise (· <= ·)):ys=fb l:=
 List.Perm.eq_of_pairwise (le:=(· <= ·)) (fun a b _ _ J N=>Int.le_antisymm J N) hs (nM l) (hp.trans (dW l).symm)
def dz.pw{ys:Af}(h:dz 0 (eq ys) ys):(ys.map fun x=>((x:Nat):Int)).Pairwise (· <= ·):=by
 rw[abJ,abD];intro i j hi hj J;have:=h i j (aad _) J hj;rw[aaR,aaR,aai hi,aai hj]at this;simp only[aaZ]at this;omega
def M9(kd ks)(h:∀k∈ks,0<=k):fV kd ks=iC kd (ks.map Int.toNat):=by
 unfold fV iC;rw[aa8];refine abn fun k J=>?_;have:=h k J;simp only[Function.comp_apply];rw[acH this]
def M8(kd ys):iC kd ys=fV kd (ys.map fun x=>((x:Nat):Int)):=by
 unfold fV iC;rw[aa8]
 rfl
def LD(ks:Ae)(h:∀k∈ks,0<=k):(ks.map Int.toNat).map (fun x=>((x:Nat):Int))=ks:=by
 rw[aa8]
 conv=>rhs;rw[<-List.map_id ks]
 refine abn fun k J=>?_;have:=h k J;simp only[Function.comp_apply,id];rw[acH this]
theorem aJ.kA{kd g ao c e xs}(o:aJ g ao (eq xs) c e 1 (iC kd xs))(hne:ao≠none):∃b pre post,ao=some ⟨b,eq pre,none⟩/\g=pt b (kA kd pre xs post) e/\eq xs<=c:=by
 obtain⟨Z,V,h3,⟨O,_⟩|⟨b,off,J,O,X,Y,U⟩⟩:=o
 ·exact absurd O hne
 have hl:eq J.toList=J.size:=abW;have N:off<=eq J.toList:=by rw[hl,Y];omega
 refine⟨b,J.toList.take off,J.toList.drop (off+eq xs),?_,?_,V⟩
 ·rw[O,aal,abk N]
 rw[X]
 congr 1
 unfold En.kA;rw[aaf]at U;rw[<-U,aaH,<-aaP,aaE,aaE]
def aU(D:Dk):Ae:=fb (D.Iz.map (·.1))
def L7(kd){ν}(f cap)(m:List (Int×ν))(Rd)(it:sM Tryz.prog w0 f cap (rO (fG kd) m) (nu m) (gq.nil m) Rd)(J:jD Tryz.prog f=true)
  (hl:eq m<=1000000000) (V:∀x y fr,Rd K (x::y::(hs++fr))):
  ai w0 (sf kd 162 97) [.func (.func f) #[] cap.toArray] K hs
   (fun v N hs'=>N=K/\∃(s:gq m) (ao:Ab) (c:Nat) (g:PH),nu m s/\hs'=g::hs/\v=.slice ao (eq s.1) c/\aJ g ao (eq s.1) c (sf kd 29 3) 1 (fV kd s.1)):=by
 cases kd
 let kd:Bool:=false
 rewrite[show sf false=sf kd from rfl]
 try rewrite[show fV false=fV kd from rfl]
 try rewrite[show fG false=fG kd from rfl]
 refine enter Tryz.func97 qk I I I ?_
 rotate_left
 let kd:Bool:=true
 rewrite[show sf true=sf kd from rfl]
 try rewrite[show fV true=fV kd from rfl]
 try rewrite[show fG true=fG kd from rfl]
 refine enter Tryz.func162 qk I I I ?_
 rotate_left
 all_goals
  refine acY (fin 1 I (acV (cl 1 I (NQ kd f cap m Rd it J hl V) ?_)));rintro Z Y X ⟨rfl,s,ao,c,g,O,rfl,rfl,U⟩;exact fin 1 I (ac0 (af I I ⟨I,s,ao,c,g,O,I,I,U⟩))
def y5(kd)(g cap pre post xs)(hc:eq xs<=cap)(hl:eq xs<=2^40):
  ai w0 (sf kd 163 98) [.slice (some ⟨g,eq pre,none⟩) (eq xs) cap] K (pt g (kA kd pre xs post) (sf kd 29 3)::hs)
   (fun v O hs'=>O=K/\∃ys,hs'=pt g (kA kd pre ys post) (sf kd 29 3)::hs/\bK 0 (eq xs) xs ys/\dz 0 (eq xs) ys):=by
 cases kd
 let kd:Bool:=false
 rewrite[show sf false=sf kd from rfl]
 try rewrite[show kA false=kA kd from rfl]
 refine enter Tryz.func98 qk I I I ?_
 rotate_left
 let kd:Bool:=true
 rewrite[show sf true=sf kd from rfl]
 try rewrite[show kA true=kA kd from rfl]
 refine enter Tryz.func163 qk I I I ?_
 rotate_left
 all_goals
  refine acY (fin 3 I (acX (ar 3 I (bL qo) (cl 0 I (zD (eq xs) qo) ?_))));rintro v9 V aa ⟨rfl,rfl,n,rfl,X,-⟩;have J:=PV kd (eq xs) (w0:=w0) (K:=V) (hs:=hs) g cap pre post xs 0 (eq xs) n (aad _) (aac _) hc hl X (iu.zero _ _) qo;refine cl 0 I J ?_;rintro ab U N ⟨rfl,ys,rfl,Y,Z⟩;exact fin 0 I (bZ I ⟨I,ys,I,Y,Z⟩)
def Nb(kd):ai w0 (sf kd 254 216) [.slice none 0 0,.int .i64 0,.int .i64 0] K hs (fun v N hs'=>N=K/\hs'=hs):=by
 cases kd
 let kd:Bool:=false
 rewrite[show sf false=sf kd from rfl]
 refine enter Tryz.func216 qk I I I ?_
 rotate_left
 let kd:Bool:=true
 rewrite[show sf true=sf kd from rfl]
 refine enter Tryz.func254 qk I I I ?_
 rotate_left
 all_goals
  refine acY (ar 1 I (ba (x:=1) qo) (fin 1 I (th (bk (loop (σ:=Unit) (fun _=>[(2,.int .i64 0),(6,.int .i64 1)]) (fun _=>K) (fun _=>hs) (fun _=>True) (fun _=>0) () trivial sb I I ?_)))));rintro - -;exact sq (acY (aw 2 I fun O J=>fin 0 I (th (GE J qo I (ex (xt (xt (xb (bZ I ⟨I,I⟩)))))))))
def MX(kd)(n):ai w0 (sf kd 215 166) [.slice none 0 0,.int .i64 0,.int .i64 0,.int .i64 (n:Nat)] K hs (fun v O hs'=>O=K/\hs'=hs):=by
 cases kd
 let kd:Bool:=false
 rewrite[show sf false=sf kd from rfl]
 refine enter Tryz.func166 qk I I I ?_
 rotate_left
 let kd:Bool:=true
 rewrite[show sf true=sf kd from rfl]
 refine enter Tryz.func215 qk I I I ?_
 rotate_left
 all_goals
  refine acY (fin 1 I (acV (fin 1 I (th (bk (loop (σ:=Unit) (fun _=>[(0,.slice none 0 0),(1,.int .i64 0),(2,.int .i64 0)]) (fun _=>K) (fun _=>hs) (fun _=>True) (fun _=>0) () trivial sb I I ?_))))));rintro - -;refine bk (acY (ar 2 I (ba (x:=0) qo) (fin 1 I (acU (aw 1 I fun V J=>fin 0 I (th (uZ J qo I (acY (cl 3 I (Nb kd) ?_)))))))));rintro X U N ⟨rfl,rfl⟩;exact fin 0 I (ac0 (rT (rB (rT (rB (jK I ⟨I,I⟩))))))
def Lb(kd):ai w0 (sf kd 163 98) [.slice none 0 0] K hs (fun v N hs'=>N=K/\hs'=hs):=by
 cases kd
 let kd:Bool:=false
 rewrite[show sf false=sf kd from rfl]
 refine enter Tryz.func98 qk I I I ?_
 rotate_left
 let kd:Bool:=true
 rewrite[show sf true=sf kd from rfl]
 refine enter Tryz.func163 qk I I I ?_
 rotate_left
 all_goals
  refine acY (fin 3 I (acX (ar 3 I (bL (x:=0) qo) (cl 0 I (zD 0 qo) ?_))));rintro Z X U ⟨rfl,rfl,n,rfl,Y,-⟩;refine cl 0 I (MX kd n) ?_;rintro V O J ⟨rfl,rfl⟩;exact fin 0 I (bZ I ⟨I,I⟩)
def DP(kd){ν}(f)(cap:Ad)(m:List (Int×ν))(ad:(m.map (·.1)).Nodup)(h0:∀k∈m.map (·.1),0<=k)(Rd:PH->Ac->Prop)(it:sM Tryz.prog w0 f cap (rO (fG kd) m) (nu m) (gq.nil m) Rd)(V:jD Tryz.prog f=true)
  (hl:eq m<=1000000000) (hR:∀x y fr,Rd K (x::y::(hs++fr))):
  ai w0 (sf kd 95 49) [.func (.func f) #[] cap.toArray] K hs
   (fun v Z hs'=>Le K Z/\hs'=hs/\∃ao c,v=.slice ao (eq m) c/\aj Z ao (eq m) c 1 (fV kd (fb (m.map (·.1))))):=by
 cases kd
 let kd:Bool:=false
 rewrite[show sf false=sf kd from rfl]
 try rewrite[show fV false=fV kd from rfl]
 try rewrite[show fG false=fG kd from rfl]
 refine enter Tryz.func49 qk I I I ?_
 rotate_left
 let kd:Bool:=true
 rewrite[show sf true=sf kd from rfl]
 try rewrite[show fV true=fV kd from rfl]
 try rewrite[show fG true=fG kd from rfl]
 refine enter Tryz.func95 qk I I I ?_
 rotate_left
 all_goals
  refine acY (fin 1 I (acV (cl 1 I (L7 kd f cap m Rd it V hl hR) ?_)));rintro v5 K5 an ⟨rfl,s,ao,c,g,ae,rfl,rfl,o⟩;have hp:=s.perm ad ae;have J:eq s.1=eq m:=by have:=hp.length_eq;simpa using this
  have X:∀k∈s.1,0<=k:=fun k hk=>h0 k (hp.mem_iff.1 hk);obtain⟨xs,U⟩:=a9 (s.1.map Int.toNat);have O:eq xs=eq m:=by rw[U];simpa using J
  rw[J,M9 kd s.1 X,<-U,<-O]at o;rw[J,<-O];refine fin 1 I (acV ?_);cases ao with
  |none=>
   have aa:eq xs=0/\c=0:=by
    obtain⟨_,h2,_,⟨_,h4,_⟩|⟨_,_,_,h4,_⟩⟩:=o
    ·omega
    cases h4
   obtain⟨hz,rfl⟩:=aa;rw[hz];refine cl 1 I (Lb kd) ?_;rintro v7 K7 ag ⟨rfl,rfl⟩;refine fin 0 I (acV (fin 2 I (ac0 (Bh (af I I ⟨Cg _,I,none,0,I,?_⟩)))));have ab:m=[]:=List.length_eq_zero_iff.1 (O.symm.trans hz);subst ab;exact aj.nil _ _ _ _
  |some a=>
   obtain⟨b,pre,post,ha,rfl,hc⟩:=o.kA Q8;rw[ha];refine cl 1 I (y5 kd b c pre post xs hc qo) ?_;rintro v7 K7 ag ⟨rfl,ys,rfl,hQ,hS⟩;refine fin 0 I (acV (fin 2 I (ac0 (Ei fun Z ak am=>?_))));have Y:=hQ.len
   have N:(ys.map fun x=>((x:Nat):Int))=fb (m.map (·.1)):=by
    refine xZ ?_ ?_
    ·have h1:=hQ.perm.map (fun x:Nat=>((x:Nat):Int));rw[U,LD s.1 X]at h1;exact h1.trans hp
    rw[<-Y]at hS;exact hS.pw
   refine af I I ⟨ak,I,_,c,I,?_⟩;rw[<-N,<-M8 kd,<-Y];exact(pX qo).le am
def FJ{m:Ac}(b)(D:Dk)(c)(o:D.Ok c)(hl:eq D.Iz<=1000000000)(h0:∀k∈D.Iz.map (·.1),0<=k)(hm:gP K b D m):
  ai w0 48 [Rp b] K (m++hs)
   (fun v U hs'=>Le K U/\hs'=m++hs/\∃ao c,v=.slice ao (eq (aU D)) c/\aj U ao (eq (aU D)) c 1 (qz (aU D))):=by
 obtain⟨O,ho,ins,rfl,Z,Y⟩:=hm;have J:(fe ins).map (·.1)=D.Iz.map (·.1):=by rw[pG,nR Y]
 have V:eq (fe ins)=eq D.Iz:=by have:=congrArg List.length J;simpa using this
 refine enter Tryz.func48 qk I I I (acY (fin 1 I (acV (aX 3 0 I I I (cl 0 I (F4 true O) ?_)))));rintro v7 K7 aa ⟨rfl,N,rfl,rfl⟩
 refine cl 0 I (DP true (m:=fe ins) _ [Rp N] (by rw[J];exact o.keys) (by rw[J];exact h0) (zu ho N O) (F3 true sw ho N O (fe ins) (by rw[J];exact o.keys) Z) qk qo
  (fun x y fr=>⟨⟨_,.inr ⟨2,rfl⟩,co.pt rfl⟩,.inr ⟨4,rfl⟩⟩)) ?_
 rintro v8 K8 ab ⟨le,rfl,ao,X,rfl,hx⟩;refine fin 1 I (ac0 (Bh ?_));have e:aU D=fb ((fe ins).map (·.1)):=by unfold aU;rw[J]
 have e2:eq (aU D)=eq (fe ins):=by rw[e,(dW _).length_eq,aaM]
 exact af I I ⟨le,I,ao,X,by rw[e2],by rw[e2,e];exact hx⟩
end
section
def Ct.Tx{f args}{m:Ac}{R R'}(d:iW m)(c:Ct P w0 f args K (m++hs) R)
  (h:∀v J hs',R v J hs'->∃N,hs'=N++hs/\(iW N->R' v J (dt N::hs))):Ct P w0 f args K (dt m::hs) R':=
 ⟨c.1,fun w hw=>(c.2 w (hw.split d)).mono fun e w' Z=>by
  obtain⟨v,J,hs',rfl,X,Y⟩:=Z;obtain⟨N,rfl,V⟩:=h v J hs' X;obtain⟨U,O⟩:=a7.join N Y;exact⟨v,J,_,I,V U,O⟩⟩
def Ct.Ta{f args}{R R'}(c:Ct P w0 f args K hs R)
  (h:∀w v J hs',a7 w0 w J hs'->R v J hs'->∃N hs2,R' v N hs2/\a7 w0 w N hs2):Ct P w0 f args K hs R':=
 ⟨c.1,fun w Z=>(c.2 w Z).mono fun e w' Y=>by
  obtain⟨v,J,hs',rfl,V,X⟩:=Y;obtain⟨N,hs2,O,U⟩:=h w' v J hs' X V;exact⟨v,N,hs2,I,O,U⟩⟩
def fo(m:List (Int×Ar)):Nat:=(m.map fun x=>eq x.2).sum
theorem s8{a l}:∀(m:List (Int×Ar)),fo (cj a l m)+eq ((aZ a m).getD [])=fo m+eq l
 |[]=>by simp[cj,aZ,fo]
 |(k,u)::m=>by
  by_cases e:a=k
  ·grind[cj,aZ,fo]
  have:=s8 (a:=a) (l:=l) m
  grind[cj,aZ,fo]
theorem wy{a}:∀(m:List (Int×Ar)),(m.map (·.1)).Nodup->fo (dN a m)+eq ((aZ a m).getD [])=fo m
 |[],_=>by rfl
 |(k,u)::m,h=>by
  simp only[aay,aa9]at h
  by_cases e:a=k
  ·grind[aZ,dN,fo]
  have:=wy (a:=a) m h.2
  grind[dN,aZ,fo]
structure aW (c:Nat) (D:Dk):Prop where
 ok:D.Ok c
 ar:∀k∈D.Iz.map (·.1),0<=k/\k<=18446744073709551615
 len:eq D.Iz<=c
 cap:D.room+(fo D.Iz:Int)<=1073741824
theorem aW.up{c d D}(o:aW c D)(h:c<=d):aW d D:=⟨o.ok.up h,o.ar,by have:=o.len;omega,o.cap⟩
theorem aW.write{c D}(o:aW c D)(a n b)(O:0<=a/\a<=18446744073709551615):aW (c+1) (D.write a n b).1:=by
 refine⟨o.ok.write a n b,?_,?_,?_⟩
 ·unfold Dk.write
  split
  ·exact o.ar
  split
  ·exact o.ar
  split
  ·exact o.ar
  intro k U;obtain⟨x,N,rfl⟩:=aau.1 U;rcases iX N with rfl|N
  ·exact O
  exact o.ar _<|aau.2 ⟨x,N,I⟩
 ·have:=o.len;unfold Dk.write
  split
  ·dsimp only;omega
  split
  ·dsimp only;omega
  split
  ·dsimp only;omega
  show eq (cj a _ D.Iz)<=c+1;rw[qM]
  split<;>omega
 have J:=o.cap;unfold Dk.write
 split
 ·exact J
 split
 ·exact J
 split
 ·exact J
 show(D.laid a n b).room+(fo (D.laid a n b).Iz:Int)<=_;unfold Dk.laid;dsimp only;have V:=s8 (a:=a) (l:=cj n (gp (D.sec a n) b) (D.ar a)) D.Iz;have X:eq ((aZ a D.Iz).getD [])=eq (D.ar a):=rfl;have Y:=qM n (gp (D.sec a n) b) (D.ar a);have Z:D.sec a n=aZ n (D.ar a):=rfl
 grind
theorem qX(D:Dk)(a):(D.RF a).map (·.1)=D.Iz.map (·.1):=by
 grind[tp,Dk.RF]
def KX(D:Dk)(a):fo (D.RF a)=fo D.Iz:=by
 unfold Dk.RF;cases hg:aZ a D.Iz with
 |none=>rfl
 |some l=>
  have:=s8 (a:=a) (l:=l.map fun x=>(x.1,jJ x.2)) D.Iz
  simp_all
theorem aW.sync{c D}(o:aW c D)(a):aW (c+1) (D.sync a).1:=by
 refine⟨o.ok.sync a,?_,?_,?_⟩
 ·unfold Dk.sync
  split
  ·exact o.ar
  split
  ·exact o.ar
  show ∀k∈(D.RF a).map (·.1),_;rw[qX];exact o.ar
 ·have:=o.len;unfold Dk.sync
  split
  ·dsimp only;omega
  split
  ·show eq D.Iz<=c+1;omega
  have h:=congrArg List.length (qX D a)
  grind
 have J:=o.cap;unfold Dk.sync
 split
 ·exact J
 split
 ·exact J
 show D.room+(fo (D.RF a):Int)<=_;rw[KX];exact J
def aW.TN{c D}(o:aW c D)(a):(eq (D.ar a):Int)<=fo D.Iz:=by
 have h:=wy (a:=a) D.Iz o.ok.keys;have J:eq ((aZ a D.Iz).getD [])=eq (D.ar a):=rfl;omega
theorem aW.free{c D}(o:aW c D)(a):aW (c+1) (D.free a).1:=by
 have hs:=lB (k:=a) D.Iz;have J:=o.cap;refine⟨o.ok.free a (by have:=o.TN a;omega),?_,?_,?_⟩
 ·unfold Dk.free
  split
  ·exact o.ar
  split
  ·exact o.ar
  intro k N;obtain⟨x,O,rfl⟩:=aau.1 N;exact o.ar _ (aau.2 ⟨x,hs.subset O,I⟩)
 ·have:=o.len;unfold Dk.free
  split
  ·dsimp only;omega
  split
  ·show eq D.Iz<=c+1;omega
  grind
 unfold Dk.free
 split
 ·exact J
 split
 ·exact J
 show D.room+(eq (D.ar a):Int)+(fo (dN a D.Iz):Int)<=_;have h:=wy (a:=a) D.Iz o.ok.keys;have U:eq ((aZ a D.Iz).getD [])=eq (D.ar a):=rfl;omega
def gY(c:Nat)(s:Int)(D:Dk):Prop:=aW c {D with steps:=0}/\0<=D.steps/\D.steps<=s
def aW.os{c D}(h:aW c D):gY c (c*1048576) D:=
 ⟨⟨⟨h.ok.keys,h.ok.ns,h.ok.vs,h.ok.room,⟨aaD 0,by show(0:Int)<=_;omega⟩,h.ok.left,h.ok.at_⟩,h.ar,h.len,h.cap⟩,h.ok.steps⟩
theorem gY.ok{c s D}(h:gY c s D)(hs:s<=c*1048576):aW c D:=
 ⟨⟨h.1.ok.keys,h.1.ok.ns,h.1.ok.vs,h.1.ok.room,⟨h.2.1,by have:=h.2.2;omega⟩,h.1.ok.left,h.1.ok.at_⟩,h.1.ar,h.1.len,h.1.cap⟩
theorem gY.up{c d s t D}(h:gY c s D)(J:c<=d)(hs:s<=t):gY d t D:=⟨h.1.up J,h.2.1,by have:=h.2.2;omega⟩
def Pu(D:Dk)(a):({ (D.free a).1 with steps:=0}:Dk)={ (({D with steps:=0}:Dk).free a).1 with steps:=0}:=by
 unfold Dk.free Dk.Ji Dk.ar;dsimp only
 repeat' split
 all_goals first
  |rfl
  |simp_all
def LT(D:Dk)(a):(D.free a).1.Iz.Sublist D.Iz:=by
 unfold Dk.free
 repeat' split
 ·exact List.Sublist.refl _
 ·exact List.Sublist.refl _
 exact lB D.Iz
theorem gY.free{c s D}(h:gY c s D)(a):gY c (s+1) (D.free a).1:=by
 obtain⟨o,N,O⟩:=h;refine⟨?_,?_⟩
 ·rw[Pu];have f:=o.free a;have hs:=LT {D with steps:=0} a;exact⟨⟨f.ok.keys,fun x J=>o.ok.ns x (hs.subset J),fun x J=>o.ok.vs x (hs.subset J),f.ok.room,⟨aaD 0,by show(0:Int)<=_;omega⟩,f.ok.left,f.ok.at_⟩,f.ar,aat hs.length_le o.len,f.cap⟩
 unfold Dk.free Dk.Ji
 repeat' split
 all_goals (dsimp only;omega)
def bM(K:PH)(b:Nat)(D:Dk)(h:PH):Prop:=∃m,h=dt m/\iW m/\gP K b D m
theorem bM.le{K J:PH}(l:Le K J){b D h}(x:bM K b D h):bM J b D h:=let⟨m,N,O,U⟩:=x;⟨m,N,O,U.le l⟩
def PX(r)(U:0<=r/\r<=2^40):ai w0 47 [.int .i64 r] K hs
  (fun v J hs'=>J=K/\∃b h,hs'=h::hs/\bM K b (eX r) h/\v=Rp b):=by
 refine Ct.Ta (FY r U) ?_;rintro w v J hs' O ⟨rfl,b,m,rfl,hm,rfl⟩;obtain⟨d,N⟩:=a7.join m O;exact⟨J,_,⟨I,b,dt m,I,⟨m,I,d,hm⟩,I⟩,N⟩
def Ge{h:PH}(b D)(hm:bM K b D h):ai w0 100 [Rp b] K (h::hs)
  (fun v J hs'=>J=K/\hs'=h::hs/\v=.bool D.dead):=by
 obtain⟨m,rfl,d,hm⟩:=hm;refine Ct.Tx d (PB b D hm) ?_
 simp
def y7{h:PH}(b D c)(o:D.Ok c)(U:c<=1099511627)(hm:bM K b D h)(area n):
  ai w0 109 [Rp b,.int .u64 area,.int .i64 n] K (h::hs)
   (fun v N hs'=>∃O,hs'=O::hs/\O=h/\Le K N/\((D.read area n=none/\v=.tuple Ik) \/
    ∃J ao cap,D.read area n=some J/\eq J=64/\v=.tuple #[.slice ao (eq J) cap,.bool true]/\aj N ao (eq J) cap 1 (bv J))):=by
 obtain⟨m,rfl,d,hm⟩:=hm;refine Ct.Tx d (On b D c o U hm area n) ?_
 simp_all
def yA{hv h:PH}(b D c)(o:D.Ok c)(Z:c<=1099511627)(hm:bM K b D h)(area n)(Y:0<=area/\area<=18446744073709551615)(ao cap bs)(N:In K hs hv)(x:aj hv ao (eq bs) cap 1 (bv bs)):
  ai w0 207 [Rp b,.int .u64 area,.int .i64 n,.slice ao (eq bs) cap] K (h::hs)
   (fun v J hs'=>∃U,hs'=U::hs/\Le K J/\bM J b (D.write area n bs).1 U/\v=.int .i64 (D.write area n bs).2):=by
 obtain⟨m,rfl,d,hm⟩:=hm;refine Ct.Tx d (NV b D c o Z hm area n Y ao cap bs N x) ?_;rintro v J hs' ⟨le,V,rfl,O,rfl⟩;exact⟨V,I,fun X=>⟨_,I,le,⟨V,I,X,O⟩,I⟩⟩
def uE{h:PH}(b D c)(o:D.Ok c)(X:c<=1099511627)(hm:bM K b D h)(area):
  ai w0 175 [Rp b,.int .u64 area] K (h::hs)
   (fun v N hs'=>∃O,hs'=O::hs/\N=K/\bM K b (D.sync area).1 O/\v=.int .i64 (D.sync area).2):=by
 obtain⟨m,rfl,d,hm⟩:=hm;refine Ct.Tx d (Pa b D c o X hm area) ?_;rintro v N hs' ⟨rfl,U,rfl,J,rfl⟩;exact⟨U,I,fun V=>⟨_,I,I,⟨U,I,V,J⟩,I⟩⟩
def rV{h:PH}(b D c)(o:D.Ok c)(X:c<=1099511627)(hm:bM K b D h)(area):
  ai w0 58 [Rp b,.int .u64 area] K (h::hs)
   (fun v N hs'=>∃O,hs'=O::hs/\N=K/\bM K b (D.free area).1 O/\v=.int .i64 (D.free area).2):=by
 obtain⟨m,rfl,d,hm⟩:=hm;refine Ct.Tx d (Pt b D c o X hm area) ?_;rintro v N hs' ⟨rfl,U,rfl,J,rfl⟩;exact⟨U,I,fun V=>⟨_,I,I,⟨U,I,V,J⟩,I⟩⟩
def yY{h:PH}(b D c)(o:aW c D)(U:c<=1000000000)(hm:bM K b D h):
  ai w0 48 [Rp b] K (h::hs)
   (fun v J hs'=>∃N,hs'=N::hs/\N=h/\Le K J/\∃ao c,v=.slice ao (eq (aU D)) c/\aj J ao (eq (aU D)) c 1 (qz (aU D))):=by
 obtain⟨m,rfl,d,hm⟩:=hm;refine Ct.Tx d (FJ b D c o.ok (by have:=o.len;omega) (fun k O=>(o.ar k O).1) hm) ?_
 simp_all
end
section
def aM(num:Nat):Int:=((4*num+1:Nat):Int)
def iM(s:Aa):Nat:=min (s.getD 0 0).toNat 63
def lW(D:Dk)(num:Nat):Nat->Nat->Aa
 |0,_=>[]
 |f+1,n=>match D.read (aM num) n with
  |none=>[]
  |some s=>(s.drop 1).take (iM s)++(if iM s<63 then []else lW D num f (n+1))
def fY(D:Dk)(num:Nat):Aa:=lW D num 65537 0
def bt:Nat:=2^62
def c9:Nat:=1152921504606846976
def jR:Nat->Rd->List (Aa)
 |0,_=>[]
 |f+1,r=>if(bW 512 r).2.2=0 then(bW 512 r).1::jR f (bW 512 r).2 else []
structure ji where
 num:Nat
 idx:Nat
 full:Nat
 rest:Aa
structure Wl where
 op:Option ji
 first:Nat
 Ja:List (Aa)
 Jd:List (Nat×Nat)
 next:Nat
 code:Int
def Wl.follows(W:Wl)(n idx:Nat):Wl×Bool:=
 if eq W.Jd=0\/idx<W.first then({W with first:=idx,Ja:=[],Jd:=W.Jd++[(n,idx)]},true)
 else if eq W.Ja<idx-W.first then(W,false)
 else({W with Ja:=W.Ja.take (idx-W.first),Jd:=W.Jd++[(n,idx)]},true)
def kx(D:Dk)(n:Nat)(W:Wl):Wl×Bool×Bool:=
 if(aG bt (fY D n,0)).2.2≠0 then(W,true,true)
 else if(W.follows n (aG bt (fY D n,0)).1).2=false then((W.follows n (aG bt (fY D n,0)).1).1,false,false)
 else({ (W.follows n (aG bt (fY D n,0)).1).1 with Ja:=(W.follows n (aG bt (fY D n,0)).1).1.Ja++jR (eq (fY D n)+1) (aG bt (fY D n,0)).2},true,false)
def ci(J:Ae):Af:=(J.filter fun a=>decide (a%4=1)).map fun a=>a.toNat/4
def iL(J:Ae):Nat:=(ci J).foldl (fun _ n=>n+1) 0
def fD(D:Dk)(fr n:Nat)(W:Wl):Wl×Bool×Bool:=if n<fr then(W,true,true)else kx D n W
def ic(D:Dk)(fr:Nat):Af->Wl->Af->Wl×Af×Bool
 |[],W,g=>(W,g,true)
 |n::r,W,g=>
  if(fD D fr n W).2.1=false\/bt<(fD D fr n W).1.first+eq (fD D fr n W).1.Ja then((fD D fr n W).1,if(fD D fr n W).2.2 then g++[n]else g,false)
  else ic D fr r (fD D fr n W).1 (if(fD D fr n W).2.2 then g++[n]else g)
def fO(D:Dk)(g:Af)(n:Nat):Dk×Int:=if n∈g then D.free (aM n)else D.sync (aM n)
def wsettle(g:Af):Af->Dk->Dk×Int
 |[],D=>(D,0)
 |n::r,D=>if(fO D g n).2=0 then wsettle g r (fO D g n).1 else fO D g n
def dY(fr first:Nat)(J:Ae):Wl:=⟨none,first,[],[],max (iL J) fr,0⟩
def dL(D:Dk)(fr first:Nat):Option Wl×Dk×Int:=
 if D.dead=true then(none,D,30)
 else if bt<first then(none,D,52)
 else if c9<(dY fr first (aU D)).next then(none,D,52)
 else if(ic D fr (ci (aU D)) (dY fr first (aU D)) []).2.2=false then(none,D,52)
 else if(wsettle (ic D fr (ci (aU D)) (dY fr first (aU D)) []).2.1 (ci (aU D)) D).2≠0 then(none,wsettle (ic D fr (ci (aU D)) (dY fr first (aU D)) []).2.1 (ci (aU D)) D)
 else(some (ic D fr (ci (aU D)) (dY fr first (aU D)) []).1,(wsettle (ic D fr (ci (aU D)) (dY fr first (aU D)) []).2.1 (ci (aU D)) D).1,0)
def RY:Nat->ji->Dk->ji×Dk×Int
 |0,o,D=>(o,D,0)
 |f+1,o,D=>
  if(D.write (aM o.num) o.full (UInt8.ofNat (min (eq o.rest) 63)::o.rest.take (min (eq o.rest) 63))).2≠0\/eq o.rest<63 then
   (o,(D.write (aM o.num) o.full (UInt8.ofNat (min (eq o.rest) 63)::o.rest.take (min (eq o.rest) 63))).1,(D.write (aM o.num) o.full (UInt8.ofNat (min (eq o.rest) 63)::o.rest.take (min (eq o.rest) 63))).2)
  else if eq o.rest=63 then({o with full:=o.full+1,rest:=[]},(D.write (aM o.num) o.full (UInt8.ofNat (min (eq o.rest) 63)::o.rest.take (min (eq o.rest) 63))).1,0)
  else RY f {o with full:=o.full+1,rest:=o.rest.drop 63} (D.write (aM o.num) o.full (UInt8.ofNat (min (eq o.rest) 63)::o.rest.take (min (eq o.rest) 63))).1
def Rv(o:ji)(b:Aa)(D:Dk):ji×Dk×Int:=RY (eq o.rest+eq b+1) {o with rest:=o.rest++b} D
def Wl.sync(W:Wl)(D:Dk):Wl×Dk:=
 if W.code≠0 then(W,D)else match W.op with
 |none=>(W,D)
 |some o=>({W with code:=(D.sync (aM o.num)).2},(D.sync (aM o.num)).1)
def Wl.begin(W:Wl)(i:Nat)(D:Dk):Wl×Dk:=
 if(W.sync D).1.code≠0 then W.sync D
 else({ (W.sync D).1 with op:=some (Rv ⟨W.next,i,0,[]⟩ (aK i) (W.sync D).2).1,next:=W.next+1,Jd:=W.Jd++[(W.next,i)],code:=(Rv ⟨W.next,i,0,[]⟩ (aK i) (W.sync D).2).2.2},(Rv ⟨W.next,i,0,[]⟩ (aK i) (W.sync D).2).2.1)
def np:Option ji->Bool
 |none=>true
 |some o=>decide (16<=o.full)
def dJ(W:Wl)(b:Aa)(D:Dk):Wl×Dk×Int:=match W.op with
 |none=>(W,D,W.code)
 |some o=>({W with op:=some (Rv o (cJ b) D).1,code:=(Rv o (cJ b) D).2.2,Ja:=if(Rv o (cJ b) D).2.2=0 then W.Ja++[b]else W.Ja},(Rv o (cJ b) D).2.1,(Rv o (cJ b) D).2.2)
def Wl.append(W:Wl)(b:Aa)(D:Dk):Wl×Dk×Int:=
 if W.code≠0 then(W,D,W.code)
 else if 512<eq b then(W,D,50)
 else if W.first+eq W.Ja=bt then(W,D,51)
 else if np W.op=true then
  (if(W.begin (W.first+eq W.Ja) D).1.code≠0 then((W.begin (W.first+eq W.Ja) D).1,(W.begin (W.first+eq W.Ja) D).2,(W.begin (W.first+eq W.Ja) D).1.code)
   else dJ (W.begin (W.first+eq W.Ja) D).1 b (W.begin (W.first+eq W.Ja) D).2)
 else dJ W b D
def Wl.truncate(W:Wl)(i:Nat)(D:Dk):Wl×Dk×Int:=
 if W.code≠0 then(W,D,W.code)
 else if i<W.first\/eq W.Ja<i-W.first then(W,D,51)
 else if i-W.first=eq W.Ja then(W,D,0)
 else(if(W.begin i D).1.code=0 then { (W.begin i D).1 with Ja:=W.Ja.take (i-W.first)}else(W.begin i D).1,(W.begin i D).2,(W.begin i D).1.code)
def lD(Jd:List (Nat×Nat))(i:Nat):Bool:=(Jd.drop 1).any fun s=>decide (s.2<=i)
def Kd(i:Nat):Nat->List (Nat×Nat)->Dk->List (Nat×Nat)×Dk×Int
 |0,Jd,D=>(Jd,D,0)
 |f+1,Jd,D=>if 1<eq Jd/\lD Jd i=true then
   (if(D.free (aM (Jd.headD (0,0)).1)).2≠0 then(Jd,(D.free (aM (Jd.headD (0,0)).1)).1,(D.free (aM (Jd.headD (0,0)).1)).2)
    else Kd i f (Jd.drop 1) (D.free (aM (Jd.headD (0,0)).1)).1)
  else(Jd,D,0)
def Wl.Jf(W:Wl)(i:Nat)(D:Dk):Wl×Dk:=if i=W.first+eq W.Ja then W.begin i D else(W,D)
def Wl.Jb(W:Wl)(i:Nat)(D:Dk):Wl×Dk:=(W.Jf i D).1.sync (W.Jf i D).2
def Wl.Jh(W:Wl)(i:Nat)(D:Dk):Wl×Dk×Int:=
 if W.code≠0 then(W,D,W.code)
 else if i<=W.first then(W,D,0)
 else if eq W.Ja<i-W.first then(W,D,51)
 else if(W.Jb i D).1.code≠0 then((W.Jb i D).1,(W.Jb i D).2,(W.Jb i D).1.code)
 else if(Kd i (eq (W.Jb i D).1.Jd+1) (W.Jb i D).1.Jd (W.Jb i D).2).2.2≠0 then
  ({ (W.Jb i D).1 with Jd:=(Kd i (eq (W.Jb i D).1.Jd+1) (W.Jb i D).1.Jd (W.Jb i D).2).1,code:=(Kd i (eq (W.Jb i D).1.Jd+1) (W.Jb i D).1.Jd (W.Jb i D).2).2.2},(Kd i (eq (W.Jb i D).1.Jd+1) (W.Jb i D).1.Jd (W.Jb i D).2).2.1,(Kd i (eq (W.Jb i D).1.Jd+1) (W.Jb i D).1.Jd (W.Jb i D).2).2.2)
 else({ (W.Jb i D).1 with Jd:=(Kd i (eq (W.Jb i D).1.Jd+1) (W.Jb i D).1.Jd (W.Jb i D).2).1,Ja:=W.Ja.drop (i-W.first),first:=i},(Kd i (eq (W.Jb i D).1.Jd+1) (W.Jb i D).1.Jd (W.Jb i D).2).2.1,0)
def Kb:Ae->Dk->Dk×Int
 |[],D=>(D,0)
 |a::r,D=>if a%4=1 then(if(D.free a).2=0 then Kb r (D.free a).1 else D.free a)else Kb r D
def Wl.reset(W:Wl)(first:Nat)(D:Dk):Wl×Dk×Int:=
 if W.code≠0 then(W,D,W.code)
 else if bt<first then(W,D,51)
 else if(Kb (aU D) D).2≠0 then({W with code:=(Kb (aU D) D).2},Kb (aU D) D)
 else({W with op:=none,Jd:=[],Ja:=[],first:=first},(Kb (aU D) D).1,0)
end
section
def fP:Nat->Nat->Aa
 |0,_=>[]
 |k+1,n=>UInt8.ofNat n::fP k (n/256)
theorem mR:∀(k n:Nat),eq (fP k n)=k
 |0,_=>rfl
 |k+1,n=>by simp[fP,mR k]
theorem Ef:∀(k n i:Nat),i<k->(fP k n)[i]?=some (UInt8.ofNat (n/256^i))
 |0,_,_,h=>by omega
 |k+1,n,0,_=>by simp[fP]
 |k+1,n,i+1,h=>by
  rw[fP,List.getElem?_cons_succ,Ef k (n/256) i qo,Nat.div_div_eq_div_mul,ach,acb]
theorem DE:∀(k n:Nat),n<256^k->eF (fP k n)=n
 |0,n,h=>by simp at h;simp[fP,eF,h]
 |k+1,n,h=>by
  have J:n/256<256^k:=by rw[Nat.div_lt_iff_lt_mul Q9];rw[ach]at h;exact h
  rw[fP];simp only[eF,DE k _ J]
  simp
  omega
def iy(n:Nat)(v:Aa):Aa:=fP 8 n++(UInt8.ofNat (eq v)::(v++List.replicate (51-eq v) 0))
def cM(n:Nat)(v:Aa):Aa:=iy n v++fP 4 (mN (iy n v)).toNat
def AE{n v}(h:eq v<=48):eq (iy n v)=60:=by simp[iy,mR];omega
def qK{n v}(h:eq v<=48):eq (cM n v)=64:=by simp[cM,mR,AE h]
def jm(b:Aa)(i:Nat):Nat×Aa:=
 if 48<(b.getD 8 0).toNat then(0,[])
 else if eF (b.take 8)%2=i/\b=cM (eF (b.take 8)) ((b.drop 9).take (b.getD 8 0).toNat)then(eF (b.take 8),(b.drop 9).take (b.getD 8 0).toNat)else(0,[])
def iZ(D:Dk)(J i:Nat):Nat×Aa:=match D.read J i with
 |none=>(0,[])
 |some b=>jm b i
structure cW where
 num:Nat
 val:Aa
def cW.pick(s:cW)(r:Nat×Aa):cW:=if s.num<r.1 then⟨r.1,r.2⟩else s
def iF(D:Dk)(J:Nat):cW:=(cW.pick ⟨0,[]⟩ (iZ D J 0)).pick (iZ D J 1)
def cW.save(s:cW)(J:Nat)(D:Dk)(v:Aa):cW×Dk×Int:=
 if 48<eq v\/s.num=18446744073709551615 then(s,D,40)
 else if(D.write J (((s.num+1)%2:Nat):Int) (cM (s.num+1) v)).2=0 then
  (if((D.write J (((s.num+1)%2:Nat):Int) (cM (s.num+1) v)).1.sync J).2=0 then⟨s.num+1,v⟩else s,((D.write J (((s.num+1)%2:Nat):Int) (cM (s.num+1) v)).1.sync J).1,((D.write J (((s.num+1)%2:Nat):Int) (cM (s.num+1) v)).1.sync J).2)
 else(s,(D.write J (((s.num+1)%2:Nat):Int) (cM (s.num+1) v)).1,(D.write J (((s.num+1)%2:Nat):Int) (cM (s.num+1) v)).2)
end
section
def uA{g ty A B C off n cap}(ho:off=eq A)(hn:n=eq B)(J:n<=cap):aj (pt g (bv (A++B++C)).toArray ty) (some ⟨g,off,none⟩) n cap 1 (bv B):=by
 subst ho;subst hn;refine⟨by simp[bv],J,fun j u N=>⟨_,I,?_⟩⟩
 have hj:j<eq B:=by
  grind[bv]
 simp_all[bf,co.pt,abc,abE,bv]
def FI{l}{i:Nat}(h):(bv l).toArray[i]?=some (.int .u8 (l[i].toNat:Nat)):=by rw[List.getElem?_toArray,rL h]
def O6(l i m):(bv l).toArray.setIfInBounds i (.int .u8 (m%256:Nat))=(bv (l.set i (UInt8.ofNat m))).toArray:=by
 rw[List.setIfInBounds_toArray];unfold bv
 simp
def LH{k n i}{B:Aa}(J:eq B=k)(hi:i<k):((fP k n).take i++B.drop i).set i (UInt8.ofNat (n/2^(8*i)))=(fP k n).take (i+1)++B.drop (i+1):=by
 have hl:eq ((fP k n).take i)=i:=by rw[aal,mR];omega
 have hp:(2:Nat)^(8*i)=256^i:=by rw[Nat.pow_mul]
 rw[aco _ _ qo,hl,ack,aaI qo,List.set_cons_zero,hp,aaN,Ef k n i hi]
 simp
theorem PE{X v Z W k}(J:k=eq X)(N:eq Z=eq v):(List.take k (bv (X++(Z++W)))++List.take (eq v*1) (bv v)++List.drop (k+eq v*1) (bv (X++(Z++W)))).toArray=(bv (X++(v++W))).toArray:=by
 simp_all[aaA,acK,bv]
def GC(g off k cap ty n A B C)(ho:off=eq A)(Y:eq B=k)(hk:k<=8)(hc:k<=cap):
  ai w0 227 [.slice (some ⟨g,off,none⟩) k cap,.int .u64 (n:Nat)] K (pt g (bv (A++B++C)).toArray ty::hs)
   (fun v U hs'=>U=K/\hs'=pt g (bv (A++fP k n++C)).toArray ty::hs):=by
 refine cP Tryz.func227 ?_
 refine loop (σ:=Nat) (fun i=>[(0,.slice (some ⟨g,off,none⟩) k cap),(1,.int .u64 (n:Nat)),(6,.int .i64 (k:Nat)),(7,.int .i64 (i:Nat))]) (fun _=>K) (fun i=>pt g (bv (A++((fP k n).take i++B.drop i)++C)).toArray ty::hs)
  (fun i=>i<=k) (fun i=>k-i) 0 (aad _) ⟨rfl,rfl,rfl,rfl,trivial⟩ rfl Q8 ?_
 intro i hi;refine acY (aw 0 I fun b8 X=>au ?_);refine ax X I (fun e2=>?_) (fun e2=>?_)
 ·have J:i<k:=qo
  obtain⟨M,O⟩:=a9 ((fP k n).take i++B.drop i);have N:eq M=k:=by simp_all[mR]
  rw[<-O];refine au ?_;refine ar 4 I (ba (x:=((8*i:Nat):Int)) qo) (qv 0 I qo (.inr ⟨I,ul n _ (8*i) I qo⟩) (ar 0 I (kJ _) (dZ 0 i I I (uA (g:=g) (ty:=ty) (C:=C) ho N.symm hc) J Q9 fun V Z=>?_)));cases Z;simp only[bf,aaf];refine Ji 0 0 I I (FI (l:=A++M++C) (i:=off+i) (by simp only[aaj];omega)) rfl (au ?_);refine cZ i ?_;refine bn (x:=i) (i+1) sb I ?_ J qo;show pt g _ ty::hs=_;rw[O6,List.set_append_left _ _ (by rw[aaj];omega),aco _ _ qo,show off+i-eq A=i from qo,O,LH Y J]
 refine ex (xt (xt (xb ?_)));obtain rfl:i=k:=qo
 refine bZ I ⟨I,?_⟩
 simp_all[aaA,mR,abj]
def DS{hv:PH}(n v ao cap)(hl:eq v<=48)(Z:In K hs hv)(x:aj hv ao (eq v) cap 1 (bv v)):
  ai w0 168 [.int .u64 (n:Nat),.slice ao (eq v) cap] K hs (fun u K' hs'=>K'=K/\hs'=hs/\u=.agg (bv (cM n v)).toArray):=by
 have X:=AE (n:=n) hl;refine ent Tryz.func168 ?_;refine acY (al 0 (.agg (bv (List.replicate 64 0)).toArray) I qk fun V=>au ?_);refine al 0 (.agg (bv (List.replicate 64 0)).toArray) I qk fun J=>au ?_;refine vi 0 (sz:=1) 0 8 I I Tryz.underlying245 qk I I Q9 Q9 ?_;simp only[bf,aby,abb];refine cl 1 I (GC J 0 8 64 245 n [] (List.replicate 8 0) (List.replicate 56 0) I Q8 Q9 Q9) ?_;rintro v8 K8 ak ⟨rfl,rfl⟩;refine au ?_;refine ar 2 I (kJ _) (sG 0 (sz:=1) 8 I Tryz.underlying245 qk I Q9 ?_);simp only[bf,aaO,aaf];refine Ji 0 0 I I (FI (l:=[]++fP 8 n++List.replicate 56 0) (i:=8) Q8) I ?_
 refine Ew (pt J (bv (fP 8 n++(UInt8.ofNat (eq v)::List.replicate 55 0))).toArray 245::pt V (bv (List.replicate 64 0)).toArray 245::hs) (congrArg (fun z=>pt J z 245::pt V (bv (List.replicate 64 0)).toArray 245::hs) (by
  rfl)) ?_
 refine au ?_;refine vi 0 (sz:=1) 9 55 I I Tryz.underlying245 qk I I Q9 Q9 ?_;simp only[bf,aaO,aaf];refine Hg 1 0 (eq v) I I I (Bl (Bl Z)) x qo (fun u hu=>gE v u (aaS hu)) (by grind[bv,fP]) ?_
 refine Ew (pt J (bv (iy n v++List.replicate 4 0)).toArray 245::pt V (bv (List.replicate 64 0)).toArray 245::hs) (congrArg (fun z=>pt J z 245::pt V (bv (List.replicate 64 0)).toArray 245::hs) (by
  have e2:List.replicate 55 (0:UInt8)=List.replicate (eq v) 0++(List.replicate (51-eq v) 0++List.replicate 4 0):=by
   grind[List.replicate_append_replicate]
  have e3:fP 8 n++(UInt8.ofNat (eq v)::List.replicate 55 0)=(fP 8 n++[UInt8.ofNat (eq v)])++(List.replicate (eq v) 0++(List.replicate (51-eq v) 0++List.replicate 4 0)):=by rw[<-e2];simp
  grind[PE,iy])) ?_
 refine au ?_;refine bO [] 5 [0,2,5,6,9] Q8 qk qk (zG qk 0 (sz:=1) 60 4 I I Tryz.underlying245 qk I I Q9 Q9 (zG qk 0 (sz:=1) 0 60 I I Tryz.underlying245 qk I I Q9 Q9 ?_));simp only[bf,aaO,aaf,aby,abT,Nat.reduceSub,Nat.reduceAdd];refine au ?_
 have xH:aj (pt J (bv (iy n v++List.replicate 4 0)).toArray 245) (some ⟨J,0,none⟩) (eq (iy n v)) 64 1 (bv (iy n v)):=by
  have:=uA (g:=J) (ty:=245) (A:=[]) (B:=iy n v) (C:=List.replicate 4 0) (off:=0) (n:=eq (iy n v)) (cap:=64) rfl rfl qo;simpa using this
 have O:=Gn (w0:=w0) (K:=K8) (hs:=pt J (bv (iy n v++List.replicate 4 0)).toArray 245::pt V (bv (List.replicate 64 0)).toArray 245::hs) (some ⟨J,0,none⟩) 64 (iy n v) (.inr ⟨0,rfl⟩) xH qo;rw[X]at O;refine cl 0 I O ?_;rintro am Y ab ⟨rfl,rfl,rfl⟩;refine aP Q8 I ?_;have ag:=(mN (iy n v)).isLt;refine bF qk 0 I (bL qo) (au ?_);have N:=GC (w0:=w0) (K:=Y) (hs:=pt V (bv (List.replicate 64 0)).toArray 245::hs) J 60 4 4 245 (mN (iy n v)).toNat (iy n v) (List.replicate 4 0) [] X.symm Q8 Q9 Q9;rw[aaw,aaw]at N;refine cl 0 I N ?_;rintro an ae ad ⟨rfl,rfl⟩;have aa:eq (cM n v)=64:=qK hl;have U:(bv (cM n v)).toArray.size=64:=by simp[bv,aa]
 refine aP Q8 I (aI qk 0 I (acV (fI 0 0 I I (by show i7 Tryz.prog _ (bv (cM n v)).toArray.size=true;rw[U];kernel_rfl) ?_)));refine bA 0 1 I I (by show _=some (bv (cM n v)).toArray.size;rw[U];kernel_rfl) (by simp_all[bv,cM]) (by simp only[acL,aaX];first|exact gE (cM n v)|(simp;intro u hu;exact gE (cM n v) u hu)) ?_;exact fin 0 I (ac0 (Bh (kZ 0 1 I I I (by show i7 Tryz.prog _ (bv (cM n v)).toArray.size=true;rw[U];kernel_rfl) ⟨rfl,rfl,rfl⟩)))
end
section
abbrev fv(g:Nat):Value:=.func (.func g) #[] #[]
abbrev fc(g b:Nat):Value:=.func (.func g) #[] #[dp b]
abbrev kC(b:Nat):Ad:=[fc 229 b,fc 230 b,fc 231 b]
abbrev uw(b:Nat):Ad:=[fc 238 b,fc 239 b,fc 240 b]
abbrev zg:Ad:=[fv 232,fv 233,fv 234]
abbrev F7:Ad:=[fv 235,fv 236,fv 237]
abbrev Gk:Ad:=[fv 241,fv 242,fv 243]
abbrev Gg:Ad:=[fv 244,fv 245,fv 246]
def vf(K:PH)(g:Nat)(cs:Ad):Prop:=∃b,K b=some (ja 262 g)/\cs=kC b
def FK(K:PH)(g:Nat)(cs:Ad):Prop:=∃b,K b=some (ja 265 g)/\cs=uw b
def FV(K:PH)(cs:Ad):dc->Prop
 |.idx=>vf K 181 cs
 |.lt=>vf K 182 cs
 |.Je=>vf K 184 cs
 |.Jn=>vf K 185 cs
 |.off=>FK K 188 cs
 |.whole=>FK K 189 cs
 |.Jj=>cs=zg
 |.Jg=>cs=F7
 |.Jq=>cs=Gk
 |.data=>cs=Gg
def jH{K' b ty g}(l:Le (pt b #[fv g] ty) K'):K' b=some (ja ty g):=l _ _ Q8
def jU(K:PH)(ao:Ab)(cap:Nat)(fs:List dc):Prop:=∃css:List (Ad),aj K ao (eq fs) cap 3 css.flatten/\fg (FV K) css fs
def jU.mk{K' b n css fs}(hn:eq fs=n)(h:fg (FV K') css fs)(J:eq css.flatten=n*3)(N:n<=10)(l:Le (pt b css.flatten.toArray 214) K'):jU K' (some ⟨b,0,none⟩) n fs:=by
 subst hn;refine⟨css,?_,h⟩;have:=(aJ.Re (b:=b) (c:=css.flatten.toArray) (e:=214) (n:=eq fs) (size:=3) (by simpa using J) As).Ni.le l;simpa using this
def la(g):ai w0 180 [fv g] K hs
  (fun v N hs'=>N=K/\∃b,hs'=pt b #[fv g] 262::hs/\v=.agg #[fc 229 b,fc 230 b,fc 231 b]):=by
 refine enter Tryz.func180 qk I I I (acY (bx 0 I fun J=>al 0 (.agg #[.nilFunc,.nilFunc,.nilFunc]) I qk fun O=>fin 0 I (acV (bd 3 (.agg #[fc 229 J,fc 230 J,fc 231 J]) I Aq ?_))));refine bA 0 0 I I qk I I ?_;exact fin 0 I (ac0 (kZ 0 1 I I I qk ⟨I,J,I,I⟩))
def y8(g):ai w0 187 [fv g] K hs
  (fun v N hs'=>N=K/\∃b,hs'=pt b #[fv g] 265::hs/\v=.agg #[fc 238 b,fc 239 b,fc 240 b]):=by
 refine enter Tryz.func187 qk I I I (acY (bx 0 I fun J=>al 0 (.agg #[.nilFunc,.nilFunc,.nilFunc]) I qk fun O=>fin 0 I (acV (bd 3 (.agg #[fc 238 J,fc 239 J,fc 240 J]) I Aq ?_))));refine bA 0 0 I I qk I I ?_;exact fin 0 I (ac0 (kZ 0 1 I I I qk ⟨I,J,I,I⟩))
def Fu:ai w0 183 [] K hs
  (Ap K hs (.agg #[fv 232,fv 233,fv 234])):=by
 refine enter Tryz.func183 qk I I I (acY (al 0 (.agg #[.nilFunc,.nilFunc,.nilFunc]) I qk fun J=>fin 0 I (acV (bd 0 (.agg #[fv 232,fv 233,fv 234]) I Aq ?_))));refine bA 0 0 I I qk I I ?_;exact fin 0 I (ac0 (kZ 0 1 I I I qk ⟨I,I,I⟩))
def Kz:ai w0 186 [] K hs
  (Ap K hs (.agg #[fv 235,fv 236,fv 237])):=by
 refine enter Tryz.func186 qk I I I (acY (al 0 (.agg #[.nilFunc,.nilFunc,.nilFunc]) I qk fun J=>fin 0 I (acV (bd 0 (.agg #[fv 235,fv 236,fv 237]) I Aq ?_))));refine bA 0 0 I I qk I I ?_;exact fin 0 I (ac0 (kZ 0 1 I I I qk ⟨I,I,I⟩))
def KS:ai w0 190 [] K hs
  (Ap K hs (.agg #[fv 241,fv 242,fv 243])):=by
 refine enter Tryz.func190 qk I I I (acY (al 0 (.agg #[.nilFunc,.nilFunc,.nilFunc]) I qk fun J=>fin 0 I (acV (bd 0 (.agg #[fv 241,fv 242,fv 243]) I Aq ?_))));refine bA 0 0 I I qk I I ?_;exact fin 0 I (ac0 (kZ 0 1 I I I qk ⟨I,I,I⟩))
def OW:ai w0 191 [] K hs
  (Ap K hs (.agg #[fv 244,fv 245,fv 246])):=by
 refine enter Tryz.func191 qk I I I (acY (al 0 (.agg #[.nilFunc,.nilFunc,.nilFunc]) I qk fun J=>fin 0 I (acV (bd 0 (.agg #[fv 244,fv 245,fv 246]) I Aq ?_))));refine bA 0 0 I I qk I I ?_;exact fin 0 I (ac0 (kZ 0 1 I I I qk ⟨I,I,I⟩))
def Mi(m)(p:MA):((((((((((m.idx:Nat):Int)=0/\((m.lt:Nat):Int)=0)/\((m.Je:Nat):Int)=0)/\((m.Jn:Nat):Int)=0)/\¬m.Jj=true)/\m.off=0)/\m.whole=0)/\((eq m.Jg:Nat):Int)=0)/\((eq m.Jq:Nat):Int)=0)/\((eq m.data:Nat):Int)=0↔qd m:=by
 simp[and_assoc,qd]
def Nv(k):ai w0 130 [.int .i64 k] K hs
  (fun v K' hs'=>Le K K'/\hs'=hs/\∃ao cap,v=.slice ao (eq (eR k)) cap/\jU K' ao cap (eR k)):=by
 refine enter Tryz.func130 qk I I I<|acY<|fin 1 I (acU (fin 1 I<|th (bk<|acY (aw 0 I fun b5 h5=>fin 1 I<|th (ax h5 I (fun e2=>?_) (fun e2=>?_))))))
 ·refine acY (cl 0 I (la 181) ?_);rintro v6 K6 c4 ⟨rfl,c6,rfl,rfl⟩;refine cl 0 I (la 182) ?_;rintro v7 K7 c5 ⟨rfl,c7,rfl,rfl⟩;refine lit 0 #[fc 229 c6,fc 230 c6,fc 231 c6,fc 229 c7,fc 230 c7,fc 231 c7] I Q9 qk fun b8=>fin 1 I (ac0 (rB (rT (Ei fun KL N J=>(Ei fun K7 aS bo=>(Ei fun K6 aR bm=>?_))))));exact af I I ⟨((N.trans aS).trans aR),I,some ⟨b8,0,none⟩,2,by rw[eR,aab e2];rfl,by rw[eR,aab e2];exact jU.mk (css:=[kC c6,kC c7]) I ⟨⟨c6,jH bm,I⟩,⟨c7,jH (bo.trans aR),I⟩,trivial⟩ I Q9 ((J.trans aS).trans aR)⟩
 refine acY (aw 0 I fun cV cg=>fin 1 I<|th (ax cg I (fun e4=>?_) (fun e4=>?_)))
 ·refine acY (cl 0 I Fu ?_);rintro c8 cO cp ⟨rfl,rfl,rfl⟩;refine lit 0 #[fv 232,fv 233,fv 234] I Q9 qk fun b9=>fin 1 I (ac0 (rB (rT (Ei fun KL N J=>?_))));exact af I I ⟨N,I,some ⟨b9,0,none⟩,1,by rw[eR,aaa e2,aab e4];rfl,by rw[eR,aaa e2,aab e4];exact jU.mk (css:=[zg]) I sb I Q9 J⟩
 refine acY (aw 0 I fun cY ch=>fin 1 I<|th (ax ch I (fun e6=>?_) (fun e6=>?_)))
 ·refine acY (cl 0 I (la 181) ?_);rintro dd bp cq ⟨rfl,ag,rfl,rfl⟩;refine cl 0 I (la 182) ?_;rintro dh bq cr ⟨rfl,ak,rfl,rfl⟩;refine cl 0 I (la 184) ?_;rintro dj bs cs ⟨rfl,am,rfl,rfl⟩;refine cl 0 I (la 185) ?_;rintro dl bB ct ⟨rfl,an,rfl,rfl⟩;refine cl 0 I Kz ?_;rintro dq cQ cu ⟨rfl,rfl,rfl⟩;refine lit 0 #[fc 229 ag,fc 230 ag,fc 231 ag,fc 229 ak,fc 230 ak,fc 231 ak,fc 229 am,fc 230 am,fc 231 am,fc 229 an,fc 230 an,fc 231 an,fv 235,fv 236,fv 237] I Q9 qk fun ca=>fin 1 I (ac0 (rB (rT (Ei fun KL N J=>(Ei fun bB aF a0=>(Ei fun bs Z aY=>(Ei fun bq V aV=>(Ei fun bp O aT=>?_))))))));exact af I I ⟨((((N.trans aF).trans Z).trans V).trans O),I,some ⟨ca,0,none⟩,5,by rw[eR,aaa e2,aaa e4,aab e6];rfl,by rw[eR,aaa e2,aaa e4,aab e6];exact jU.mk (css:=[kC ag,kC ak,kC am,kC an,F7]) I ⟨⟨ag,jH aT,I⟩,⟨ak,jH (aV.trans O),I⟩,⟨am,jH ((aY.trans V).trans O),I⟩,⟨an,jH (((a0.trans Z).trans V).trans O),I⟩,I,trivial⟩ I Q9 ((((J.trans aF).trans Z).trans V).trans O)⟩
 refine acY (aw 0 I fun c1 ck=>fin 1 I<|th (ax ck I (fun e8=>?_) (fun e8=>?_)))
 ·refine acY (cl 0 I Fu ?_);rintro dr cR cv ⟨rfl,rfl,rfl⟩;refine cl 0 I (la 181) ?_;rintro dv bV cx ⟨rfl,ap,rfl,rfl⟩;refine cl 0 I (la 185) ?_;rintro dS b0 cy ⟨rfl,aq,rfl,rfl⟩;refine lit 0 #[fv 232,fv 233,fv 234,fc 229 ap,fc 230 ap,fc 231 ap,fc 229 aq,fc 230 aq,fc 231 aq] I Q9 qk fun cc=>fin 1 I (ac0 (rB (rT (Ei fun KL N J=>(Ei fun b0 aL a2=>(Ei fun bV aa a1=>?_))))));exact af I I ⟨((N.trans aL).trans aa),I,some ⟨cc,0,none⟩,3,by rw[eR,aaa e2,aaa e4,aaa e6,aab e8];rfl,by rw[eR,aaa e2,aaa e4,aaa e6,aab e8];exact jU.mk (css:=[zg,kC ap,kC aq]) I ⟨I,⟨ap,jH a1,I⟩,⟨aq,jH (a2.trans aa),I⟩,trivial⟩ I Q9 ((J.trans aL).trans aa)⟩
 refine acY (aw 0 I fun c2 cm=>fin 1 I<|th (ax cm I (fun Y=>?_) (fun Y=>?_)))
 ·refine acY (cl 0 I (la 181) ?_);rintro d0 b1 cz ⟨rfl,av,rfl,rfl⟩;refine cl 0 I (la 182) ?_;rintro d1 b2 cA ⟨rfl,ay,rfl,rfl⟩;refine cl 0 I (y8 188) ?_;rintro d2 b3 cB ⟨rfl,az,rfl,rfl⟩;refine cl 0 I (y8 189) ?_;rintro d3 b4 cD ⟨rfl,aA,rfl,rfl⟩;refine cl 0 I KS ?_;rintro d4 cS cE ⟨rfl,rfl,rfl⟩;refine cl 0 I OW ?_;rintro d5 cT cF ⟨rfl,rfl,rfl⟩;refine lit 0 #[fc 229 av,fc 230 av,fc 231 av,fc 229 ay,fc 230 ay,fc 231 ay,fc 238 az,fc 239 az,fc 240 az,fc 238 aA,fc 239 aA,fc 240 aA,fv 241,fv 242,fv 243,fv 244,fv 245,fv 246] I Q9 qk fun cd=>fin 1 I (ac0 (rB (rT (Ei fun KL N J=>(Ei fun b4 aN a6=>(Ei fun b3 ab a5=>(Ei fun b2 X a4=>(Ei fun b1 U a3=>?_))))))));exact af I I ⟨((((N.trans aN).trans ab).trans X).trans U),I,some ⟨cd,0,none⟩,6,by rw[eR,aaa e2,aaa e4,aaa e6,aaa e8,aab Y];rfl,by rw[eR,aaa e2,aaa e4,aaa e6,aaa e8,aab Y];exact jU.mk (css:=[kC av,kC ay,uw az,uw aA,Gk,Gg]) I ⟨⟨av,jH a3,I⟩,⟨ay,jH (a4.trans U),I⟩,⟨az,jH ((a5.trans X).trans U),I⟩,⟨aA,jH (((a6.trans ab).trans X).trans U),I⟩,I,I,trivial⟩ I Q9 ((((J.trans aN).trans ab).trans X).trans U)⟩
 refine acY (aw 0 I fun c3 cn=>fin 1 I<|th (ax cn I (fun ae=>?_) (fun ae=>?_)))
 ·refine acY (cl 0 I (la 181) ?_);rintro d6 b6 cL ⟨rfl,aD,rfl,rfl⟩;refine cl 0 I (y8 188) ?_;rintro ea b7 cN ⟨rfl,aE,rfl,rfl⟩;refine lit 0 #[fc 229 aD,fc 230 aD,fc 231 aD,fc 238 aE,fc 239 aE,fc 240 aE] I Q9 qk fun ce=>fin 1 I (ac0 (rB (rT (Ei fun KL N J=>(Ei fun b7 aO bi=>(Ei fun b6 ad bb=>?_))))));exact af I I ⟨((N.trans aO).trans ad),I,some ⟨ce,0,none⟩,2,by rw[eR,aaa e2,aaa e4,aaa e6,aaa e8,aaa Y,aab ae];rfl,by rw[eR,aaa e2,aaa e4,aaa e6,aaa e8,aaa Y,aab ae];exact jU.mk (css:=[kC aD,uw aE]) I ⟨⟨aD,jH bb,I⟩,⟨aE,jH (bi.trans ad),I⟩,trivial⟩ I Q9 ((J.trans aO).trans ad)⟩
 refine sk (bl (acV (fin 1 I (ac0 ?_))));exact af I I ⟨Cg _,I,none,0,by rw[eR,aaa e2,aaa e4,aaa e6,aaa e8,aaa Y,aaa ae];rfl,[],by rw[eR,aaa e2,aaa e4,aaa e6,aaa e8,aaa Y,aaa ae];exact aj.nil _ _ _ _,by rw[eR,aaa e2,aaa e4,aaa e6,aaa e8,aaa Y,aaa ae];trivial⟩
def DZ{w0:World}{K:PH}{hs:Ac}(n):ai w0 131 [.int .i64 n] K hs (fun v J hs'=>J=K/\hs'=hs/\∃t:Bool,v=.bool t/\(t=true↔pP n)):=by
 refine enter Tryz.func131 qk I I I<|acY<|fin 1 I (acV (aw 1 I fun X O=>?_))
 refine' eQ 1 3 8 [4,5] O I I I I I I I (fun _=>?x2) (fun N V=>?_)
 case x2=>
  exact aw 1 I fun Y U=>fin 1 I<|bJ U I I I
 exact fin 1 I<|ac0<|af I I ⟨I,I,N,I,V⟩
def PG{w0:World}{K:PH}{hs:Ac}(m p):ai w0 133 [.agg (mv m p)] K hs (fun v K' hs'=>K'=K/\hs'=hs/\∃t:Bool,v=.bool t/\(t=true↔qd m)):=by
 refine enter Tryz.func133 qk I I I<|acY (bx 0 I fun b1=>fin 1 I<|acV (aX 1 0 I I I (aw 0 I fun b5 h5=>?_)))
 refine' eQ 1 4 10 [5,6] h5 I I I I I I I (fun _=>?x2) (fun ay N=>?_)
 case x2=>
  exact aX 1 0 I I I (aw 0 I fun b9 h9=>fin 1 I<|bJ h9 I I I)
 refine' eQ 1 4 15 [10,11] N I I I I I I I (fun _=>?x4) (fun aA U=>?_)
 case x4=>
  exact aX 1 0 I I I (aw 0 I fun az O=>fin 1 I<|bJ O I I I)
 refine' eQ 1 4 20 [15,16] U I I I I I I I (fun _=>?x6) (fun aE X=>?_)
 case x6=>
  exact aX 1 0 I I I (aw 0 I fun aD V=>fin 1 I<|bJ V I I I)
 refine' eQ 1 4 25 [20,21] X I I I I I I I (fun _=>?x8) (fun aN aa=>?_)
 case x8=>
  exact aX 1 0 I I I (mI fun aF Y=>cG 0 _ I (lU Y) fun aL Z=>fin 1 I<|bJ Z I I I)
 refine' eQ 1 4 30 [25,26] aa I I I I I I I (fun _=>?x9) (fun aR ad=>?_)
 case x9=>
  exact aX 1 0 I I I (aw 0 I fun aO ab=>fin 1 I<|bJ ab I I I)
 refine' eQ 1 4 35 [30,31] ad I I I I I I I (fun _=>?x11) (fun aT ag=>?_)
 case x11=>
  exact aX 1 0 I I I (aw 0 I fun aS ae=>fin 1 I<|bJ ae I I I)
 refine' eQ 1 5 41 [35,36] ag I I I I I I I (fun _=>?x13) (fun aY am=>?_)
 case x13=>
  exact aX 1 0 I I I (aw 1 I fun aV ak=>fin 1 I<|bJ ak I I I)
 refine' eQ 1 5 47 [41,42] am I I I I I I I (fun _=>?x15) (fun a1 ap=>?_)
 case x15=>
  exact aX 1 0 I I I (aw 1 I fun a0 an=>fin 1 I<|bJ an I I I)
 refine' eQ 1 5 53 [47,48] ap I I I I I I I (fun _=>?x17) (fun J av=>?_)
 case x17=>
  exact aX 1 0 I I I (aw 1 I fun a2 aq=>fin 1 I<|bJ aq I I I)
 exact fin 1 I<|ac0<|Bh (af I I ⟨I,I,J,I,av.trans (Mi m p)⟩)
def OT{h1 h2:PH}(U a2 c1 c2 J l2)(m1:In K hs h1)(m2:In K hs h2)(x1:aj h1 U (eq J) c1 1 (bv J))(x2:aj h2 a2 (eq l2) c2 1 (bv l2))(hl:eq J<2^40):
  ai w0 169 [.slice U (eq J) c1,.slice a2 (eq l2) c2] K hs (fun v K' hs'=>K'=K/\hs'=hs/\∃b:Bool,v=.bool b/\(b=true↔J=l2)):=by
 refine cP Tryz.func169 ?_;refine bc 4 I (fun e2=>?_) (fun e2=>?_)
 ·refine au ?_;exact af I I ⟨I,I,false,I,by simp;intro h;subst h;exact e2 I⟩
 refine au ?_;have ak:eq J=eq l2:=qo
 refine au ?_;refine loop (σ:=Nat) (fun i=>[(0,.slice U (eq J) c1),(1,.slice a2 (eq l2) c2),(12,.int .i64 (eq J:Nat)),(13,.int .i64 (i:Nat))]) (fun _=>K) (fun _=>hs) (fun i=>i<=eq J/\J.take i=l2.take i) (fun i=>eq J-i) 0 ⟨aad _,I⟩ ⟨I,I,I,I,trivial⟩ I I ?_;rintro i ⟨hi,he⟩;refine acY (bc 0 I (fun e4=>?_) (fun e4=>?_))
 ·refine au ?_;have N:i<eq J:=qo
  refine au ?_;have O:i<eq l2:=qo
  obtain⟨U,rfl⟩:=x1.addr N Q9;obtain⟨a2,rfl⟩:=x2.addr O Q9;obtain⟨ad,Y,aa⟩:=x1.2.2 i _ (rL N);obtain⟨ae,Z,ab⟩:=x2.2.2 i _ (rL O);cases Y;cases Z;refine au ?_;refine bO hs 9 [0,2,4,6,8,10,12,14,16] Q8 qk qk (bu qk 2 i I I N (ph qk 0 I m1 (by simpa using aa) (bu qk 2 i I I O (ph qk 0 I m2 (by simpa using ab) (dU qk 0 (((J[i].toNat:Nat):Int)≠(l2[i].toNat:Nat)) I Q8 fun ag X=>au ?_)))));refine ax X I (fun V=>?_) (fun V=>?_)
  ·refine au ?_;exact af I I ⟨I,I,false,I,by simp;intro h;subst h;exact V I⟩
  refine sk (acW (ar 0 I (ba qo) (fin 1 I ?_)));exact bn (x:=i) (i+1) sb I I ⟨qo,by rw[nF J i N,nF l2 i O,he,aci.1 (abm.1 (aag.1 V))]⟩ qo
 refine au ?_;obtain rfl:i=eq J:=qo
 refine au ?_;exact af I I ⟨I,I,true,I,by grind⟩
def MY{m}{f:dc}(h:f.S5 m)(J:m.bd):eq (f.SA m)<=2200:=by
 have U:ac=18446744073709551615:=rfl;have V:=dI (n:=m.idx) (by have:=J.idx;omega);have e2:=dI (n:=m.lt) (by have:=J.lt;omega);have X:=dI (n:=m.Je) (by have:=J.Je;omega);have Y:=dI (n:=m.Jn) (by have:=J.Jn;omega);have Z:=dI (xa m.off);have e6:=dI (xa m.whole);cases f
 case idx=>simp only[dc.SA];omega
 case lt=>simp only[dc.SA];omega
 case Je=>simp only[dc.SA];omega
 case Jn=>simp only[dc.SA];omega
 case off=>simp only[dc.SA];omega
 case whole=>simp only[dc.SA];omega
 case Jj=>simp[dc.SA]
 case Jg=>
  obtain⟨N,h2⟩:=h;have h3:=vD m.idx m.Jg 0 N (fun e O=>⟨(J.Jg e O).1,(J.Jg e O).2.1⟩)
  grind[dI,dc.SA]
 case Jq=>grind[AW,dc.SA]
 case data=>
  have N:=h.1
  grind[dI,dc.SA,cJ]
theorem wk{m}(J:m.bd):∀{fs:List dc},(∀f∈fs,f.S5 m)->eq (ib m fs)<=2200*eq fs
 |[],_=>by simp[ib]
 |f::fs,h=>by
  have O:=MY (h f Q8) J;have U:=wk J (fs:=fs) (fun x N=>h x (by simp[N]));simp only[ib,aaj,aas];omega
theorem AA(m):∀l r:List dc,ib m (l++r)=ib m l++ib m r
 |[],r=>rfl
 |f::l,r=>by simp[AA,ib]
theorem AD:∀(l r:List dc) (m:bg),lI (l++r) m=lI r (lI l m)
 |[],r,m=>rfl
 |f::l,r,m=>by simp[AD,lI]
theorem AI(k):eq (eR k)<=6:=by
 unfold eR
 repeat' split
 all_goals simp
def Hw{k}(h:eR k≠[]):1<=k/\k<=6:=by
 unfold eR at h
 grind
theorem Ey(m)(J:m.bd):eq (gw m)<=13:=by
 have N:ac=18446744073709551615:=rfl;have O:=dI (n:=m.term) (by have:=J.term;omega);simp only[gw,aas];omega
def Me{m}(J:m.bd)(h:∀f∈eR m.kind,f.S5 m):eq m.body<=20000:=by
 grind[wk,AI,Ey,bg.body]
def Aw(l:List dc)(i)(h:i<eq l)(d):l.take (i+1)=l.take i++[l.getD i d]:=by
 simp_all
def zt(K:PH)(f:dc)(g:Nat)(cap:Ah):Prop:=∀(w0:World) (h:PH) (R:Ac) (mb:Nat) (m:bg) (p:MA) (ao:Ab) (N:Nat) (J:Aa),aJ h ao (eq J) N 5 1 (bv J)->eq J<2^36->dF K m p->m.bd ->
 ai w0 g ([.slice ao (eq J) N,dp mb]++cap.toList) K (h::pt mb (mv m p) 34::R) (qq f m J (pt mb (mv m p) 34::R) K)
def zx(K:PH)(f:dc)(g:Nat)(cap:Ah):Prop:=∀(w0:World) (R:Ac) (mb:Nat) (m:bg) (p:MA),dF K m p ->
 ai w0 g ([dp mb]++cap.toList) K (pt mb (mv m p) 34::R) (fun v O hs'=>∃J,hs'=J::R/\O=K/\∃N,J=pt mb (mv (f.SR m) N) 34/\dF K (f.SR m) N)
def zw(K:PH)(f:dc)(g:Nat)(cap:Ah):Prop:=∀(w0:World) (h hb:PH) (R:Ac) (rb mb J:Nat) (m:bg) (p:MA) (s:Rd),(f=.Jg->m.Jg=[]/\p.ae=none/\p.ce=0)->R[J]?=some hb->eq s.1<2^40->eU rb hb s h->dF K m p ->
 ai w0 g ([dp rb,dp mb]++cap.toList) K (h::pt mb (mv m p) 34::R) (sB f s m p rb mb hb R K)
def t7{g off cb f}(hs:∀w0,iD w0 g off)(hc:K cb=some (ja 262 g))(n:bg->Nat)(hn:∀m:bg,m.bd->n m<=ac)(hv:∀m p,(mv m p)[off]?=some (.int .u64 (n m:Nat)))(U:∀m,f.S5 m)(O:∀m,f.SA m=aK (n m)):
  zt K f 229 #[dp cb]:=by
 intro w0 h R mb m p ao Y V o hb hS N;refine(OD m p ao Y V o hb (hs w0) hc (n m) (hn m N) (hv m p)).mono ?_;rintro v K' hs' ⟨rfl,Z,J,X,rfl,rfl,o'⟩;exact⟨I,Z,J,X,_,true,I,I,⟨fun _=>U m,fun _=>I⟩,fun _=>by rw[O],o'⟩
def B1{g off cb f}(hs:∀w0,iD w0 g off)(hc:K cb=some (ja 265 g))(n:bg->Int)(hv:∀m p,(mv m p)[off]?=some (.int .i64 (n m)))(O:∀m,f.S5 m↔0<=n m/\n m<=2097152)(N:∀m,f.SA m=aK (kY (n m))):
  zt K f 238 #[dp cb]:=by
 intro w0 h R mb m p ao X U o hb hS Z;refine(Lv m p ao X U o hb (hs w0) hc (n m) (hv m p)).mono ?_;rintro v K' hs' ⟨rfl,Y,J,V,t,rfl,rfl,ht,o'⟩;exact⟨I,Y,J,V,_,t,I,I,ht.trans (O m).symm,fun _=>by rw[N],o'⟩
def uf{g off cb f}(hs:∀w0,iD w0 g off)(O:K cb=some (ja 262 g))(hv:∀m p,∃u,(mv m p)[off]?=some u)(hm:∀m p,(mv m p).setIfInBounds off (.int .u64 0)=mv (f.SR m) p)(J:∀m p,dF K m p->dF K (f.SR m) p):
  zx K f 231 #[dp cb]:=by
 intro w0 R mb m p N;obtain⟨u,U⟩:=hv m p;refine(OF (mv m p) (hs w0) O u U).mono ?_;rintro v V hs' ⟨rfl,rfl⟩;exact⟨_,I,I,p,by rw[hm],J m p N⟩
def Cl{g off cb f}(hs:∀w0,iD w0 g off)(O:K cb=some (ja 265 g))(hv:∀m p,∃u,(mv m p)[off]?=some u)(hm:∀m p,(mv m p).setIfInBounds off (.int .i64 0)=mv (f.SR m) p)(J:∀m p,dF K m p->dF K (f.SR m) p):
  zx K f 240 #[dp cb]:=by
 intro w0 R mb m p N;obtain⟨u,U⟩:=hv m p;refine(Lx (mv m p) (hs w0) O u U).mono ?_;rintro v V hs' ⟨rfl,rfl⟩;exact⟨_,I,I,p,by rw[hm],J m p N⟩
def uc{g off cb f}(hs:∀w0,iD w0 g off)(V:K cb=some (ja 262 g))(hv:∀m p,∃u,(mv m p)[off]?=some u)(hm:∀s m p,(mv m p).setIfInBounds off (.int .u64 ((aG ac s).1:Nat))=mv (f.get s m).2 p)(X:∀s m,(f.get s m).1=(aG ac s).2)(J:∀s m p,dF K m p->dF K (f.get s m).2 p):
  zw K f 230 #[dp cb]:=by
 intro w0 h hb R rb mb Z m p s _ O hl rd U;obtain⟨u,Y⟩:=hv m p;refine(OE (.inr ⟨Z+1,O⟩) s hl rd (hs w0) V u Y).mono ?_;rintro v K' hs' ⟨rfl,N,rfl,rd'⟩;exact⟨Cg _,N,p,by rw[hm],by rw[X];exact rd',J s m p U,fun _=>⟨I,I⟩⟩
def Cc{g off cb f}(hs:∀w0,iD w0 g off)(V:K cb=some (ja 265 g))(hv:∀m p,∃u,(mv m p)[off]?=some u)(hm:∀s m p,(mv m p).setIfInBounds off (.int .i64 ((aG 2097152 s).1:Nat))=mv (f.get s m).2 p)(X:∀s m,(f.get s m).1=(aG 2097152 s).2)(J:∀s m p,dF K m p->dF K (f.get s m).2 p):
  zw K f 239 #[dp cb]:=by
 intro w0 h hb R rb mb Z m p s _ O hl rd U;obtain⟨u,Y⟩:=hv m p;refine(Lw (.inr ⟨Z+1,O⟩) s hl rd (hs w0) V u Y).mono ?_;rintro v K' hs' ⟨rfl,N,rfl,rd'⟩;exact⟨Cg _,N,p,by rw[hm],by rw[X];exact rd',J s m p U,fun _=>⟨I,I⟩⟩
def ug{f}{g mb:Nat}{args R m p}(c:ai w0 g args K (pt mb (mv m p) 34::R) (sC f m mb R K)):
  ai w0 g args K (pt mb (mv m p) 34::R) (fun v N hs'=>∃O,hs'=O::R/\N=K/\∃J,O=pt mb (mv (f.SR m) J) 34/\dF K (f.SR m) J):=
 c.mono fun v N hs' ⟨U,J,V,X⟩=>⟨_,V,U,J,rfl,X⟩
def FV.fns{cs f}(h:FV K cs f):∃g1 U g2 c2 g3 c3,cs=[.func (.func g1) #[] U,.func (.func g2) #[] c2,.func (.func g3) #[] c3]/\zt K f g1 U/\zw K f g2 c2/\zx K f g3 c3:=by
 cases f
 case idx=>
  obtain⟨b,J,rfl⟩:=h
  exact⟨_,_,_,_,_,_,I,t7 (fun w0=>wB) J (·.idx) (fun m h=>h.idx) (fun m p=>I) (fun m=>trivial) (fun m=>I),
   uc (fun w0=>wB) J (fun m p=>⟨_,rfl⟩) (fun s m p=>rfl) (fun s m=>rfl) (fun s m p h=>h),uf (fun w0=>wB) J (fun m p=>⟨_,rfl⟩) (fun m p=>rfl) (fun m p h=>h)⟩
 case lt=>
  obtain⟨b,J,rfl⟩:=h
  exact⟨_,_,_,_,_,_,I,t7 (fun w0=>vK) J (·.lt) (fun m h=>h.lt) (fun m p=>I) (fun m=>trivial) (fun m=>I),
   uc (fun w0=>vK) J (fun m p=>⟨_,rfl⟩) (fun s m p=>rfl) (fun s m=>rfl) (fun s m p h=>h),uf (fun w0=>vK) J (fun m p=>⟨_,rfl⟩) (fun m p=>rfl) (fun m p h=>h)⟩
 case Je=>
  obtain⟨b,J,rfl⟩:=h
  exact⟨_,_,_,_,_,_,I,t7 (fun w0=>vW) J (·.Je) (fun m h=>h.Je) (fun m p=>I) (fun m=>trivial) (fun m=>I),
   uc (fun w0=>vW) J (fun m p=>⟨_,rfl⟩) (fun s m p=>rfl) (fun s m=>rfl) (fun s m p h=>h),uf (fun w0=>vW) J (fun m p=>⟨_,rfl⟩) (fun m p=>rfl) (fun m p h=>h)⟩
 case Jn=>
  obtain⟨b,J,rfl⟩:=h
  exact⟨_,_,_,_,_,_,I,t7 (fun w0=>wA) J (·.Jn) (fun m h=>h.Jn) (fun m p=>I) (fun m=>trivial) (fun m=>I),
   uc (fun w0=>wA) J (fun m p=>⟨_,rfl⟩) (fun s m p=>rfl) (fun s m=>rfl) (fun s m p h=>h),uf (fun w0=>wA) J (fun m p=>⟨_,rfl⟩) (fun m p=>rfl) (fun m p h=>h)⟩
 case off=>
  obtain⟨b,J,rfl⟩:=h
  exact⟨_,_,_,_,_,_,I,B1 (fun w0=>vV) J (·.off) (fun m p=>I) (fun m=>Iff.rfl) (fun m=>I),
   Cc (fun w0=>vV) J (fun m p=>⟨_,rfl⟩) (fun s m p=>rfl) (fun s m=>rfl) (fun s m p h=>h),Cl (fun w0=>vV) J (fun m p=>⟨_,rfl⟩) (fun m p=>rfl) (fun m p h=>h)⟩
 case whole=>
  obtain⟨b,J,rfl⟩:=h
  exact⟨_,_,_,_,_,_,I,B1 (fun w0=>wz) J (·.whole) (fun m p=>I) (fun m=>Iff.rfl) (fun m=>I),
   Cc (fun w0=>wz) J (fun m p=>⟨_,rfl⟩) (fun s m p=>rfl) (fun s m=>rfl) (fun s m p h=>h),Cl (fun w0=>wz) J (fun m p=>⟨_,rfl⟩) (fun m p=>rfl) (fun m p h=>h)⟩
 case Jj=>
  subst h;exact⟨_,_,_,_,_,_,I,fun w0 h R mb m p ao U V o hb N O=>Nm m p ao U V o hb,fun w0 h hb R rb mb Y m p s _ X hl rd N=>Nn m p (.inr ⟨Y+1,X⟩) s rd N,fun w0 R mb m p N=>ug (No m p N)⟩
 case Jg=>
  subst h;exact⟨_,_,_,_,_,_,I,fun w0 h R mb m p ao U V o hb N O=>Nw m p ao U V o hb N O,fun w0 h hb R rb mb Y m p s Z X hl rd N=>Nx m p (Z I).1 (Z I).2.1 (Z I).2.2 X s hl rd N,fun w0 R mb m p N=>ug (Ny m p N)⟩
 case Jq=>
  subst h;exact⟨_,_,_,_,_,_,I,fun w0 h R mb m p ao U V o hb N O=>NZ m p ao U V o hb N O,fun w0 h hb R rb mb Y m p s _ X hl rd N=>N0 m p (.inr ⟨Y+1,X⟩) s rd N,fun w0 R mb m p N=>ug (N1 m p N)⟩
 case data=>
  subst h;exact⟨_,_,_,_,_,_,I,fun w0 h R mb m p ao U V o hb N O=>NC m p ao U V o hb N O,fun w0 h hb R rb mb Y m p s _ X hl rd N=>ND m p (.inr ⟨Y+1,X⟩) s hl rd N,fun w0 R mb m p N=>ug (NE m p N)⟩
theorem jU.get{K:PH}{d}:∀{css:List (Ad)} {fs:List dc} {i:Nat},fg (FV K) css fs->i<eq fs ->
  ∃cs,FV K cs (fs.getD i d)/\eq cs=3/\∀(j:Nat) v,cs[j]?=some v->css.flatten[i*3+j]?=some v
 |[],[],i,_,h=>by simp at h
 |[],_::_,_,g,_=>g.elim
 |_::_,[],_,g,_=>g.elim
 |c::css,f::fs,0,g,h=>by
  obtain⟨U,N,V,c2,X,O,J,_⟩:=g.1.fns;refine⟨c,by simpa using g.1,by rw[J];rfl,fun j v hv=>?_⟩;have hj:j<eq c:=(aav.1 hv).1;rw[abF,aby,aaO,abE hj];exact hv
 |c::css,f::fs,i+1,g,h=>by
  obtain⟨cs,x,hl,Z⟩:=jU.get (d:=d) (i:=i) g.2 (by simpa using h);obtain⟨U,N,V,c2,X,O,J,_⟩:=g.1.fns;have Y:eq c=3:=by rw[J];rfl
  refine⟨cs,by simpa using x,hl,fun j v hv=>?_⟩;have:=Z j v hv;rw[abF,abc qo,show(i+1)*3+j-eq c=i*3+j from qo];exact this
def Oq(b k f t)(N:k<256)(J:f<256)(ht:t<256):aJ (pt b #[.int .u8 (k:Nat),.int .u8 (f:Nat),.int .u8 (t:Nat)] 5) (some ⟨b,0,none⟩) (eq ([UInt8.ofNat k,UInt8.ofNat f,UInt8.ofNat t]:Aa)) 3 5 1 (bv [UInt8.ofNat k,UInt8.ofNat f,UInt8.ofNat t]):=
 pV (aJ.Re (n:=3) (size:=1) Q8 At) rfl (by simp[bv,rY N,rY J,rY ht])
def yU{m}(h:¬m.ok):enc m=none:=aaa h
def NB{w0:World}{K:PH}{hs:Ac}(m p)(hS:dF K m p)(ab:m.bd):
  ai w0 70 [.agg (mv m p)] K hs (fun v K' hs'=>K'=K/\qt (enc m) hs v hs'):=by
 have dh:ac=18446744073709551615:=rfl;have cd:=ab.term;have b9:=AI m.kind;have aN:=Hw (k:=m.kind);have c8:=Ey m ab;have aF:=Me ab;refine enter Tryz.func70 qk I I I (acY (bx 0 I fun b1=>fin 2 I (acV (aX 1 0 I I I (cl 0 I (Nv m.kind) ?_)))));rintro dr ct cg ⟨le,rfl,am,aa,rfl,css,xF,hA⟩;have ay:=hS.le le;generalize J:eR m.kind=fs at b9 aN aF xF hA;refine fin 1 I (acU (aw 2 I fun cL bb=>?_))
 refine' dB 1 5 23 [17,18] bb I I I I I I I (fun _=>?x2) (fun cQ bo=>?_)
 case x2=>
  refine aX 1 0 I I I (cl 0 I (DZ m.Jl) ?_);rintro dv cu ch ⟨rfl,rfl,cN,rfl,bi⟩;exact cG 0 _ I (lU bi) fun cO bm=>fin 1 I (bJ bm I I I)
 refine' dB 1 5 29 [23,24] bo I I I I I I I (fun _=>?x3) (fun cT bs=>?_)
 case x3=>
  refine aX 1 0 I I I (cl 0 I (DZ m.to) ?_);rintro dS cv ck ⟨rfl,rfl,cR,rfl,bp⟩;exact cG 0 _ I (lU bp) fun cS bq=>fin 1 I (bJ bq I I I)
 refine' dB 1 6 36 [29,30] bs I I I I I I I (fun _=>?x4) (fun cY bV=>?_)
 case x4=>
  exact aX 1 0 I I I<|aX 1 0 I I I (aw 0 I fun cV bB=>fin 1 I<|bJ bB I I I)
 refine' dB 1 4 41 [36,37] bV I I I I I I I (fun _=>?x6) (fun c3 b2=>?_)
 case x6=>
  exact aX 1 0 I I I (aw 0 I fun c2 b0=>fin 1 I<|bJ b0 I I I)
 refine fin 0 I<|th (ax b2 I (fun e8=>?_) (fun e8=>?_))
 ·have ca:¬m.ok:=fun h=>by
   obtain⟨⟨p1,p2,p3,p4,p5⟩,_⟩:=h;rw[J]at p1;rcases e8 with(((e|e)|e)|e)|e
   ·exact p1<|aaY qo
   ·exact e p2
   ·exact e p3
   ·exact p4 e
   exact p5 qo
  exact acY (fin 2 I<|ac0<|rT (Bh<|Ev (WQ.SJ le<|bS I I I ⟨I,mG (yU ca)⟩)))
 have V:m.pre:=⟨by rw[J];exact fun h=>e8 (by rw[h];exact .inl (.inl (.inl (.inl I)))),aag.1 fun h=>e8 (.inl (.inl (.inl (.inr h)))),aag.1 fun h=>e8 (.inl (.inl (.inr h))),fun h=>e8 (.inl (.inr h)),fun h=>e8 (.inr (by rw[h];rfl))⟩;clear e8;have dd:=aN (by have:=V.1;rwa[J]at this);have aS:=V.2.1;have aT:=V.2.2.1;unfold pP at aS aT;obtain⟨k,hk⟩:∃k:Nat,m.kind=(k:Nat):=aa5 (show 0<=m.kind by omega);obtain⟨f0,aL⟩:∃k:Nat,m.Jl=(k:Nat):=aa5 aS.1;obtain⟨t0,aV⟩:∃k:Nat,m.to=(k:Nat):=aa5 aT.1;refine sk (acV (aX 1 0 I I I (ar 0 I (v':=.int .u8 (k:Nat)) (by rw[hk,lr qo]) (aX 1 0 I I I (ar 0 I (v':=.int .u8 (f0:Nat)) (by rw[aL,lr qo]) (aX 1 0 I I I (ar 0 I (v':=.int .u8 (t0:Nat)) (by rw[aV,lr qo]) (lit 0 #[.int .u8 (k:Nat),.int .u8 (f0:Nat),.int .u8 (t0:Nat)] I Q9 qk fun a2=>aX 1 1 I I I (cl 0 I (kU _ _ [UInt8.ofNat k,UInt8.ofNat f0,UInt8.ofNat t0] m.term (Oq a2 k f0 t0 qo qo qo) qo Q8) ?_)))))))))
 rintro d0 ak cm ⟨a6,rfl,rfl,av,a3,rfl,a0⟩;have hh:[UInt8.ofNat k,UInt8.ofNat f0,UInt8.ofNat t0]++aK m.term=gw m:=by rw[gw,hk,aL,aV];rfl
 rw[hh]at a0⊢;refine fin 1 I (acU (fin 3 I (th (bk (loop (σ:=Nat×Ab×Nat×PH) (fun s=>[(1,dp b1),(4,.slice am (eq fs) aa),(5,.slice s.2.1 (eq (gw m++ib m (fs.take s.1))) s.2.2.1),(55,.slice am (eq fs) aa),(56,.int .i64 (eq fs:Nat)),(57,.int .i64 (s.1:Nat))]) (fun _=>ak) (fun s=>s.2.2.2::pt b1 (mv m p) 34::hs) (fun s=>s.1<=eq fs/\(∀f∈fs.take s.1,f.S5 m)/\aJ s.2.2.2 s.2.1 (eq (gw m++ib m (fs.take s.1))) s.2.2.1 5 1 (bv (gw m++ib m (fs.take s.1)))) (fun s=>eq fs-s.1) (0,av,a3,a6) ⟨aad _,Q8,by simpa[ib]using a0⟩ (by simp only[ib,abS,aaw];exact sb) I I ?_)))));rintro⟨i,ao,c1,h⟩ ⟨hi,Y,o⟩;dsimp only at hi Y o⊢;have dj:=wk ab Y;have dq:eq (fs.take i)<=6:=by simp;omega
 refine acY (aw 0 I fun c4 b3=>fin 0 I<|th (sq<|ax b3 I (fun a4=>?_) (fun a4=>?_)))
 ·have N:i<eq fs:=qo
  refine sk (th (sq (bk (acY ?_))));obtain⟨cs,hV,b8,O⟩:=jU.get (d:=.idx) hA N;obtain⟨g1,k1,g2,k2,g3,k3,rfl,X,ad,U⟩:=hV.fns;have Z:=Aw fs i N .idx;have ag:fs.getD i .idx∈fs:=by simp[List.getD,N]
  generalize fs.getD i .idx=f at hV X ad U Z ag;refine dZ 0 i I I xF N Q9 fun cB aA=>fu 0 [.func (.func g1) #[] k1,.func (.func g2) #[] k2,.func (.func g3) #[] k3] I qk (.inl I) (fun j v hv=>?_) ?_
  ·obtain⟨a',q1,q2⟩:=xF.2.2 (i*3+j) v (O j v hv);rw[aA]at q1;cases q1;rw[Deep.add_add];exact q2
  refine al 0 (.agg #[.nilFunc,.nilFunc,.nilFunc]) I qk fun b7=>?_;refine bA 0 0 I I qk I I ?_;refine fin 0 I (acV (aX 1 0 I I I (Bf (cl 1 I (X w0 h hs b1 m p ao c1 _ o (by simp only[aaj];omega) ay ab) ?_))));rintro d1 cx cn ⟨rfl,h',a1,c',out,t,rfl,rfl,ht,aR,o'⟩;refine fin 5 I (acU (fin 2 I (th (fw I (fun ae=>?_) (fun ae=>?_)))))
  ·refine acY (fin 2 I (ac0 (rT (rB (rT (rT (rB (rT (Bh (Bh (Ev (WQ.SJ le ?_))))))))))));exact bS I I I ⟨I,mG (yU fun hh=>by have:=hh.2.1 f (by rw[J];exact ag);rw[ht.2 this]at ae;cases ae)⟩
  have aY:t=true:=by simpa using ae
  obtain rfl:=aR aY;have ee:gw m++ib m (fs.take i)++f.SA m=gw m++ib m (fs.take (i+1)):=by rw[Z,AA];simp[ib]
  rw[ee]at o'⊢;refine sk (acX (fin 2 I (acW (ar 0 I (ba qo) (fin 1 I ?_)))));exact bn (x:=(i,ao,c1,h)) (i+1,a1,c',h') sb I I ⟨qo,by rw[Z];intro x hx;exact(aao.1 hx).elim (Y x) (fun hx=>by rw[aaC.1 hx];exact ht.1 aY),o'⟩ (by(try dsimp only);omega)
 obtain rfl:i=eq fs:=qo
 refine ex (xt (xt (xb (acU ?_))));rw[aaA (aac _)]at o Y⊢;refine fin 3 I (th (bk (loop (σ:=Nat×MA) (fun s=>[(1,dp b1),(5,.slice ao (eq (gw m++ib m fs)) c1),(72,.slice am (eq fs) aa),(73,.int .i64 (eq fs:Nat)),(74,.int .i64 (s.1:Nat))]) (fun _=>ak) (fun s=>h::pt b1 (mv (lI (fs.take s.1) m) s.2) 34::hs) (fun s=>s.1<=eq fs/\dF ak (lI (fs.take s.1) m) s.2) (fun s=>eq fs-s.1) (0,p) ⟨aad _,ay⟩ ⟨I,I,I,I,I,trivial⟩ I I ?_)));rintro⟨i,p2⟩ ⟨hi,ap⟩;dsimp only at hi ap⊢;refine acY (aw 0 I fun c5 b4=>fin 0 I (th (sq (ax b4 I (fun a5=>?_) (fun a5=>?_)))))
 ·have N:i<eq fs:=qo
  refine sk (th (sq (bk (acY ?_))));obtain⟨cs,hV,b8,O⟩:=jU.get (d:=.idx) hA N;obtain⟨g1,k1,g2,k2,g3,k3,rfl,X,ad,U⟩:=hV.fns;have Z:=Aw fs i N .idx;generalize fs.getD i .idx=f at hV X ad U Z;refine dZ 0 i I I xF N Q9 fun cD aD=>fu 0 [.func (.func g1) #[] k1,.func (.func g2) #[] k2,.func (.func g3) #[] k3] I qk (.inl I) (fun j v hv=>?_) ?_
  ·obtain⟨a',q1,q2⟩:=xF.2.2 (i*3+j) v (O j v hv);rw[aD]at q1;cases q1;rw[Deep.add_add];exact q2
  refine al 0 (.agg #[.nilFunc,.nilFunc,.nilFunc]) I qk fun cF=>?_;refine bA 0 0 I I qk I I ?_;refine fin 0 I (acX (aX 1 0 I I I (Bf (cl 0 I (Er 1 I (U w0 _ b1 _ _ ap)) ?_))));rintro d2 cy cp ⟨h',rfl,rfl,p3,rfl,az⟩;have ee:f.SR (lI (fs.take i) m)=lI (fs.take (i+1)) m:=by rw[Z,AD];rfl
  rw[ee]at az⊢;exact fin 0 I (acW (ar 0 I (ba qo) (fin 1 I (bn (x:=(i,p2)) (i+1,p3) sb I I ⟨qo,az⟩ (by(try dsimp only);omega)))))
 obtain rfl:i=eq fs:=qo
 refine ex (xt (xt (xb (acU ?_))));rw[aaA (aac _)]at ap⊢;refine fI 0 1 I I qk (cl 0 I (PG _ _) ?_);rintro d3 cz cq ⟨rfl,rfl,c6,rfl,b5⟩;refine cG 0 _ I (lU b5) fun c7 b6=>fin 0 I (th (ax b6 I (fun an=>?_) (fun an=>?_)))
 ·exact acY (fin 2 I (ac0 (rT (Bh (Bh (Ev (WQ.SJ le (bS I I I ⟨I,mG (yU fun hh=>an (by have:=hh.2.2;rwa[J]at this))⟩))))))))
 have aO:m.ok:=⟨V,by rw[J];exact Y,by rw[J];exact aag.1 an⟩;have aq:m.body=gw m++ib m fs:=by rw[bg.body,J]
 have ce:=aF Y;rw[<-aq]at o⊢;refine sk (acV (cl 1 I (Pc ao c1 m.body (.inr ⟨0,I⟩) o.Ni qo) ?_));rintro d4 cA cr ⟨rfl,gs,rfl,cc⟩;obtain⟨aE,_⟩|⟨dl,cE,cs,rfl,os⟩:=cc
 ·exact absurd aE qo
 refine fin 4 I (ac0 (Bk (aaQ (l₁:=[_,_])).symm (Bh (Bh (WQ.SJ le ?_)))));exact bS I I I ⟨I,qj (by rw[enc,aab aO]) os⟩
def p0:MA:=⟨none,0,none,0,none,0⟩
end
section
def Mt(m)(h:m*256<2^64):Value.int .u64 (IntKind.u64.wrap (((m:Nat):Int)*2^(min (8:Int).toNat IntKind.u64.bits)))=.int .u64 (m*256:Nat):=by
 have e:min (8:Int).toNat IntKind.u64.bits=8:=rfl;rw[e,show((m:Nat):Int)*2^8=((m*256:Nat):Int)from by rw[Int.natCast_mul];rfl,nC,aaU h]
def N3(m)(c:UInt8)(h:m*256+256<=2^64):
  Value.int .u64 (IntKind.u64.wrap (BitVec.ofInt 64 ((m*256:Nat):Int) ||| BitVec.ofInt 64 ((c.toNat:Nat):Int)).toNat)=.int .u64 (c.toNat+256*m:Nat):=by
 have J:=c.toNat_lt
 have e:(BitVec.ofInt 64 ((m*256:Nat):Int) ||| BitVec.ofInt 64 ((c.toNat:Nat):Int)).toNat=c.toNat+256*m:=by
  rw[BitVec.toNat_or,abu,abu,abv,abv,aaU qo,aaU qo,show m*256=2^8*m from qo,
   <- acD qo]
  omega
 rw[e,nC,aaU qo]
def Ol{w0:World}{K h:PH}{hs:Ac}(sb b D c)(o:D.Ok c)(hc:c<=1099511627)(hm:bM K b D h)(J sv nv i)(hi:i<=1):
  ai w0 101 [Rp sb,.int .i64 (i:Nat)] K (pt sb #[Rp b,.int .u64 (J:Nat),sv,nv] 178::h::hs)
   (fun v K' hs'=>hs'=pt sb #[Rp b,.int .u64 (J:Nat),sv,nv] 178::h::hs/\Le K K'/\∃ao cap,v=.tuple #[.int .u64 (((iZ D J i).1:Nat):Int),.slice ao (eq (iZ D J i).2) cap]/\aj K' ao (eq (iZ D J i).2) cap 1 (bv (iZ D J i).2)):=by
 obtain⟨S,hS⟩:=a9 (pt sb #[Rp b,.int .u64 (J:Nat),sv,nv] 178);refine cP Tryz.func101 ?_;refine bO [pt sb #[Rp b,.int .u64 (J:Nat),sv,nv] 178] 15 [0,2,4,6,8,10,12,14,16,19,20,22,24,26,28] Q8 qk qk (au ?_);rw[<-hS];refine cl 0 I (Er 1 I (y7 b D c o hc hm ((J:Nat):Int) ((i:Nat):Int))) ?_;rintro bB aA aV ⟨h',rfl,rfl,le,hR⟩;refine dX Q8 le ?_;rcases hR with⟨hn,rfl⟩|⟨N,ao,cap,hb,hl,rfl,x⟩
 ·have e:iZ D J i=(0,[]):=by unfold iZ;rw[hn]
  rw[e];refine au ?_;refine bc 2 I (fun U=>au ?_) (fun U=>absurd qo U);exact bS I I I ⟨I,le,none,0,I,aj.nil _ _ _ _⟩
 have e:iZ D J i=jm N i:=by unfold iZ;rw[hb]
 rw[e];obtain⟨V,ag⟩:∃V,N[8]?=some V:=⟨N[8]'qo,aai qo⟩;have an:N.getD 8 0=V:=by rw[aaR,ag];rfl
 have ay:(bv N)[8]?=some (.int .u8 V.toNat):=by simp[bv,ag]
 have aS:=V.toNat_lt;refine au ?_;refine bc 2 I (fun U=>absurd U qo) (fun U=>ej 2 8 I I I x ay fun a2 ab=>ld 0 I (.inl I) ab (bc 0 I (fun e4=>?_) (fun e4=>?_)))
 ·refine au ?_;have e2:jm N i=(0,[]):=by unfold jm;rw[an,aab qo]
  rw[e2];refine au ?_;exact bS I I I ⟨I,le,none,0,I,aj.nil _ _ _ _⟩
 refine au ?_;obtain⟨q,hq⟩:=a9 (N.take 8);have bp:eq q=8:=by rw[hq,aal];omega
 obtain⟨vv,Y⟩:=a9 ((N.drop 9).take V.toNat);have av:eq vv=V.toNat:=by rw[Y,aal,aar];omega
 have aT:eF q<2^64:=by have:=ui q 8 qo;omega
 have e2:jm N i=if eF q%2=i/\N=cM (eF q) vv then(eF q,vv)else(0,[]):=by unfold jm;rw[an,aaa qo,<-hq,<-Y]
 rw[e2];refine au ?_
 refine loop (σ:=Nat) (fun j=>[(0,Rp sb),(1,.int .i64 (i:Nat)),(6,.slice ao (eq N) cap),(8,.int .u64 ((eF (q.drop j):Nat):Int)),(9,.int .i64 (((j:Nat):Int)-1))]) (fun _=>aA) (fun _=>S::h'::hs) (fun j=>j<=8) (fun j=>j) 8 (aac _)
  ⟨rfl,rfl,rfl,by rw[abj qo];rfl,rfl,trivial⟩ rfl rfl ?_
 intro j hj;refine sq (acY (bc 1 I (fun e6=>?_) (fun e6=>?_)))
 ·refine au ?_;obtain⟨k,rfl⟩:∃k,j=k+1:=⟨j-1,qo⟩;have hk:k<eq q:=qo
  have bo:eF (q.drop (k+1))<256^7:=ui _ 7 (by rw[aar];omega);have hd:=KU q k hk;obtain⟨ck,ak⟩:=a9 (q[k])
  have aO:N[k]?=some ck:=by
   have h1:q[k]?=N[k]?:=by rw[hq,abt qo]
   rw[<-h1,aai hk,ak]
  have aR:(bv N)[k]?=some (.int .u8 ck.toNat):=by simp[bv,aO]
  rw[<-ak]at hd;refine au ?_;refine ar 1 I (Mt (eF (q.drop (k+1))) qo) (ej 2 k I (show((k+1:Nat):Int)-1=((k:Nat):Int) by omega) I x aR fun a3 ad=>ld 0 I (.inl I) ad ?_);have bm:=ck.toNat_lt;refine ar 0 I (bL qo) (ar 0 I (N3 (eF (q.drop (k+1))) ck qo) (au ?_));refine ar 1 I (v':=.int .i64 (((k:Nat):Int)-1)) (by rw[show((k+1:Nat):Int)-1-1=((k:Nat):Int)-1 from qo];exact ba qo) (fin 1 I ?_);exact bn (x:=k+1) k ⟨I,I,I,by rw[hd];rfl,rfl,trivial⟩ rfl rfl qo qo
 refine au ?_;obtain rfl:j=0:=qo
 rw[abC];refine au ?_;refine ej 2 8 I I I x ay fun a4 ae=>ld 0 I (.inl I) ae (ar 0 I (lr (x:=((9+V.toNat:Nat):Int)) qo) ?_)
 refine sl 0 9 (eq vv) I x I (by show((9+V.toNat:Nat):Int)=_;rw[av]) qo (by
  show((bv N).drop (9*1)).take (eq vv*1)=bv vv;rw[av,Y];simp[bv]) fun X Z az=>?_
 refine au ?_;refine cl 2 I (DS (eF q) vv X Z qo (.inl I) az) ?_;rintro bV aD aY ⟨rfl,rfl,rfl⟩;have ap:eq (cM (eF q) vv)=64:=qK qo;have aq:(bv (cM (eF q) vv)).toArray.size=64:=by simp[bv,ap]
 refine al 0 (.agg (bv (List.replicate 64 0)).toArray) I qk fun O=>?_;refine bA 0 0 I I (by rw[aq];kernel_rfl) (by rw[aq];rfl) (by simp only[acL,aaX];first|exact gE _|(simp;intro u hu;exact gE _ u hu)) ?_;refine au ?_;refine ar 1 I (mj .u64 (eF q) 2) (ar 1 I (bL (x:=((i:Nat):Int)) qo) (aw 0 I fun a5 aE=>?_))
 refine' dB 1 5 65 [59,60] aE I I I I I I I (fun _=>?x8) (fun bi aN=>?_)
 case x8=>
  refine vi 1 (sz:=1) 0 64 I I Tryz.underlying245 qk I I (aac _) Q9 ?_;simp only[bf,aby,abb,abT]
  have xR:aj (pt O (bv (cM (eF q) vv)).toArray 245) (some ⟨O,0,none⟩) (eq (cM (eF q) vv)) 64 1 (bv (cM (eF q) vv)):=by
   have:=uA (g:=O) (ty:=245) (A:=[]) (B:=cM (eF q) vv) (C:=[]) (off:=0) (n:=eq (cM (eF q) vv)) (cap:=64) rfl rfl qo;simpa using this
  have am:=OT (w0:=w0) (K:=aD) (hs:=pt O (bv (cM (eF q) vv)).toArray 245::S::h'::hs) ao (some ⟨O,0,none⟩) cap 64 N (cM (eF q) vv) (.inl rfl) (.inr ⟨0,rfl⟩) x xR qo;rw[ap]at am;refine cl 0 I am ?_;rintro b0 a1 a0 ⟨rfl,rfl,bq,rfl,aF⟩;exact mI fun a6 aa=>cG 0 _ I (lU (aa.trans aF)) fun bb aL=>fin 1 I (bJ aL I I I)
 refine fin 0 I<|th (ax aN I (fun e9=>?_) (fun e9=>?_))
 ·rw[aaa (by intro g;rcases e9 with g1|g1;exact g1 (by have:=g.1;omega);exact g1 g.2)];exact acY (fin 2 I (ac0 (rT (Bh (bS I I I ⟨I,le,none,0,I,aj.nil _ _ _ _⟩)))))
 rw[aab ⟨by rcases Decidable.em (eF q%2=i)with g|g;exact g;exact absurd (.inl qo) e9,by rcases Decidable.em (N=cM (eF q) vv)with g|g;exact g;exact absurd (.inr g) e9⟩];exact sk (acV (fin 4 I (ac0 (Bh (bS I I I ⟨I,le,X,Z,I,az⟩)))))
end
section
def kz(D:Dk)(J:Nat):Nat->cW
 |0=>⟨0,[]⟩
 |i+1=>(kz D J i).pick (iZ D J i)
def JJ(b i)(hb:eq b=64):(jm b i).1<2^64/\eq (jm b i).2<=48:=by
 unfold jm
 split
 ·simp
 rename_i h
 split
 ·have J:=ui (b.take 8) 8 (by rw[aal];omega);refine⟨aC,?_⟩;dsimp only;rw[aal];omega
 simp
def xh{c D}(o:D.Ok c)(area i):(iZ D area i).1<2^64/\eq (iZ D area i).2<=48:=by
 unfold iZ;cases hr:D.read area i with
 |none=>simp
 |some b=>
  refine JJ b i ?_;unfold Dk.read at hr;cases hs:D.sec area i with
  |none=>rw[hs]at hr;cases hr
  |some s=>
   rw[hs]at hr;simp only[abi,aae]at hr;obtain⟨J,_,N⟩:=o.SZ hs;rw[<-hr,abH,acm J];exact N _ (List.getLast_mem J)
def cW.bd(S:cW):Prop:=S.num<2^64/\eq S.val<=48
theorem tD{c D}(o:D.Ok c)(area):∀i,(kz D area i).bd
 |0=>by simp[kz,cW.bd]
 |i+1=>by
  have h:=tD o area i;unfold kz cW.pick
  split
  ·exact xh o area i
  exact h
def cW.SC{S:cW}(h:S.bd)(area D v):(S.save area D v).1.bd:=by
 unfold cW.save
 split
 ·exact h
 rename_i hn;obtain⟨J,N⟩:=h
 split
 ·dsimp only
  split
  ·exact⟨aC,aC⟩
  exact⟨J,N⟩
 exact⟨J,N⟩
def uN(b J:Nat)(S:cW)(ao:Ab)(cap:Nat):Ah:=#[Rp b,.int .u64 J,.slice ao (eq S.val) cap,.int .u64 S.num]
theorem aW.save{c D}(o:aW c D)(S:cW)(area)(J:area<=18446744073709551615)(v):aW (c+2) (S.save area D v).2.1:=by
 unfold cW.save
 split
 ·exact o.up qo
 split
 ·exact(o.write _ _ _ qo).sync _
 exact(o.write _ _ _ qo).up qo
def ju(K:PH)(sb b J:Nat)(S:cW)(h:PH):Prop:=∃ao cap,h=pt sb (uN b J S ao cap) 178/\aj K ao (eq S.val) cap 1 (bv S.val)
theorem ju.le{K J:PH}(l:Le K J){sb b area S h}(x:ju K sb b area S h):ju J sb b area S h:=let⟨a,c,N,O⟩:=x;⟨a,c,N,O.le l⟩
def Ox{h:PH}(b D c)(o:D.Ok c)(hc:c<=1099511627)(hm:bM K b D h)(J):
  ai w0 53 [Rp b,.int .u64 (J:Nat)] K (h::hs)
   (fun v Y hs'=>(D.dead=true/\Y=K/\hs'=h::hs/\v=.tuple #[.pointer none,.int .i64 30]) \/
    (D.dead=false/\Le K Y/\∃sb s,hs'=s::h::hs/\ju Y sb b J (iF D J) s/\v=.tuple #[Rp sb,.int .i64 0])):=by
 refine cP Tryz.func53 ?_;refine cl 1 I (Ge b D hm) ?_;rintro ak U ab ⟨rfl,rfl,rfl⟩;refine fin 0 I (th (fw I (fun e1=>?_) (fun e1=>?_)))
 ·refine au ?_;exact bS I I I (.inl ⟨e1,I,I,I⟩)
 refine sk<|acV (bd 2 (.agg<|uN b J ⟨0,[]⟩ none 0) I Aq (bx 0 I fun N=>au ?_))
 refine loop (σ:=Nat×PH×Ab×Nat) (fun s=>[(6,Rp N),(16,.int .i64 s.1)]) (fun s=>s.2.1) (fun s=>pt N (uN b J (kz D J s.1) s.2.2.1 s.2.2.2) 178::h::hs)
  (fun s=>s.1<=2/\Le U s.2.1/\aj s.2.1 s.2.2.1 (eq (kz D J s.1).val) s.2.2.2 1 (bv (kz D J s.1).val)) (fun s=>2-s.1) (0,U,none,0) ⟨aC,Cg _,aj.nil _ _ _ _⟩ ⟨rfl,rfl,trivial⟩ rfl rfl ?_
 rintro⟨i,K1,ao,cap⟩ ⟨hi,le,x⟩;dsimp only at *;have ag:=tD o J i;refine acY (bc 0 I (fun e3=>?_) (fun e3=>?_))
 ·refine au ?_;refine cl 2 I (Ol N b D c o hc (hm.le le) J _ _ i qo) ?_;rintro am V ad ⟨rfl,O,Z,X,rfl,x2⟩;refine au ?_;refine aw 0 I fun ae aa=>fin 0 I (th (ax aa I (fun e5=>?_) (fun e5=>?_)))
  ·have e:kz D J (i+1)=⟨(iZ D J i).1,(iZ D J i).2⟩:=by rw[kz,cW.pick,aab qo]
   refine au ?_;refine cZ i ?_;exact bn (x:=(i,K1,ao,cap)) (i+1,V,Z,X) sb I (by dsimp only;rw[e];rfl) ⟨aC,le.trans O,by dsimp only;rw[e];exact x2⟩ aC
  have e:kz D J (i+1)=kz D J i:=by rw[kz,cW.pick,aaa qo]
  refine sk (acW (cZ i ?_));exact bn (x:=(i,K1,ao,cap)) (i+1,V,ao,cap) sb I (by dsimp only;rw[e];rfl) ⟨aC,le.trans O,by dsimp only;rw[e];exact x.le O⟩ aC
 refine au ?_;obtain rfl:i=2:=qo
 refine au ?_;exact bS I I I (.inr ⟨e1,le,N,_,I,⟨ao,cap,I,x⟩,I⟩)
def DB{s:PH}(sb b area S)(V:ju K sb b area S s)(hb:S.bd):
  ai w0 104 [Rp sb] K (s::hs)
   (fun v J hs'=>∃O,hs'=O::hs/\O=s/\Le K J/\∃ao c,v=.slice ao (eq S.val) c/\aj J ao (eq S.val) c 1 (bv S.val)):=by
 obtain⟨ao,cap,rfl,x⟩:=V;refine cP Tryz.func104 ?_;refine cl 0 I (lJ ao cap S.val (.inl I) x (by have:=hb.2;omega)) ?_;rintro v7 K7 X ⟨rfl,O,N,U,rfl,rfl,o⟩;exact fin 1 I (ac0 (Ei fun J Y Z=>af I I ⟨_,I,I,Y,N,U,I,o.Ni.le Z⟩))
def C1{s:PH}(sb b area S)(N:ju K sb b area S s):
  ai w0 102 [Rp sb] K (s::hs)
   (fun v J hs'=>J=K/\hs'=s::hs/\v=.int .u64 S.num):=by
 obtain⟨ao,cap,rfl,x⟩:=N;refine cP Tryz.func102 ?_;exact af I I ⟨I,I,I⟩
def Oe{w0:World}{K s h hv:PH}{hs:Ac}(sb b area S)(hS:ju K sb b area S s)(am:S.bd)(D c)(o:D.Ok c)(hc:c<=1099511626)(hm:bM K b D h)(ha:area<=18446744073709551615)
  (v ao cap) (hl:eq v<2^40) (O:In K hs hv) (x:aj hv ao (eq v) cap 1 (bv v)):
  ai w0 194 [Rp sb,.slice ao (eq v) cap] K (s::h::hs)
   (fun u K' hs'=>Le K K'/\∃s' h',hs'=s'::h'::hs/\ju K' sb b area (S.save area D v).1 s'/\bM K' b (S.save area D v).2.1 h'/\u=.int .i64 (S.save area D v).2.2):=by
 obtain⟨aS,cS,rfl,xS⟩:=hS;obtain⟨aL,aN⟩:=am;refine cP Tryz.func194 ?_;refine aw 2 I fun b9 h9=>?_
 refine' dB 1 6 16 [9,10] h9 I I I I I I I (fun _=>?x2) (fun aF ak=>?_)
 case x2=>
  refine au ?_;exact aw 0 I fun aE ag=>fin 1 I (bJ ag I I I)
 refine fin 0 I<|th (ax ak I (fun e4=>?_) (fun e4=>?_))
 ·have e:S.save area D v=(S,D,40):=by unfold cW.save;rw[aab qo]
  rw[e];refine au ?_;exact af I I ⟨Cg _,_,_,I,⟨aS,cS,I,xS⟩,hm,I⟩
 have aa:eq v<=48:=qo
 have e:S.save area D v=if(D.write area (((S.num+1)%2:Nat):Int) (cM (S.num+1) v)).2=0 then
   (if((D.write area (((S.num+1)%2:Nat):Int) (cM (S.num+1) v)).1.sync area).2=0 then⟨S.num+1,v⟩else S,((D.write area (((S.num+1)%2:Nat):Int) (cM (S.num+1) v)).1.sync area).1,((D.write area (((S.num+1)%2:Nat):Int) (cM (S.num+1) v)).1.sync area).2)
  else(S,(D.write area (((S.num+1)%2:Nat):Int) (cM (S.num+1) v)).1,(D.write area (((S.num+1)%2:Nat):Int) (cM (S.num+1) v)).2):=by unfold cW.save;rw[aaa qo]
 rw[e];refine au ?_;refine ar 0 I (bL (x:=((S.num+1:Nat):Int)) qo) (cl 1 I (DS (S.num+1) v ao cap aa (Bl (Bl O)) x) ?_);rintro aR ab ap ⟨rfl,rfl,rfl⟩;have Y:eq (cM (S.num+1) v)=64:=qK aa;have Z:(bv (cM (S.num+1) v)).toArray.size=64:=by simp[bv,Y]
 refine al 0 (.agg (bv (List.replicate 64 0)).toArray) I qk fun N=>?_;refine bA 0 0 I I (by rw[Z];kernel_rfl) (by rw[Z];rfl) (by simp only[acL,aaX];first|exact gE _|(simp;intro u hu;exact gE _ u hu)) ?_
 have xR:aj (pt N (bv (cM (S.num+1) v)).toArray 245) (some ⟨N,0,none⟩) (eq (cM (S.num+1) v)) 64 1 (bv (cM (S.num+1) v)):=by
  have:=uA (g:=N) (ty:=245) (A:=[]) (B:=cM (S.num+1) v) (C:=[]) (off:=0) (n:=eq (cM (S.num+1) v)) (cap:=64) rfl rfl qo;simpa using this
 refine au ?_;refine bC [1] 18 [0,2,4,6,8,10,12,14,16,18,20,22,24,26,28,30,33,34] ?_;refine au ?_;refine bF qk 0 I (bL (x:=((S.num+1:Nat):Int)) qo) (bF qk 0 I (mj .u64 (S.num+1) 2) (bF qk 0 I (ba (x:=(((S.num+1)%2:Nat):Int)) qo) (zG qk 0 (sz:=1) 0 64 I I Tryz.underlying245 qk I I (aac _) Q9 ?_)));simp only[bf,aby,abb,abT];refine au ?_;have hw:=yA (w0:=w0) (K:=ab) (h:=h) (hs:=[pt N (bv (cM (S.num+1) v)).toArray 245,pt sb (uN b area S aS cS) 178]++hs) b D c o qo hm area (((S.num+1)%2:Nat):Int) qo (some ⟨N,0,none⟩) 64 (cM (S.num+1) v) (.inr ⟨0,rfl⟩) xR;rw[Y]at hw;obtain⟨W,hW⟩:=a9 (D.write area (((S.num+1)%2:Nat):Int) (cM (S.num+1) v));have oW:W.1.Ok (c+1):=by rw[hW];exact o.write _ _ _
 rw[<-hW]at hw⊢;refine cl 0 I (Er 2 I hw) ?_;rintro aT az aq ⟨h',rfl,le,V,rfl⟩;refine dX Q8 le (au ?_);refine bc 1 I (fun e6=>?_) (fun e6=>?_)
 ·refine au ?_;rw[aab e6];refine bC [1] 10 [0,2,4,6,8,10,12,14,17,18] ?_;refine au ?_;refine cl 0 I (Er 2 I (uE b W.1 (c+1) oW qo V area)) ?_;rintro aV aA av ⟨h2,rfl,rfl,X,rfl⟩;refine aP Q8 I (aI qk 1 I (acU (aw 1 I fun ae J=>fin 0 I (th (ax J I (fun e8=>?_) (fun e8=>?_))))))
  ·rw[aab e8];refine au ?_;refine ar 0 I (bL (x:=((S.num+1:Nat):Int)) qo) (au ?_);obtain⟨aO,U,an⟩:=O.le le;refine cl 2 I (lJ ao cap v (Bl (Bl (Bl U))) (x.le an) qo) ?_;rintro aY aD ay ⟨rfl,g,ad,c',rfl,rfl,og⟩;refine Ji 2 2 I I I I (fin 0 I (acV (fin 2 I (ac0 (Ei fun K' l1 l2=>Bh ?_)))));exact af I I ⟨le.trans l1,_,_,I,⟨ad,c',I,og.Ni.le l2⟩,X.le l1,by rw[e8]⟩
  rw[aaa e8];exact sk (acV (fin 2 I (ac0 (Bh (af I I ⟨le,_,_,I,⟨aS,cS,I,xS.le le⟩,X,I⟩)))))
 refine au ?_;rw[aaa e6];refine au ?_;exact aw 1 I fun ae J=>fin 0 I (th (GE J e6 I (sk (acV (fin 2 I (ac0 (Bh (af I I ⟨le,_,_,I,⟨aS,cS,I,xS.le le⟩,V,I⟩))))))))
end
section
def Ct.T9{f args}{m:Ac}{R R'}(d:iW m)(c:Ct P w0 f args K (m++hs) R)
  (h:∀v J hs',R v J hs'->∃N U,hs'=N++U/\(iW N->R' v J (dt N::U))):Ct P w0 f args K (dt m::hs) R':=
 ⟨c.1,fun w hw=>(c.2 w (hw.split d)).mono fun e w' he=>by
  obtain⟨v,J,hs',rfl,Y,Z⟩:=he;obtain⟨N,U,rfl,X⟩:=h v J hs' Y;obtain⟨V,O⟩:=a7.join N Z;exact⟨v,J,_,I,X V,O⟩⟩
abbrev Co:=@Ct.T9
def qi(K:PH)(c:Ad)(r:Aa):Prop:=∃ao k,c=[.slice ao (eq r) k]/\aj K ao (eq r) k 1 (bv r)
theorem qi.le{K J:PH}(l:Le K J){c r}(h:qi K c r):qi J c r:=let⟨a,k,N,O⟩:=h;⟨a,k,N,O.le l⟩
def zA(c:Ad)(s:Nat×Nat):Prop:=c=[.int .u64 s.1,.int .u64 s.2]
def dG(db:Nat)(ob:Am)(first:Nat)(J N:Value)(next:Nat)(code:Int):Ah:=
 #[.pointer (ob.map fun b=>⟨b,0,none⟩),Rp db,.int .u64 first,J,N,.int .u64 next,.int .i64 code]
def jV(o:ji)(aR:Ab)(cR:Nat):Ah:=#[.int .u64 o.num,.int .u64 o.idx,.int .i64 o.full,.slice aR (eq o.rest) cR]
def MZ{h ao n n' cap e size xs ys}(o:io h ao n cap e size xs)(J:n=n')(N:xs=ys):io h ao n' cap e size ys:=by subst J;subst N;exact o
def nL(f o D):RY (f+1) o D =
  if(D.write (aM o.num) o.full (UInt8.ofNat (min (eq o.rest) 63)::o.rest.take (min (eq o.rest) 63))).2≠0\/eq o.rest<63 then
   (o,(D.write (aM o.num) o.full (UInt8.ofNat (min (eq o.rest) 63)::o.rest.take (min (eq o.rest) 63))).1,(D.write (aM o.num) o.full (UInt8.ofNat (min (eq o.rest) 63)::o.rest.take (min (eq o.rest) 63))).2)
  else if eq o.rest=63 then({o with full:=o.full+1,rest:=[]},(D.write (aM o.num) o.full (UInt8.ofNat (min (eq o.rest) 63)::o.rest.take (min (eq o.rest) 63))).1,0)
  else RY f {o with full:=o.full+1,rest:=o.rest.drop 63} (D.write (aM o.num) o.full (UInt8.ofNat (min (eq o.rest) 63)::o.rest.take (min (eq o.rest) 63))).1:=rfl
def QZ(ob:Am)(op:Option ji)(J N:PH):Prop:=match op with
 |none=>ob=none/\J=em/\N=em
 |some o=>∃b aR cR,ob=some b/\J=pt b (jV o aR cR) 293/\io N aR (eq o.rest) cR 5 1 (bv o.rest)
def dK(K:PH)(wb db:Nat)(W:Wl)(m:Ac):Prop:=
 ∃ob aL cL J N U V gL O,m=[pt wb (dG db ob W.first (.slice aL (eq W.Ja) cL) (.slice J (eq W.Jd) N) W.next W.code) 192,U,V,gL,O]/\QZ ob W.op U V /\
  dD 1 32 (qi K) gL aL (eq W.Ja) cL W.Ja/\dD 2 197 zA O J (eq W.Jd) N W.Jd
theorem dK.le{K J:PH}(l:Le K J){wb db W m}(h:dK K wb db W m):dK J wb db W m:=by
 obtain⟨ob,aL,cL,N,O,oH,rH,gL,U,V,X,Y,Z⟩:=h;exact⟨ob,aL,cL,N,O,oH,rH,gL,U,V,X,Y.imp fun _ _ h=>h.le l,Z⟩
def qe(n)(hn:n<=2^61):ai w0 174 [.int .u64 (n:Nat)] K hs (Ap K hs (.int .u64 (aM n))):=by
 refine cP Tryz.func174 ?_;refine ar 1 I (bL (x:=((4*n:Nat):Int)) qo) (ar 0 I (bL (x:=((4*n+1:Nat):Int)) qo) (au ?_));exact af I I ⟨I,I,I⟩
def u6(wb db ob first lv ov next code e):
  ai w0 211 [Rp wb,.int .i64 e] K (pt wb (dG db ob first lv ov next code) 192::hs)
   (fun v N hs'=>∃J,hs'=J::hs/\N=K/\J=pt wb (dG db ob first lv ov next (if code=0 then e else code)) 192/\v=.int .i64 (if code=0 then e else code)):=by
 refine cP Tryz.func211 ?_;refine bc 0 I (fun e2=>?_) (fun e2=>?_)
 ·refine au ?_;rw[aab e2];refine au ?_;exact af I I ⟨_,I,I,I,I⟩
 refine au ?_;rw[aaa e2];refine au ?_;exact af I I ⟨_,I,I,I,I⟩
def Dt{hv rH gL gO dh:PH}(wb db ob first lv ov next o aR cR)(oR:io rH aR (eq o.rest) cR 5 1 (bv o.rest))(bV:eq o.rest<=63)
  (D c) (oD:D.Ok c) (hc:c<=1099510000) (hd:bM K db D dh) (a4:o.num<=2^61) (aF:o.full<=2^40) (ab cb b) (hb:0<eq b/\eq b<=600) (aL:In K hs hv) (x:aj hv ab (eq b) cb 1 (bv b)):
  ai w0 247 [Rp wb,.slice ab (eq b) cb] K (pt wb (dG db (some ob) first lv ov next 0) 192::pt ob (jV o aR cR) 293::rH::gL::gO::dh::hs)
   (fun v K' hs'=>Le K K'/\∃aR' cR' ay ak,hs'=pt wb (dG db (some ob) first lv ov next (Rv o b D).2.2) 192::pt ob (jV (Rv o b D).1 aR' cR') 293::ay::gL::gO::ak::hs /\
    io ay aR' (eq (Rv o b D).1.rest) cR' 5 1 (bv (Rv o b D).1.rest)/\bM K' db (Rv o b D).2.1 ak/\v=.int .i64 (Rv o b D).2.2):=by
 refine cP Tryz.func247 ?_;refine bC [0,1] 15 [0,2,4,6,8,10,12,14,16,18,20,22,25,26,28,31] ?_;refine au ?_;refine GU 0 2 I I oR (Bl (Bl (Bl (Bl (Bl (Bl aL)))))) x I Q9 (gE b) hb.1 (by grind) As fun ae aA aD b0=>aP Q8 rfl (aB qk 2 rfl (Ji 0 1 rfl rfl rfl rfl (bQ (.inl qk) (aI qk 0 rfl (th (bk ?_))))));obtain⟨F,hF⟩:=a9 (eq o.rest+eq b+1)
 refine loop (σ:=(Nat×ji×Dk)×(Ab×Nat×PH×PH)×PH) (fun _=>[(0,Rp wb)]) (fun s=>s.2.2) (fun s=>pt wb (dG db (some ob) first lv ov next 0) 192::pt ob (jV s.1.2.1 s.2.1.1 s.2.1.2.1) 293::s.2.1.2.2.1::gL::gO::s.2.1.2.2.2::hs)
  (fun s=>RY s.1.1 s.1.2.1 s.1.2.2=Rv o b D/\eq s.1.2.1.rest<s.1.1/\s.1.1<=F/\s.1.2.2.Ok (c+(F-s.1.1))/\s.1.2.1.full+s.1.1<=o.full+F/\s.1.2.1.num=o.num/\Le K s.2.2/\bM s.2.2 db s.1.2.2 s.2.1.2.2.2/\io s.2.1.2.2.1 s.2.1.1 (eq s.1.2.1.rest) s.2.1.2.1 5 1 (bv s.1.2.1.rest)) (fun s=>s.1.1)
  ((F,{o with rest:=o.rest++b},D),(ae,aA,aD,dh),K) ⟨by dsimp only;unfold Rv;rw[hF],by dsimp only;simp;omega,aac _,by dsimp only;exact oD.up qo,Q8,I,Cg _,hd,.inl (by
   simp_all[kT])⟩ sb rfl (by simp[jV]) ?_
 rintro⟨⟨f,q,E⟩,⟨aQ,X,rQ,eh⟩,K1⟩ ⟨J,bB,bq,oE,bs,aN,le,hE,oQ⟩;dsimp only at *;obtain⟨f,rfl⟩:∃g,f=g+1:=⟨f-1,qo⟩;rw[nL]at J;have bp:=oQ.Sd;obtain⟨n,hn⟩:=a9 (min (eq q.rest) 63);obtain⟨s,Z⟩:=a9 (UInt8.ofNat n::q.rest.take n);have aq:eq s=1+n:=by rw[Z];simp;omega
 rw[<-hn,<-Z]at J;refine bk (acY (aX 3 0 I I I (aX 2 1 I I I ?_)))
 refine ar 1 I (v':=.int .i64 n) (by
  congr 1
  omega) ?_
 refine au ?_;refine ar 1 I (lr (x:=((n:Nat):Int)) qo) (lit 0 #[.int .u8 (n:Nat)] I Q9 qk fun Y=>au ?_)
 refine sl 1 0 n I oQ.Ni I Q8 qo (ys:=bv (q.rest.take n)) (by
  simp[bv]) fun a1 bo aY=>?_
 have aO:aJ (pt Y #[Value.int .u8 (n:Nat)] 5) (some ⟨Y,0,none⟩) 1 1 5 1 (bv [UInt8.ofNat n]):=nP Y n qo;refine app 0 0 I I aO (.inr ⟨3,I⟩) aY I Q9 (gE _) (by show(1+n)*1<=_;omega) As fun V ag am aS=>?_
 have a0:aj am V (eq s) ag 1 (bv s):=by
  rw[aq,Z];exact aS.Ni
 obtain⟨R,hR⟩:=a9 (E.write (aM q.num) q.full s);have aV:R.1.Ok (c+(F-(f+1))+1):=by rw[hR];exact oE.write _ _ _
 rw[<-hR]at J;refine au ?_;refine bC [1,2] 23 [0,2,4,6,8,10,12,14,16,18,20,22,24,28,30,32,34,36,38,40,42,27,45,47,48,50,52,54,56] ?_;refine dA [22] qk 4 0 I qk I I (dA [22,13,12,11,10,9] qk 3 0 I qk I I (dA [22,13] qk 3 1 I qk I I (dA [22,20,19,18] qk 3 0 I qk I I (dA [22] qk 2 1 I qk I I (aB qk 1 I (cl 0 I (qe q.num qo) ?_))))));rintro b1 ad a5 ⟨rfl,rfl,rfl⟩;refine aP Q8 I (aB qk 0 I ?_);have av:=yA (w0:=w0) (K:=ad) (h:=eh) (hs:=[am,pt wb (dG db (some ob) first lv ov next 0) 192,pt ob (jV q aQ X) 293,rQ,gL,gO]++hs) db E (c+(F-(f+1))) oE qo hE (aM q.num) ((q.full:Nat):Int) (by unfold aM;omega) V ag s (.inr ⟨0,rfl⟩) a0;rw[aq,<-hR]at av;refine cl 0 I (Er 6 I av) ?_
 rintro b2 bi a6 ⟨O,rfl,N,U,rfl⟩;refine dX Q8 N (au ?_);refine cl 0 I (Er 1 I (u6 wb db (some ob) first lv ov next 0 R.2)) ?_;rintro b3 az bb ⟨_,rfl,rfl,rfl,rfl⟩;rw[aab rfl];refine au ?_;refine dP qk 0 (R.2≠0) I Q8 (fun h1=>?_) (fun h1=>?_)
 ·rw[aab (.inl h1)]at J;refine aI qk 4 I (th (dk I (acY (aX 3 1 I I I (fin 1 I (ac0 (rT (rB (rT (rB (Bh ?_)))))))))));rw[<-J];exact af I I ⟨le.trans N,aQ,X,rQ,O,I,oQ,U,I⟩
 have h1:R.2=0:=aag.1 h1;refine dU qk 2 (((n:Nat):Int)<63) I Q8 fun bm aE=>au ?_;refine ax aE I (fun e2=>?_) (fun e2=>?_)
 ·rw[aab (.inr qo)]at J;refine acY (aX 3 1 I I I (fin 1 I (ac0 (rT (rB (rT (rB (Bh ?_))))))));rw[<-J];exact af I I ⟨le.trans N,aQ,X,rQ,O,I,oQ,U,I⟩
 have a3:n=63:=qo
 rw[aaa qo]at J;rw[h1];refine au ?_;refine ar 0 I (ba (x:=((q.full+1:Nat):Int)) qo) (au ?_);refine bC [1,2] 15 [0,2,4,6,8,10,12,14,16,18,20,22,24,26,28,31] ?_;refine au ?_;refine oP qk 1 63 (eq q.rest-63) I I (by show((n:Nat):Int)=_;omega) (by grind) qo (aB qk 2 rfl (Ji 0 2 rfl rfl rfl rfl (bQ (.inl qk) ?_)))
 obtain⟨aa,ap,aT⟩:=oQ.cut 63 (eq q.rest-63) qo (ys:=bv (q.rest.drop 63)) (by
  simp[aaA,bv])
 refine aI qk 0 I<|th (sq<|WC.RV 3 aa I ap (rg<|aX 3 1 I I I (aX 2 2 I I I (aw 1 I fun a2 an=>fin 0 I<|th (ax an I (fun e4=>?_) (fun e4=>?_))))))
 ·rw[aab qo]at J;refine acY (aX 3 1 I I I (fin 1 I (ac0 (rB (rT (rB (Bh ?_)))))));rw[<-J];refine af I I ⟨le.trans N,dE aQ X 63 1,X-63,aa,O,?_,MZ aT (show eq q.rest-63=0 by omega) (by rw[abj qo]),U,I⟩;show [_,_,_,_,_,_]++hs=[_,_,_,_,_,_]++hs
  grind[jV]
 rw[aaa qo]at J;refine sk (bl (Bh (bn (x:=((f+1,q,E),(aQ,X,rQ,eh),ad)) ((f,{q with full:=q.full+1,rest:=q.rest.drop 63},R.1),(dE aQ X 63 1,X-63,aa,O),az) sb I ?_ ⟨J,?_,aC,by dsimp only;exact aV.up qo,aC,aN,le.trans N,U,?_⟩ Q8)))
 ·simp[jV]
 all_goals grind
end
section
def a7.del{w:World}(s:a7 w0 w K hs)(i){h}(hi:hs[i]?=some h):a7 w0 w K (hs.eraseIdx i):=(s.perm (iE hs i h hi)).Qf
theorem WC.del{P:Program}{w0:World}{Q:An}{n l}{K:PH}{hs:Ac}{c}(i){h}(hi:hs[i]?=some h)(N:WC P w0 c Q n l K (hs.eraseIdx i)):WC P w0 c Q n l K hs:=fun a w J O=>N a w J (O.del i hi)
theorem WQ.del{w0:World}{Q:An}{e n l}{K:PH}{hs:Ac}(i){h}(hi:hs[i]?=some h)(N:WQ w0 Q e n l K (hs.eraseIdx i)):WQ w0 Q e n l K hs:=fun a w J O=>N a w J (O.del i hi)
abbrev Ej:=@WQ.del
theorem WL.del{P:Program}{w0:World}{ops:Ai}{Q:An}{rest:Aj}{n l}{K:PH}{hs:Ac}(i){h}(hi:hs[i]?=some h)(N:WL P w0 ops Q rest n l K (hs.eraseIdx i)):WL P w0 ops Q rest n l K hs:=fun a w J O=>N a w J (O.del i hi)
structure cK (c:Nat) (W:Wl):Prop where
 last:W.first+eq W.Ja<=bt
 Ja:eq W.Ja<=70000000000+c
 Jd:eq W.Jd<=c
 next:W.next<=c9+c
 op:∀o,W.op=some o->o.num<=c9+c/\o.full<=c
 rest:∀o,W.op=some o->W.code=0->eq o.rest<=62
 RW:∀s∈W.Jd,s.1<=c9+c/\s.2<=bt
 RS:∀r∈W.Ja,eq r<=512
theorem cK.up{c d W}(o:cK c W)(h:c<=d):cK d W:=
 ⟨o.last,by have:=o.Ja;omega,by have:=o.Jd;omega,by have:=o.next;omega,fun q J=>by have:=o.op q J;omega,o.rest,fun s hs=>by have:=o.RW s hs;omega,o.RS⟩
def ny(n:Nat):Int:=if n=0 then 18446744073709551615 else((n:Nat):Int)-1
def Mu(n)(h:n<2^64):Value.int .u64 (IntKind.u64.wrap (((n:Nat):Int)-1))=.int .u64 (ny n):=by
 unfold ny
 split
 ·rename_i e;subst e;rfl
 exact bL qo
def tX(n)(h:n<2^64):Value.int .u64 (IntKind.u64.wrap (ny n+1))=.int .u64 (n:Nat):=by
 unfold ny
 split
 ·rename_i e;subst e;rfl
 rw[Int.sub_add_cancel];exact bL qo
theorem dD.get{α}{R:Ad->α->Prop}{e h ao n cap xs}(x:dD 1 e R h ao n cap xs){i y}(hy:xs[i]?=some y):∃v,R [v] y/\∃g off J,ao=some ⟨g,off,none⟩/\h=pt g J e/\J[off+i]?=some v:=by
 obtain⟨css,h1,Y,Z,N⟩:=x;obtain⟨c,O,hR⟩:=Z.get hy;have hl:=N c (aam O)
 obtain⟨v,rfl⟩:∃v,c=[v]:=by
  match c,hl with
  |[v],_=>simp
 have hi:i<n:=by grind
 refine⟨v,hR,?_⟩;have hf:=tS N O 0 v rfl;rcases Y with⟨g1,g2,g3,⟨U,V,X⟩|⟨g,off,J,U,V,X,g7⟩⟩|⟨rfl,_⟩
 all_goals grind
def Nu{m:Ac}(wb db W)(N:dK K wb db W m):ai w0 117 [Rp wb] K (m++hs)
  (fun v J hs'=>J=K/\hs'=m++hs/\v=.int .u64 W.first):=by
 obtain⟨ob,aL,cL,U,V,oH,rH,gL,X,rfl,O,Y,Z⟩:=N;refine ent Tryz.func117 ?_;exact acY (fin 1 I (acV (aX 3 0 I I I (fin 1 I (ac0 (af I I ⟨I,I,I⟩))))))
def OH{m:Ac}(wb db W)(N:dK K wb db W m):ai w0 200 [Rp wb] K (m++hs)
  (fun v J hs'=>J=K/\hs'=m++hs/\v=.int .u64 W.next):=by
 obtain⟨ob,aL,cL,U,V,oH,rH,gL,X,rfl,O,Y,Z⟩:=N;refine enter Tryz.func200 qk I I I (au ?_);exact af I I ⟨I,I,I⟩
def rG{m:Ac}(wb db W)(U:dK K wb db W m)(hb:W.first+eq W.Ja<=bt):ai w0 118 [Rp wb] K (m++hs)
  (fun v J hs'=>J=K/\hs'=m++hs/\v=.int .u64 (ny (W.first+eq W.Ja))):=by
 obtain⟨ob,aL,cL,N,O,oH,rH,gL,X,rfl,V,Y,Z⟩:=U;unfold bt at hb;refine cP Tryz.func118 ?_;refine bO [pt wb (dG db ob W.first (.slice aL (eq W.Ja) cL) (.slice N (eq W.Jd) O) W.next W.code) 192] 13 [0,2,4,6,8,10,12,14,16,18,20,22,24] Q8 qk qk (au ?_);refine bF qk 1 I (bL (x:=((eq W.Ja:Nat):Int)) qo) (bF qk 0 I (bL (x:=((W.first+eq W.Ja:Nat):Int)) qo) (bF qk 0 I (Mu _ qo) (au ?_)));exact af I I ⟨I,I,I⟩
def Ps{m:Ac}(wb db W c)(hc:c<=1000000000)(hb:cK c W)(hW:dK K wb db W m)(i)(hi:i<2^64)(Y:∀r∈W.Ja,eq r<=512):ai w0 119 [Rp wb,.int .u64 (i:Nat)] K (m++hs)
  (fun v N hs'=>Le K N/\hs'=m++hs/\((¬(W.first<=i/\i-W.first<eq W.Ja)/\v=.tuple Ik) \/
   ∃r ao k,W.first<=i/\W.Ja[i-W.first]?=some r/\v=.tuple #[.slice ao (eq r) k,.bool true]/\aj N ao (eq r) k 1 (bv r))):=by
 obtain⟨ob,aL,cL,Z,cO,oH,rH,gL,gO,rfl,ag,hL,hO⟩:=hW;have h1:=hb.last;have h2:=hb.Ja;unfold bt at h1;refine cP Tryz.func119 ?_;refine bO [pt wb (dG db ob W.first (.slice aL (eq W.Ja) cL) (.slice Z (eq W.Jd) cO) W.next W.code) 192] 21 [0,2,4,6,8,10,12,14,16,18,20,22,24,26,28,30,32,34,36,38,40] Q8 qk qk (au ?_);refine dP qk 0 (i<W.first) I Q8 (fun g1=>?_) (fun g1=>?_)
 ·refine au ?_;exact bS I I I ⟨Cg _,I,.inl ⟨qo,I⟩⟩
 refine au ?_;refine bF qk 0 I (v':=.int .u64 (i-W.first:Nat)) (by grind[bL]) (au ?_);refine bF qk 1 I (bL (x:=((eq W.Ja:Nat):Int)) qo) (dU qk 0 (eq W.Ja<=i-W.first) I Q8 fun ae V=>au ?_);refine ax V I (fun e2=>?_) (fun e2=>?_)
 ·refine au ?_;exact bS I I I ⟨Cg _,I,.inl ⟨qo,I⟩⟩
 obtain⟨r,X⟩:∃r,W.Ja[i-W.first]?=some r:=⟨W.Ja[i-W.first]'qo,aai qo⟩;obtain⟨v,⟨ao,k,hv,xr⟩,g,off,U,rfl,rfl,J⟩:=hL.get X;simp only[List.cons.injEq,and_true]at hv;subst hv;have aa:=Y r (aam X);refine sk (th (sq (bO [pt wb (dG db ob W.first (.slice (some ⟨g,off,none⟩) (eq W.Ja) cL) (.slice Z (eq W.Jd) cO) W.next W.code) 192,pt g U 32] 15 [0,2,4,6,8,10,12,14,16,18,20,22,25,26,28] Q8 qk qk (au ?_))));refine bF qk 0 I (v':=.int .u64 (i-W.first:Nat)) (by grind[bL]) (bu qk 0 (i-W.first) I I qo ?_);simp only[bf,aaf];refine bT qk 0 1 I I J (au ?_);refine cl 0 I (lJ ao k r (.inl I) xr qo) ?_;rintro ak ad ab ⟨rfl,h',O,c',rfl,rfl,o⟩;exact aP Q8 I (aI qk 2 I (ac0 (Ei fun N l1 l2=>bS I I I ⟨l1,I,.inr ⟨r,O,c',qo,X,I,o.Ni.le l2⟩⟩)))
def yG{w0:World}{K dh:PH}{m hs:Ac}(wb db W)(hW:dK K wb db W m)(D c)(oD:D.Ok c)(hc:c<=1000000000)(hb:cK c W)(hd:bM K db D dh):
  ai w0 198 [Rp wb] K (m++dh::hs)
   (fun v K' hs'=>K'=K/\∃m' N,hs'=m'++N::hs/\dK K wb db (W.sync D).1 m'/\bM K db (W.sync D).2 N/\v=.int .i64 (W.sync D).1.code):=by
 obtain⟨ob,aL,cL,V,X,oH,rH,gL,gO,rfl,J,hL,hO⟩:=hW;obtain⟨op,first,Ja,Jd,next,code⟩:=W;dsimp only at *;refine cP Tryz.func198 ?_;refine aw 0 I fun b7 h7=>?_
 refine' dB 1 6 14 [7,8] h7 I I I I I I I (fun _=>?x2) (fun an Z=>?_)
 case x2=>
  refine au ?_
  refine cG 0 (op=none) I (by
   cases op with
   |none=>obtain⟨rfl,_⟩:=J;simp
   |some o=>obtain⟨b,_,_,rfl,_⟩:=J;simp) fun am Y=>?_
  exact fin 1 I<|bJ Y I I I
 refine fin 0 I<|th (ax Z I (fun e4=>?_) (fun e4=>?_))
 ·have e:Wl.sync ⟨op,first,Ja,Jd,next,code⟩ D=(⟨op,first,Ja,Jd,next,code⟩,D):=by
   unfold Wl.sync
   grind
  rw[e];refine au ?_;exact af I I ⟨I,_,_,I,⟨ob,aL,cL,V,X,oH,rH,gL,gO,I,J,hL,hO⟩,hd,I⟩
 have O:code=0:=qo
 subst O;cases op with
 |none=>exact absurd (.inr rfl) e4
 |some o=>
  obtain⟨b,aR,cR,rfl,rfl,oR⟩:=J;have U:=(hb.op o rfl).1;unfold c9 at U;have e:Wl.sync ⟨some o,first,Ja,Jd,next,0⟩ D=(⟨some o,first,Ja,Jd,next,(D.sync (aM o.num)).2⟩,(D.sync (aM o.num)).1):=rfl;rw[e];refine sk (th (sq (bO [pt wb (dG db (some b) first (.slice aL (eq Ja) cL) (.slice V (eq Jd) X) next 0) 192,pt b (jV o aR cR) 293] 15 [0,2,4,6,8,10,12,14,16,18,20,22,24,27,29,31,32] Q8 qk qk (dA [14] qk 4 0 I qk I I (dA [14,13,12,11,10,9] qk 3 0 I qk I I (dA [14,13] qk 3 1 I qk I I (aB qk 0 I (cl 0 I (qe o.num qo) ?_))))))));rintro ap ae aa ⟨rfl,rfl,rfl⟩;refine aP Q8 I (aB qk 0 I (cl 0 I (Er 5 I (uE db D c oD qo hd (aM o.num))) ?_));rintro aq ag ab ⟨N,rfl,rfl,hd',rfl⟩;refine aP Q8 I (aB qk 0 I (cl 0 I (u6 wb db (some b) first _ _ next 0 _) ?_))
  rintro av ak ad ⟨_,rfl,rfl,rfl,rfl⟩;rw[aab rfl];refine au ?_;exact af I I ⟨I,_,_,I,⟨some b,aL,cL,V,X,_,rH,gL,gO,I,⟨b,aR,cR,I,I,oR⟩,hL,hO⟩,hd',I⟩
def uh{dh:PH}{m:Ac}(wb db W)(hW:dK K wb db W m)(D c)(oD:D.Ok c)(hc:c<=1000000000)(hb:cK c W)(hd:bM K db D dh)(i)(hi:i<2^64):
  ai w0 209 [Rp wb,.int .u64 (i:Nat)] K (m++dh::hs)
   (fun v K' hs'=>Le K K'/\∃m' N,hs'=m'++N::hs/\dK K' wb db (W.begin i D).1 m'/\bM K' db (W.begin i D).2 N/\v=.int .i64 (W.begin i D).1.code):=by
 refine cP Tryz.func209 ?_;refine cl 1 I (yG wb db W hW D c oD hc hb hd) ?_;rintro v6 K6 az ⟨rfl,m1,ay,rfl,O,mM,rfl⟩
 have oS:(W.sync D).2.Ok (c+1):=by
  unfold Wl.sync
  split
  ·exact oD.up qo
  split
  ·exact oD.up qo
  exact oD.sync _
 have hS:(W.sync D).1={W with code:=(W.sync D).1.code}:=by
  unfold Wl.sync
  split
  ·rfl
  split
  all_goals rfl
 refine aw 0 I fun b7 h7=>fin 0 I<|th (ax h7 I (fun e2=>?_) (fun e2=>?_))
 ·have e:W.begin i D=W.sync D:=by unfold Wl.begin;rw[aab e2]
  rw[e];obtain⟨ob,aL,cL,U,X,oH,rH,gL,gO,rfl,Z,hL,hO⟩:=O;refine au ?_;exact af I I ⟨Cg _,_,_,I,⟨ob,aL,cL,U,X,oH,rH,gL,gO,I,Z,hL,hO⟩,mM,I⟩
 have e2:(W.sync D).1.code=0:=aag.1 e2
 have e:W.begin i D=({ (W.sync D).1 with op:=some (Rv ⟨W.next,i,0,[]⟩ (aK i) (W.sync D).2).1,next:=W.next+1,Jd:=W.Jd++[(W.next,i)],code:=(Rv ⟨W.next,i,0,[]⟩ (aK i) (W.sync D).2).2.2},(Rv ⟨W.next,i,0,[]⟩ (aK i) (W.sync D).2).2.1):=by
  grind[Wl.begin]
 rw[e];obtain⟨E,hE⟩:=a9 ((W.sync D).2);rw[hS,e2]at O;rw[hS];rw[<-hE]at oS mM⊢;clear hE e hS e2 h7;obtain⟨op,first,Ja,Jd,next,code⟩:=W;dsimp only at *;obtain⟨ob,aL,cL,U,X,oH,rH,gL,gO,rfl,Z,hL,hO⟩:=O;dsimp only at *;have Y:=hb.next;have ae:=hb.Jd;unfold c9 at Y;dsimp only at Y ae;refine au ?_;refine bd 1 (.agg #[.int .u64 next,.int .u64 (i:Nat)]) I Aq (bd 0 (.agg (jV ⟨next,i,0,[]⟩ none 0)) I Aq (bx 0 I fun J=>Ji 2 1 I I I I (fin 0 I (th (Bj (aap _ _ _) (WC.RV 3 em I (.inr I) (WC.del 2 I (acY (au ?_)))))))));refine ar 0 I (bL (x:=((next+1:Nat):Int)) qo) (au ?_);refine bO [pt wb (dG db (some J) first (.slice aL (eq Ja) cL) (.slice U (eq Jd) X) (next+1) 0) 192,pt J (jV ⟨next,i,0,[]⟩ none 0) 293] 16 [0,2,4,6,8,10,12,14,16,18,20,22,25,27,28,30,33] (by intro h hm;simp at hm;rcases hm with rfl|rfl;exact abp ..;exact aba _ (abp ..)) qk qk (bR qk 4 0 I qk I I (bR qk 3 0 I qk I I ?_))
 refine zH qk 2 [.int .u64 next,.int .u64 (i:Nat)] I qk qk (.inr ⟨1,I⟩) (m7 _ (fun j v hj=>by
  match j,hj with
  |0,hj=>exact hj
  |1,hj=>exact hj)) ?_
 refine au ?_;refine lit 0 #[.int .u64 next,.int .u64 (i:Nat)] I Q9 qk fun av=>oT [pt wb (dG db (some J) first (.slice aL (eq Ja) cL) (.slice U (eq Jd) X) (next+1) 0) 192,pt J (jV ⟨next,i,0,[]⟩ none 0) 293] (by intro h hm;simp at hm;rcases hm with rfl|rfl;exact aba _ (abp ..);exact aba _ (aba _ (abp ..))) Q8 I (au ?_);refine nB 0 5 [.int .u64 next,.int .u64 (i:Nat)] (next,i) I I I hO I I (by simp[Value.oneCell']) I Q9 (by show(eq Jd+1)*16<=_;omega) As fun V ab ad aD=>oT [pt wb (dG db (some J) first (.slice aL (eq Ja) cL) (.slice U (eq Jd) X) (next+1) 0) 192,pt J (jV ⟨next,i,0,[]⟩ none 0) 293] (by intro h hm;simp at hm;rcases hm with rfl|rfl;exact aba _ (abp ..);exact aba _ (aba _ (abp ..))) Q8 I (aB qk 2 I (Ji 0 1 I I I I (bQ (.inl qk) (aI qk 0 I (th (Bg (acY (WL.em ?_))))))))
 have aA:=dI (n:=i) hi;have ag:0<eq (aK i):=by rw[aK];split<;>simp
 refine cl 2 I (kU none 0 [] i (aJ.nil _ _) hi Q9) ?_;rintro aE ap am ⟨hu,rfl,rfl,aa,c',rfl,ou⟩;rw[abl]at ou;refine Eg fun K1 l1 l2=>cl 0 I (Dt wb db J first _ _ (next+1) ⟨next,i,0,[]⟩ none 0 (io.nil _ _) Q8 E (c+1) oS qo (mM.le l1) aC Q8 aa c' (aK i) ⟨ag,qo⟩ (.inl rfl) (ou.Ni.le l2)) ?_;rintro aF aq an ⟨le,aR,cR,ak,N,rfl,oR,hd',rfl⟩;refine au ?_;refine af I I ⟨l1.trans le,[_,_,_,_,_],N,I,⟨some J,aL,cL,V,ab,_,ak,gL,ad,?_,⟨J,aR,cR,I,I,oR⟩,hL.imp fun _ _ h=>h.le (l1.trans le),?_⟩,hd',I⟩
 all_goals simp_all
end
section
theorem rj(n):0<eq (aK n):=by rw[aK];split<;>simp
def ML{n}(h:n<=2^61):0<=aM n/\aM n<=18446744073709551615:=by unfold aM;omega
theorem aW.RY:∀(f:Nat) (o:ji) (D:Dk) (c:Nat),aW c D->o.num<=2^61->aW (c+(eq o.rest/63+1)) (RY f o D).2.1
 |0,o,D,c,h,_=>h.up qo
 |f+1,o,D,c,h,hn=>by
  have J:=h.write (aM o.num) o.full (UInt8.ofNat (min (eq o.rest) 63)::o.rest.take (min (eq o.rest) 63)) (ML hn);rw[nL]
  split
  ·exact J.up qo
  split
  ·exact J.up qo
  rename_i N O;refine(aW.RY f _ _ _ J (by exact hn)).up ?_;dsimp only;rw[aar];omega
theorem Dz:∀(f:Nat) (o:ji) (D:Dk),(RY f o D).1.num=o.num/\(RY f o D).1.idx=o.idx/\(RY f o D).1.full<=o.full+eq o.rest/63
 |0,o,D=>⟨rfl,rfl,ab2 _ _⟩
 |f+1,o,D=>by
  rw[nL]
  split
  ·simp
  split
  ·exact⟨I,I,aC⟩
  obtain⟨J,N,O⟩:=Dz f {o with full:=o.full+1,rest:=o.rest.drop 63} (D.write (aM o.num) o.full (UInt8.ofNat (min (eq o.rest) 63)::o.rest.take (min (eq o.rest) 63))).1;refine⟨J,N,aat O ?_⟩;dsimp only;rw[aar];omega
theorem Cy:∀(f:Nat) (o:ji) (D:Dk),eq o.rest<f->(RY f o D).2.2=0->eq (RY f o D).1.rest<=62
 |0,o,D,h,_=>by omega
 |f+1,o,D,h,J=>by
  rw[nL]at J⊢
  split
  ·grind
  rename_i N;rw[aaa N]at J
  split
  ·simp
  rename_i O;rw[aaa O]at J;exact Cy f _ _ (by dsimp only;rw[aar];omega) J
theorem aW.Rv{c D}(h:aW c D)(o b)(hn:o.num<=2^61):aW (c+((eq o.rest+eq b)/63+1)) (Rv o b D).2.1:=by
 have:=aW.RY (eq o.rest+eq b+1) {o with rest:=o.rest++b} D c h hn;dsimp only at this
 rwa[aaj]at this
theorem ry(o b D):(Rv o b D).1.num=o.num/\(Rv o b D).1.idx=o.idx/\(Rv o b D).1.full<=o.full+(eq o.rest+eq b)/63:=by
 have:=Dz (eq o.rest+eq b+1) {o with rest:=o.rest++b} D;dsimp only at this
 rwa[aaj]at this
def Cx(o b D)(h:(Rv o b D).2.2=0):eq (Rv o b D).1.rest<=62:=Cy _ _ _ Q8 h
theorem Wl.RC(W:Wl)(D):(W.sync D).1={W with code:=(W.sync D).1.code}:=by
 unfold Wl.sync
 split
 ·rfl
 split<;>rfl
abbrev Ba:=@Wl.RC
def aW.Tc{c D}(h:aW c D)(W:Wl):aW (c+1) (W.sync D).2:=by
 unfold Wl.sync
 split
 ·exact h.up qo
 split
 ·exact h.up qo
 exact h.sync _
def Wl.R9{W:Wl}{D}(h:(W.sync D).1.code=0):W.code=0:=by
 grind[Wl.sync]
theorem cK.sync{c W}(o:cK c W)(D):cK c (W.sync D).1:=by
 rw[Ba];exact⟨o.last,o.Ja,o.Jd,o.next,o.op,fun q N J=>o.rest q N (Wl.R9 J),o.RW,o.RS⟩
theorem aW.begin{c D}(h:aW c D){W}(o:cK c W)(i)(hi:i<2^64)(N:c<=1000000000):aW (c+2) (W.begin i D).2:=by
 have J:=h.Tc W;have hn:=o.next;unfold c9 at hn;have O:=dI hi;unfold Wl.begin
 split
 ·exact J.up qo
 refine(J.Rv ⟨W.next,i,0,[]⟩ (aK i) aC).up ?_;dsimp only[List.length_nil];omega
theorem cK.begin{c W}(o:cK c W)(i)(hi:i<=bt)(D):cK (c+1) (W.begin i D).1:=by
 have N:=o.sync D;unfold Wl.begin
 split
 ·exact N.up qo
 have hn:=ry ⟨W.next,i,0,[]⟩ (aK i) (W.sync D).2;have O:=dI (n:=i) (by unfold bt at hi;omega);dsimp only[List.length_nil]at hn;rw[Ba];refine⟨o.last,aat o.Ja qo,?_,?_,?_,?_,?_,o.RS⟩
 ·have:=o.Jd;simp_all
 ·have:=o.next;dsimp only;omega
 ·intro q J;simp only[aae]at J;rw[<-J];have:=o.next;omega
 ·simp_all[Cx]
 intro s hs;rcases aao.1 hs with hs|hs
 ·have:=o.RW s hs;omega
 simp only[aaC]at hs;subst hs;have:=o.next;omega
def Mh{W:Wl}{i D}(h:(W.begin i D).1.code=0):(W.begin i D).1.op≠none/\(W.begin i D).1.first=W.first/\(W.begin i D).1.Ja=W.Ja/\(W.sync D).1.code=0:=by
 unfold Wl.begin at h⊢
 split
 ·simp_all
 rename_i J;rw[Ba]
 simp_all
def qS(W:Wl)(i D):(W.begin i D).1.first=W.first/\(W.begin i D).1.Ja=W.Ja:=by
 unfold Wl.begin
 split
 ·rw[Ba];simp
 rw[Ba];simp
def qL{b}(h:eq b<=512):0<eq (cJ b)/\eq (cJ b)<=522:=by
 grind[rj,dI,pz]
theorem aW.lay{c D}(h:aW c D){W}(o:cK c W)(O:c<=1000000000)(N:W.code=0){b}(hb:eq b<=512):aW (c+10) (dJ W b D).2.1:=by
 unfold dJ;cases hop:W.op with
 |none=>exact h.up qo
 |some q=>
  have J:=o.op q hop;unfold c9 at J;have U:=o.rest q hop N;have hp:=qL hb;exact(h.Rv q (cJ b) qo).up qo
theorem cK.lay{c W}(o:cK c W)(N:W.code=0)(hl:W.first+eq W.Ja<bt){b}(hb:eq b<=512)(D):cK (c+10) (dJ W b D).1:=by
 unfold dJ;cases hop:W.op with
 |none=>exact o.up qo
 |some q=>
  have Y:=o.op q hop;have J:=o.rest q hop N;have hp:=qL hb;have hn:=ry q (cJ b) D;have O:=o.Ja;have U:=o.Jd;have V:=o.next;have X:=o.last;refine⟨?_,?_,aC,aC,?_,?_,?_,?_⟩
  ·grind
  ·grind
  ·grind
  ·simp_all[Cx]
  ·intro s hs;have:=o.RW s hs;omega
  intro r J;dsimp only at J
  split at J
  ·rcases aao.1 J with J|J
   ·exact o.RS r J
   simp_all
  exact o.RS r J
theorem aW.append{c D}(h:aW c D){W}(o:cK c W)(O:c<=999999990)(b):aW (c+12) (W.append b D).2.1:=by
 have hl:=o.last;unfold Wl.append
 split
 ·exact h.up qo
 rename_i J;have J:=aag.1 J
 split
 ·exact h.up qo
 split
 ·exact h.up qo
 split
 ·have hb:=h.begin o (W.first+eq W.Ja) (by unfold bt at hl;omega) qo
  split
  ·exact hb.up qo
  rename_i N;exact(hb.lay ((o.begin _ hl D).up qo) qo (aag.1 N) qo).up qo
 exact(h.lay o qo J qo).up qo
theorem cK.append{c W}(o:cK c W)(b D):cK (c+12) (W.append b D).1:=by
 have hl:=o.last;unfold Wl.append
 split
 ·exact o.up qo
 rename_i J;have J:=aag.1 J
 split
 ·exact o.up qo
 split
 ·exact o.up qo
 split
 ·have hb:=o.begin (W.first+eq W.Ja) hl D
  split
  ·exact hb.up qo
  rename_i O;have N:=qS W (W.first+eq W.Ja) D;exact(hb.lay (aag.1 O) (by rw[N.1,N.2];omega) qo _).up qo
 exact(o.lay J qo qo D).up qo
theorem aW.truncate{c D}(h:aW c D){W}(o:cK c W)(J:c<=1000000000)(i)(hi:i<2^64):aW (c+2) (W.truncate i D).2.1:=by
 unfold Wl.truncate
 split
 ·exact h.up qo
 split
 ·exact h.up qo
 split
 ·exact h.up qo
 exact h.begin o i hi J
def cK.Uc{c W}(o:cK c W)(n):cK c {W with Ja:=W.Ja.take n}:=by
 have N:eq (W.Ja.take n)<=eq W.Ja:=by rw[aal];omega
 exact⟨by have:=o.last;dsimp only;omega,by have:=o.Ja;dsimp only;omega,o.Jd,o.next,o.op,o.rest,o.RW,fun r J=>o.RS r (aaS J)⟩
theorem cK.truncate{c W}(o:cK c W)(i D):cK (c+1) (W.truncate i D).1:=by
 have hl:=o.last;unfold Wl.truncate
 split
 ·exact o.up qo
 split
 ·exact o.up qo
 split
 ·exact o.up qo
 have hb:=o.begin i qo D;dsimp only
 split
 ·have J:=qS W i D;rw[<-J.2];exact hb.Uc _
 exact hb
theorem aW.Jf{c D}(h:aW c D){W}(o:cK c W)(J:c<=1000000000)(i)(hi:i<2^64):aW (c+2) (W.Jf i D).2:=by
 unfold Wl.Jf
 split
 ·exact h.begin o i hi J
 exact h.up qo
theorem cK.Jf{c W}(o:cK c W)(i D):cK (c+1) (W.Jf i D).1:=by
 have hl:=o.last;unfold Wl.Jf
 split
 ·exact o.begin i qo D
 exact o.up qo
theorem aW.Jb{c D}(h:aW c D){W}(o:cK c W)(J:c<=1000000000)(i)(hi:i<2^64):aW (c+3) (W.Jb i D).2:=(h.Jf o J i hi).Tc _
theorem cK.Jb{c W}(o:cK c W)(i D):cK (c+1) (W.Jb i D).1:=(o.Jf i D).sync _
def AC(W:Wl)(i D):(W.Jb i D).1.first=W.first/\(W.Jb i D).1.Ja=W.Ja:=by
 unfold Wl.Jb;rw[Ba];unfold Wl.Jf
 split
 ·simp[qS]
 simp
theorem gY.Kd(i):∀(f:Nat) (Jd:List (Nat×Nat)) (D:Dk) (c:Nat) (s:Int),gY c s D->gY c (s+eq Jd) (Kd i f Jd D).2.1
 |0,Jd,D,c,s,h=>h.up (aac c) qo
 |f+1,Jd,D,c,s,h=>by
  have J:=h.free (aM (Jd.headD (0,0)).1);unfold Go.En.Kd
  split
  ·rename_i N
   split
   ·exact J.up (aac c) qo
   exact(gY.Kd i f (Jd.drop 1) _ _ _ J).up (aac c) (by rw[aar];omega)
  exact h.up (aac c) qo
theorem aW.Jh{c k D}(h:aW c D){W}(o:cK c W)(N:c<=1000000000)(i)(hi:i<2^64)(U:eq (W.Jb i D).1.Jd<=1048576*k):aW (c+3+k) (W.Jh i D).2.1:=by
 have J:=h.Jb o N i hi;have O:=((gY.Kd i (eq (W.Jb i D).1.Jd+1) (W.Jb i D).1.Jd (W.Jb i D).2 _ _ J.os).up (ab2 _ k) (aaD _)).ok qo;unfold Wl.Jh
 split
 ·exact h.up qo
 split
 ·exact h.up qo
 split
 ·exact h.up qo
 split
 ·exact J.up qo
 grind
theorem cK.Jh{c W}(o:cK c W)(i D):cK (c+1) (W.Jh i D).1:=by
 have J:=o.Jb i D;have Y:=AC W i D
 have hs:(Go.En.Kd i (eq (W.Jb i D).1.Jd+1) (W.Jb i D).1.Jd (W.Jb i D).2).1 <:+ (W.Jb i D).1.Jd:=by
  generalize (W.Jb i D).1.Jd=Jd;generalize (W.Jb i D).2=E;generalize (eq Jd)+1=f
  induction f generalizing Jd E with
  |zero=>exact abU _
  |succ f Z=>
   grind[List.drop_suffix,Go.En.Kd]
 have hl:=o.last;unfold Wl.Jh
 split
 ·exact o.up qo
 rename_i N
 split
 ·exact o.up qo
 split
 ·exact o.up qo
 split
 ·exact J
 rename_i V
 split
 ·rename_i O;exact⟨J.last,J.Ja,aat hs.length_le J.Jd,J.next,J.op,fun q X U=>absurd U O,fun s hm=>J.RW s (hs.subset hm),J.RS⟩
 refine⟨?_,?_,aat hs.length_le J.Jd,J.next,J.op,J.rest,fun s hm=>J.RW s (hs.subset hm),fun r hm=>o.RS r (aaV hm)⟩
 ·dsimp only;rw[aar];omega
 have:=o.Ja;dsimp only;rw[aar];omega
theorem gY.Kb:∀(l:Ae) (D:Dk) (c:Nat) (s:Int),gY c s D->gY c (s+eq l) (Kb l D).1
 |[],D,c,s,h=>h.up (aac c) Q8
 |a::r,D,c,s,h=>by
  have J:=h.free a;unfold Go.En.Kb
  split
  ·split
   ·exact(gY.Kb r _ _ _ J).up (aac c) (by simp only[aas];omega)
   exact J.up (aac c) (by simp only[aas];omega)
  exact(gY.Kb r _ _ _ h).up (aac c) (by simp only[aas];omega)
theorem aW.reset{c k D}(h:aW c D)(W:Wl)(first)(N:eq (aU D)<=1048576*k):aW (c+k) (W.reset first D).2.1:=by
 have J:=((gY.Kb (aU D) D c _ h.os).up (ab2 c k) (aaD _)).ok qo;unfold Wl.reset
 split
 ·exact h.up qo
 split
 ·exact h.up qo
 split
 all_goals exact J
theorem cK.reset{c W}(o:cK c W)(first D):cK c (W.reset first D).1:=by
 unfold Wl.reset
 split
 ·exact o
 split
 ·exact o
 split
 ·rename_i J;exact⟨o.last,o.Ja,o.Jd,o.next,o.op,fun q O N=>absurd N J,o.RW,o.RS⟩
 exact⟨by simp;omega,Q8,Q8,o.next,Q8,Q8,Q8,Q8⟩
end
section
def Mk{dh hv:PH}{m:Ac}(wb db W)(hW:dK K wb db W m)(D c)(oD:aW c D)(hc:c<=999999000)(hb:cK c W)(hd:bM K db D dh)(ab cb b)(cx:eq b<2^40)(b5:In K hs hv)(x:aj hv ab (eq b) cb 1 (bv b)):
  ai w0 203 [Rp wb,.slice ab (eq b) cb] K (m++dh::hs)
   (fun v K' hs'=>Le K K'/\∃m' O,hs'=m'++O::hs/\dK K' wb db (W.append b D).1 m'/\bM K' db (W.append b D).2.1 O/\v=.int .i64 (W.append b D).2.2):=by
 obtain⟨ob,aL,cL,aO,cO,oH,rH,gL,gO,rfl,Y,hL,hO⟩:=id hW;have J:=hb.last;refine cP Tryz.func203 ?_;refine aw 0 I fun cs bp=>fin 1 I (th (ax bp I (fun e2=>?_) (fun e2=>?_)))
 ·have e:W.append b D=(W,D,W.code):=by unfold Wl.append;rw[aab e2]
  rw[e];refine au ?_;exact af I I ⟨Cg _,_,_,I,hW,hd,I⟩
 have an:W.code=0:=aag.1 e2;refine acY (aw 2 I fun ct bq=>fin 1 I (th (ax bq I (fun e4=>?_) (fun e4=>?_))))
 ·have e:W.append b D=(W,D,50):=by grind[Wl.append]
  rw[e];refine au ?_;exact af I I ⟨Cg _,_,_,I,hW,hd,I⟩
 refine acY (cl 1 I (rG wb db W hW J) ?_);rintro cE aq ch ⟨rfl,rfl,rfl⟩;refine ar 0 I (tX _ (by unfold bt at J;omega)) (aw 0 rfl fun cu bs=>fin 1 rfl (th (ax bs rfl (fun e6=>?_) (fun e6=>?_))))
 ·have e:W.append b D=(W,D,51):=by grind[Wl.append,bt]
  rw[e];refine au ?_;exact af I I ⟨Cg _,_,_,I,hW,hd,I⟩
 have e0:W.append b D=if np W.op=true then
   (if(W.begin (W.first+eq W.Ja) D).1.code≠0 then((W.begin (W.first+eq W.Ja) D).1,(W.begin (W.first+eq W.Ja) D).2,(W.begin (W.first+eq W.Ja) D).1.code)
    else dJ (W.begin (W.first+eq W.Ja) D).1 b (W.begin (W.first+eq W.Ja) D).2)
  else dJ W b D:=by grind[Wl.append,bt]
 rw[e0];obtain⟨B,hB⟩:=a9 (W.begin (W.first+eq W.Ja) D);have oB:aW (c+2) B.2:=by rw[hB];exact oD.begin hb _ (by unfold bt at J;omega) qo
 have bB:cK (c+2) B.1:=by rw[hB];exact(hb.begin _ J D).up qo
 have Z:=qS W (W.first+eq W.Ja) D;have ap:B.1.code=0->B.1.op≠none:=by rw[hB];exact fun h=>(Mh h).1
 rw[<-hB]at Z⊢
 refine sk (bl (th (kL (σ:=(Wl×Dk)×(Ac×PH)×PH) (fun _=>[(0,Rp wb),(1,.slice ab (eq b) cb)]) (fun s=>s.2.2) (fun s=>s.2.1.1++s.2.1.2::hs)
  (fun s=>Le aq s.2.2/\dK s.2.2 wb db s.1.1 s.2.1.1/\bM s.2.2 db s.1.2 s.2.1.2/\aW (c+2) s.1.2/\cK (c+2) s.1.1/\s.1.1.code=0/\s.1.1.op≠none/\s.1.1.first+eq s.1.1.Ja<bt /\
   (if np W.op=true then(if B.1.code≠0 then(B.1,B.2,B.1.code)else dJ B.1 b B.2)else dJ W b D)=dJ s.1.1 b s.1.2) ?_ ?_)))
 ·refine au ?_;cases hwo:W.op with
  |none=>
   rw[hwo]at Y;obtain⟨rfl,rfl,rfl⟩:=Y;refine En.cb 0 I (fun h=>cl 13 I (rG wb db W hW J) ?_) (fun h=>by simp at h);rintro ce a0 aE ⟨rfl,rfl,rfl⟩;refine ar 0 I (tX _ (by unfold bt at J;omega)) (cl 0 rfl (uh wb db W hW D c oD.ok qo hb hd (W.first+eq W.Ja) (by unfold bt at J;omega)) ?_);rintro cg ae aF ⟨le,m',O,rfl,U,hd',rfl⟩;rw[<-hB]at U hd'⊢;refine aw 0 I fun a4 am=>fin 1 I (th (ax am I (fun N=>?_) (fun N=>?_)))
   ·rw[aab (by rfl),aab N];obtain⟨ca,a1,a6,a2,bb,b9,cd,bm,bo,rfl,aD,b2,b3⟩:=id U;refine au ?_;exact af I I ⟨le,_,_,I,U,hd',I⟩
   have N:=aag.1 N;refine sk ?_;exact fM ((B.1,B.2),(m',O),ae) ⟨le,U,hd',oB,bB,N,ap N,by rw[Z.1,Z.2];unfold bt at J⊢;omega,by rw[aab (by rfl),aaa qo]⟩ sb rfl rfl
  |some o=>
   rw[hwo]at Y;obtain⟨b1,aR,cR,rfl,rfl,oR⟩:=Y;refine En.cb 0 I (fun h=>by simp at h) (fun h=>au ?_);refine bc 0 I (fun b0=>?_) (fun b0=>?_)
   ·have X:np (some o)=true:=decide_eq_true qo;refine cl 4 I (rG wb db W hW J) ?_;rintro ce a0 aE ⟨rfl,rfl,rfl⟩;refine ar 0 I (tX _ (by unfold bt at J;omega)) (cl 0 rfl (uh wb db W hW D c oD.ok qo hb hd (W.first+eq W.Ja) (by unfold bt at J;omega)) ?_);rintro cg ae aF ⟨le,m',O,rfl,U,hd',rfl⟩;rw[<-hB]at U hd'⊢;refine aw 0 I fun a4 am=>fin 1 I (th (ax am I (fun N=>?_) (fun N=>?_)))
    ·rw[aab X,aab N];obtain⟨ca,a1,a6,a2,bb,b9,cd,bm,bo,rfl,aD,b2,b3⟩:=id U;refine au ?_;exact af I I ⟨le,_,_,I,U,hd',I⟩
    have N:=aag.1 N;refine sk ?_;exact fM ((B.1,B.2),(m',O),ae) ⟨le,U,hd',oB,bB,N,ap N,by rw[Z.1,Z.2];unfold bt at J⊢;omega,by simp_all⟩ sb rfl rfl
   have X:¬np (some o)=true:=by simp only[np,decide_eq_true_eq];omega
   refine fin 9 I (th (bP I (sk ?_)));exact fM ((W,D),([_,_,_,_,_],dh),aq) ⟨Cg _,hW,hd,oD.up qo,hb.up qo,an,by rw[hwo];simp,by dsimp only;unfold bt at J⊢;omega,by rw[aaa X]⟩ sb rfl rfl
 clear ap Z bB oB Y hL hO;rintro⟨⟨V,E⟩,⟨m1,eh⟩,K1⟩ ⟨le,hV,hE,oE,bV,b4,b6,cy,ay⟩;dsimp only at *;rw[ay];clear ay;obtain⟨ob,aL,cL,aO,cO,oH,rH,gL,gO,rfl,Y,hL,hO⟩:=id hV;obtain⟨op,first,Ja,Jd,next,code⟩:=V;dsimp only at *;subst b4;cases op with
 |none=>exact absurd rfl b6
 |some o=>
  obtain⟨b1,aR,cR,rfl,rfl,oR⟩:=Y;have hq:=bV.op o rfl;have hr:=bV.rest o rfl rfl;have b8:=bV.Ja;unfold c9 at hq;dsimp only at hq hr b8;have b7:=qL (b:=b) qo;have eL:dJ ⟨some o,first,Ja,Jd,next,0⟩ b E=(⟨some (Rv o (cJ b) E).1,first,if(Rv o (cJ b) E).2.2=0 then Ja++[b]else Ja,Jd,next,(Rv o (cJ b) E).2.2⟩,(Rv o (cJ b) E).2.1,(Rv o (cJ b) E).2.2):=rfl;rw[eL];refine sq (acY (WL.em ?_));obtain⟨cz,ad,aN⟩:=b5.le le;refine cl 2 I (pE none 0 [] ab cb b (aJ.nil _ _) (ad.tail (_::_::_::_::_::[eh])) (x.le aN) Q9 qo) ?_;rintro cF cp ck ⟨hu,rfl,rfl,a3,c',rfl,ou⟩;rw[abl]at ou;refine Eg fun K2 l1 l2=>?_;obtain⟨cA,az,aS⟩:=ad.le l1;refine cl 0 I (Dt wb db b1 first _ _ next o aR cR oR qo E (c+2) oE.ok qo (hE.le l1) qo qo a3 c' (cJ b) ⟨b7.1,qo⟩ (.inl I) (ou.Ni.le l2)) ?_
  rintro cN cq cm ⟨aa,aR',cR',aY,O,rfl,aV,hd',rfl⟩;obtain⟨cB,aA,aT⟩:=az.le aa;have cU:=le.trans (l1.trans aa);refine bc 0 I (fun ak=>?_) (fun ak=>?_)
  ·refine au ?_;rw[aab ak];refine bO [pt wb (dG db (some b1) first (.slice aL (eq Ja) cL) (.slice aO (eq Jd) cO) next (Rv o (cJ b) E).2.2) 192] 11 [0,2,4,6,8,10,13,15,17,18,20,23] Q8 qk qk (au ?_);refine cl 0 I (lJ ab cb b (aA.tail (_::_::_::_::_::[O])) (((x.le aN).le aS).le aT) qo) ?_;rintro cQ cr cn ⟨rfl,g,ag,cc,rfl,rfl,og⟩;refine Eg fun K3 l3 l4=>dX Q8 l3 (au ?_);refine lit 0 #[.slice ag (eq b) cc] I Q9 qk fun cv=>aP Q8 I (aB qk 0 I (nB (R:=qi K3) 0 4 [.slice ag (eq b) cc] b I I I (hL.imp fun _ _ h=>((h.le l1).le aa).le l3) ⟨ag,cc,I,og.Ni.le l4⟩ I (by simp[Value.oneCell']) I Q9 (by show(eq Ja+1)*24<=_;omega) As fun av a5 bi cD=>aP Q8 rfl (aB qk 2 rfl (Ji 0 1 rfl rfl rfl rfl (bQ (.inl qk) (aI qk 0 rfl (acV (Bf (au ?_)))))))))
   refine af I I ⟨cU.trans l3,[_,_,_,_,_],O,I,⟨some b1,av,a5,aO,cO,_,aY,bi,gO,?_,⟨b1,aR',cR',I,I,aV⟩,?_,hO⟩,hd'.le l3,I⟩
   ·dsimp only;rw[aaj];rfl
   simp_all
  refine au ?_;rw[aaa ak];refine au ?_;exact af I I ⟨cU,[_,_,_,_,_],O,I,⟨some b1,aL,cL,aO,cO,_,aY,gL,gO,I,⟨b1,aR',cR',I,I,aV⟩,hL.imp fun _ _ h=>(h.le l1).le aa,hO⟩,hd',I⟩
def MB{dh:PH}{m:Ac}(wb db W)(hW:dK K wb db W m)(D c)(oD:aW c D)(hc:c<=999999000)(hb:cK c W)(hd:bM K db D dh)(i)(hi:i<2^64):
  ai w0 197 [Rp wb,.int .u64 (i:Nat)] K (m++dh::hs)
   (fun v K' hs'=>Le K K'/\∃m' N,hs'=m'++N::hs/\dK K' wb db (W.truncate i D).1 m'/\bM K' db (W.truncate i D).2.1 N/\v=.int .i64 (W.truncate i D).2.2):=by
 obtain⟨ob,aL,cL,aO,cO,oH,rH,gL,gO,rfl,a0,hL,hO⟩:=id hW;have ab:=hb.last;have a1:=hb.Ja;unfold bt at ab;refine enter Tryz.func197 qk I I I (acY (fin 1 I (th (sq (bk (acY (aX 3 0 I I I (aw 0 I fun aS aq=>fin 1 I (th (ax aq I (fun e2=>?_) (fun e2=>?_)))))))))))
 ·have e:W.truncate i D=(W,D,W.code):=by unfold Wl.truncate;rw[aab e2]
  rw[e];exact acY (aX 3 0 I I I (fin 1 I (ac0 (rB (rT (af I I ⟨Cg _,_,_,I,hW,hd,I⟩))))))
 have aD:W.code=0:=aag.1 e2;refine sq (bO [pt wb (dG db ob W.first (.slice aL (eq W.Ja) cL) (.slice aO (eq W.Jd) cO) W.next W.code) 192] 22 [0,2,4,6,8,10,12,14,16,18,20,22,24,26,28,30,32,34,36,38,40,42] Q8 qk qk (bT qk 4 0 I I I (dP qk 0 (i<W.first) I Q8 (fun h3=>?_) (fun h3=>?_))))
 ·have e:W.truncate i D=(W,D,51):=by unfold Wl.truncate;rw[aaa e2,aab (.inl h3)]
  rw[e];exact aI qk 16 I (th (dk I (acY (fin 1 I (ac0 (rB (rT (af I I ⟨Cg _,_,_,I,hW,hd,I⟩))))))))
 refine bT qk 5 0 I I I (bF qk 0 I (v':=.int .u64 (i-W.first:Nat)) (by rw[show((i:Nat):Int)-((W.first:Nat):Int)=((i-W.first:Nat):Int)from qo];exact bL qo) (bT qk 3 0 I I I (bF qk 1 I (bL (x:=((eq W.Ja:Nat):Int)) qo) (dU qk 0 (eq W.Ja<i-W.first) I Q8 fun aT av=>aI qk 2 I (th (ax av I (fun e4=>?_) (fun e4=>?_)))))))
 ·have e:W.truncate i D=(W,D,51):=by unfold Wl.truncate;rw[aaa e2,aab (.inr e4)]
  rw[e];exact acY (fin 1 I (ac0 (rB (rT (af I I ⟨Cg _,_,_,I,hW,hd,I⟩)))))
 refine sq (bO [pt wb (dG db ob W.first (.slice aL (eq W.Ja) cL) (.slice aO (eq W.Jd) cO) W.next W.code) 192] 14 [0,2,4,6,8,10,12,14,16,18,20,22,24,26] Q8 qk qk (bT qk 4 0 I I I (bF qk 0 I (v':=.int .u64 (i-W.first:Nat)) (by rw[show((i:Nat):Int)-((W.first:Nat):Int)=((i-W.first:Nat):Int)from qo];exact bL qo) (bT qk 3 0 I I I (bF qk 1 I (bL (x:=((eq W.Ja:Nat):Int)) qo) (dU qk 0 (i-W.first=eq W.Ja) I Au fun aV ay=>aI qk 1 rfl (th (ax ay rfl (fun e5=>?_) (fun e5=>?_)))))))))
 ·have e:W.truncate i D=(W,D,0):=by unfold Wl.truncate;rw[aaa e2,aaa qo,aab e5]
  rw[e];exact acY (fin 1 I (ac0 (rB (rT (af I I ⟨Cg _,_,_,I,hW,hd,I⟩)))))
 have e:W.truncate i D=(if(W.begin i D).1.code=0 then { (W.begin i D).1 with Ja:=W.Ja.take (i-W.first)}else(W.begin i D).1,(W.begin i D).2,(W.begin i D).1.code):=by
  unfold Wl.truncate;rw[aaa e2,aaa qo,aaa e5]
 rw[e];refine sk (bl (acU (cl 2 I (uh wb db W hW D c oD.ok qo hb hd i hi) ?_)));rintro a2 aR aN ⟨le,m',N,rfl,O,hd',rfl⟩;have hr:=qS W i D;obtain⟨B,hB⟩:=a9 (W.begin i D);rw[<-hB]at O hd' hr⊢;refine aw 0 I fun aY az=>fin 0 I (th (ax az I (fun e7=>?_) (fun e7=>?_)))
 ·rw[aab e7];obtain⟨ad,X,J,Y,Z,am,an,ap,ag,rfl,V,aa,ak⟩:=O;obtain⟨⟨op,first,Ja,Jd,next,code⟩,E⟩:=B;dsimp only at *;obtain⟨rfl,rfl⟩:=hr;have aF:=aa.Sd;refine bO [pt wb (dG db ad W.first (.slice X (eq W.Ja) J) (.slice Y (eq Jd) Z) next code) 192] 14 [0,2,4,6,8,10,12,14,16,18,20,22,24,26,29] Q8 qk qk (bR qk 4 0 I qk I I (bR qk 4 0 I qk I I (bF qk 0 I (v':=.int .u64 (i-W.first:Nat)) (by rw[show((i:Nat):Int)-((W.first:Nat):Int)=((i-W.first:Nat):Int)from qo];exact bL qo) (oP qk 0 0 (i-W.first) I I I (by show((i-W.first:Nat):Int)=((0+(i-W.first):Nat):Int);omega) qo (aB qk 2 rfl (Ji 0 0 rfl rfl rfl rfl (bQ (.inl qk) ?_)))))));obtain⟨ae,aE,aA⟩:=aa.cut 0 (i-W.first) qo
  refine aI qk 0 I (th (sq (WC.RV 3 ae I aE (rg (aX 3 0 I I I (fin 1 I (ac0 ?_)))))));have U:eq (W.Ja.take (i-W.first))=i-W.first:=by rw[aal];omega
  refine af I I ⟨le,[_,_,_,_,_],N,I,⟨ad,dE X J 0 1,J-0,Y,Z,am,an,ae,ag,?_,V,?_,ak⟩,hd',I⟩
  ·dsimp only;rw[U];rfl
  dsimp only;rw[U,<-abC (l:=W.Ja)];exact aA
 rw[aaa e7];obtain⟨ad,X,J,Y,Z,am,an,ap,ag,rfl,V,aa,ak⟩:=id O;exact sk (acV (aX 3 0 I I I (fin 1 I (ac0 (af I I ⟨le,_,_,I,O,hd',I⟩)))))
end
section
def dD.Ue{α}{R:Ad->α->Prop}{size e h ao n cap xs}(x:dD size e R h ao n cap xs)(hs:0<size){i y}(hy:xs[i]?=some y):
  ∃c,R c y/\eq c=size/\∃g off J,ao=some ⟨g,off,none⟩/\h=pt g J e/\∀(j:Nat) v,c[j]?=some v->J[off+i*size+j]?=some v:=by
 obtain⟨css,h1,Y,Z,U⟩:=x;obtain⟨c,V,hR⟩:=Z.get hy;have hl:=U c (aam V);have hi:i<n:=by grind
 refine⟨c,hR,hl,?_⟩;rcases Y with⟨g1,g2,g3,⟨N,O,X⟩|⟨g,off,J,N,O,X,g7⟩⟩|⟨rfl,_⟩
 ·omega
 ·refine⟨g,off,J,N,O,fun j v hv=>?_⟩;have hj:j<size:=by grind
  have hf:=tS U V j v hv
  grind
 omega
def H1(i f Jd D):Kd i (f+1) Jd D=if 1<eq Jd/\lD Jd i=true then
   (if(D.free (aM (Jd.headD (0,0)).1)).2≠0 then(Jd,(D.free (aM (Jd.headD (0,0)).1)).1,(D.free (aM (Jd.headD (0,0)).1)).2)
    else Kd i f (Jd.drop 1) (D.free (aM (Jd.headD (0,0)).1)).1)
  else(Jd,D,0):=rfl
def OS{oH rH gL U:PH}(wb db ob first lv next code O N Jd)(hO:dD 2 197 zA U O (eq Jd) N Jd)(h1:1<eq Jd)(hl:eq Jd<=2^40)(i):
  ai w0 210 [Rp wb,.int .u64 (i:Nat)] K (pt wb (dG db ob first lv (.slice O (eq Jd) N) next code) 192::oH::rH::gL::U::hs)
   (fun v K' hs'=>K'=K/\hs'=pt wb (dG db ob first lv (.slice O (eq Jd) N) next code) 192::oH::rH::gL::U::hs/\v=.bool (lD Jd i)):=by
 have ad:=hO.Sd;have V:=hO.SL.cut 1 qo;obtain⟨a,ha⟩:=V.addr qo Q9;rw[ha]at V;obtain⟨vs,xs⟩:=V.Ni;refine cP Tryz.func210 ?_;refine o9 0 1 (eq Jd-1) I I (by show((eq Jd:Nat):Int)=_;omega) qo ?_;rw[show dE O N 1 2=some a from ha];refine au ?_
 refine loop (σ:=Nat) (fun j=>[(1,.int .u64 (i:Nat)),(11,.slice (some a) (eq Jd-1) (N-1)),(12,.int .i64 (eq Jd-1:Nat)),(13,.int .i64 (j:Nat))]) (fun _=>K) (fun _=>pt wb (dG db ob first lv (.slice O (eq Jd) N) next code) 192::oH::rH::gL::U::hs)
  (fun j=>j<=eq Jd-1/\((Jd.drop 1).take j).any (fun s=>decide (s.2<=i))=false) (fun j=>eq Jd-1-j) 0 ⟨aad _,rfl⟩ ⟨rfl,rfl,rfl,rfl,trivial⟩ rfl rfl ?_
 rintro j ⟨hj,am⟩;refine acY (bc 0 I (fun e2=>?_) (fun e2=>?_))
 ·refine au ?_;have aa:j<eq (Jd.drop 1):=by rw[aar];omega
  obtain⟨cs,X,ak,J⟩:=V.cells (i:=j) (x:=(Jd.drop 1)[j]) (aai aa);obtain⟨s,ab⟩:=a9 ((Jd.drop 1)[j]);rw[<-ab]at X;have X:cs=[.int .u64 s.1,.int .u64 s.2]:=X;subst X;refine au ?_;refine dZ 0 j I I xs qo Q9 fun ae Y=>?_;cases Y;refine fu 0 [.int .u64 s.1,.int .u64 s.2] I qk (.inr ⟨4,I⟩) J (al 0 (.agg #[.int .u64 0,.int .u64 0]) I qk fun b6=>?_);refine bA 0 0 I I qk I I ?_;refine fin 0 I (acV (aX 1 0 I I I (aw 1 I fun ag Z=>?_)));have an:((Jd.drop 1).take (j+1))=((Jd.drop 1).take j)++[s]:=by simp_all[aaN]
  refine fin 0 I<|th (ax Z I (fun e4=>?_) (fun e4=>?_))
  ·have he:lD Jd i=true:=by
    grind[lD]
   rw[he];exact acY (fin 1 I (ac0 (rB (rT (rT (rB (rT (Bh (af I I ⟨I,I,I⟩)))))))))
  refine sk (acW (cZ j (Bh ?_)));refine bn (x:=j) (j+1) sb I I ⟨qo,?_⟩ qo
  grind
 refine au ?_
 have he:lD Jd i=false:=by
  grind[List.length_drop,lD]
 rw[he];refine au ?_;exact af I I ⟨I,I,I⟩
def KF{w0:World}{K dh:PH}{m hs:Ac}(wb db W)(hW:dK K wb db W m)(D c)(oD:aW c D)(hc:c<=499999000)(hb:cK c W)(cY:eq W.Jd<=c)(hd:bM K db D dh)(i)(hi:i<2^64):
  ai w0 160 [Rp wb,.int .u64 (i:Nat)] K (m++dh::hs)
   (fun v K' hs'=>Le K K'/\∃m' ae,hs'=m'++ae::hs/\dK K' wb db (W.Jh i D).1 m'/\bM K' db (W.Jh i D).2.1 ae/\v=.int .i64 (W.Jh i D).2.2):=by
 obtain⟨ob,aL,cL,aO,cO,oH,rH,gL,gO,rfl,c1,hL,hO⟩:=id hW;have aA:=hb.last;have am:=hb.last;have c3:=hb.Ja;unfold bt at aA;refine cP Tryz.func160 ?_;refine bc 0 I (fun e2=>?_) (fun e2=>?_)
 ·refine au ?_;have e:W.Jh i D=(W,D,W.code):=by unfold Wl.Jh;rw[aab e2]
  rw[e];refine au ?_;exact af I I ⟨Cg _,_,_,I,hW,hd,I⟩
 refine au ?_;have ca:W.code=0:=aag.1 e2;refine au ?_;refine aw 0 I fun cy bs=>fin 1 I (th (ax bs I (fun e4=>?_) (fun e4=>?_)))
 ·have e:W.Jh i D=(W,D,0):=by simp_all[Wl.Jh]
  rw[e];refine au ?_;exact af I I ⟨Cg _,_,_,I,hW,hd,I⟩
 refine sq (bO [pt wb (dG db ob W.first (.slice aL (eq W.Ja) cL) (.slice aO (eq W.Jd) cO) W.next W.code) 192] 14 [0,2,4,6,8,10,12,14,16,18,20,22,24,26] Q8 qk qk (au ?_));refine bF qk 0 I (v':=.int .u64 (i-W.first:Nat)) (by grind[bL]) (au ?_);refine bF qk 1 I (bL (x:=((eq W.Ja:Nat):Int)) qo) (dU qk 0 (eq W.Ja<i-W.first) I Q8 fun cz bB=>au ?_);refine ax bB I (fun e5=>?_) (fun e5=>?_)
 ·have e:W.Jh i D=(W,D,51):=by simp_all[Wl.Jh]
  rw[e];refine au ?_;exact af I I ⟨Cg _,_,_,I,hW,hd,I⟩
 refine sk (bl (th (kL (σ:=(Ac×PH)×PH) (fun _=>[(0,Rp wb),(1,.int .u64 (i:Nat))]) (fun s=>s.2) (fun s=>s.1.1++s.1.2::hs)
  (fun s=>Le K s.2/\dK s.2 wb db (W.Jf i D).1 s.1.1/\bM s.2 db (W.Jf i D).2 s.1.2) ?_ ?_)))
 ·refine acY (cl 2 I (rG wb db W hW am) ?_);rintro c4 bm ch ⟨rfl,rfl,rfl⟩;refine ar 0 I (tX _ qo) (aw 0 I fun cA bV=>fin 0 I (th (ax bV I (fun e7=>?_) (fun e7=>?_))))
  ·have e:W.Jf i D=W.begin i D:=by unfold Wl.Jf;rw[aab qo]
   rw[e];refine rg (cl 2 I (uh wb db W hW D c oD.ok qo hb hd i hi) ?_);rintro c5 bo ck ⟨le,m',ae,rfl,b7,hd',rfl⟩;exact fin 0 I (fM ((m',ae),bo) ⟨le,b7,hd'⟩ sb I I)
  have e:W.Jf i D=(W,D):=by unfold Wl.Jf;rw[aaa qo]
  rw[e];refine sk ?_;exact fM (([_,_,_,_,_],dh),bm) ⟨Cg _,hW,hd⟩ ⟨I,I,trivial⟩ I I
 rintro⟨⟨m1,eh⟩,K1⟩ ⟨le,hV,hE⟩;dsimp only at *;have o1:=oD.Jf hb qo i hi;have b1:=hb.Jf i D;have o2:=oD.Jb hb qo i hi;have b2:=hb.Jb i D;have r2:=AC W i D
 have bi:eq (W.Jb i D).1.Jd<=c+1:=by
  grind[Wl.RC,Wl.Jb,Wl.Jf,Wl.begin]
 refine sq (acY (cl 1 I (yG wb db (W.Jf i D).1 hV (W.Jf i D).2 (c+2) o1.ok qo (b1.up qo) hE) ?_));rintro c6 aE cm ⟨rfl,m2,bp,rfl,aa,ag,rfl⟩;have a5:((W.Jf i D).1.sync (W.Jf i D).2)=W.Jb i D:=rfl;rw[a5]at aa ag⊢
 have e0:W.Jh i D=if(W.Jb i D).1.code≠0 then((W.Jb i D).1,(W.Jb i D).2,(W.Jb i D).1.code)
  else if(Kd i (eq (W.Jb i D).1.Jd+1) (W.Jb i D).1.Jd (W.Jb i D).2).2.2≠0 then
   ({ (W.Jb i D).1 with Jd:=(Kd i (eq (W.Jb i D).1.Jd+1) (W.Jb i D).1.Jd (W.Jb i D).2).1,code:=(Kd i (eq (W.Jb i D).1.Jd+1) (W.Jb i D).1.Jd (W.Jb i D).2).2.2},(Kd i (eq (W.Jb i D).1.Jd+1) (W.Jb i D).1.Jd (W.Jb i D).2).2.1,(Kd i (eq (W.Jb i D).1.Jd+1) (W.Jb i D).1.Jd (W.Jb i D).2).2.2)
  else({ (W.Jb i D).1 with Jd:=(Kd i (eq (W.Jb i D).1.Jd+1) (W.Jb i D).1.Jd (W.Jb i D).2).1,Ja:=W.Ja.drop (i-W.first),first:=i},(Kd i (eq (W.Jb i D).1.Jd+1) (W.Jb i D).1.Jd (W.Jb i D).2).2.1,0):=by
  simp_all[aaa,Wl.Jh]
 rw[e0];clear e0 a5;obtain⟨Z,hZ⟩:=a9 (W.Jb i D);rw[<-hZ]at aa ag r2 o2 b2 bi⊢;clear hZ hV hE o1 b1;obtain⟨⟨op,first,Ja,Jd,next,code⟩,E⟩:=Z;dsimp only at *;obtain⟨rfl,rfl⟩:=r2;refine aw 0 I fun cB b0=>fin 0 I (th (ax b0 I (fun e9=>?_) (fun e9=>?_)))
 ·rw[aab e9];obtain⟨O,V,U,aF,aN,an,ap,av,a0,rfl,ad,ak,a4⟩:=id aa;refine au ?_;exact af I I ⟨le,_,_,I,aa,ag,I⟩
 obtain rfl:code=0:=aag.1 e9;rw[aaa Q8];obtain⟨O,V,U,aF,aN,an,ap,av,a0,rfl,ad,ak,a4⟩:=aa;dsimp only at *;have b9:=ak.Sd;obtain⟨R,hR⟩:=a9 (Kd i (eq Jd+1) Jd E);rw[<-hR];refine sk (th (sq (bk ?_)))
 refine loop (σ:=(Nat×List (Nat×Nat)×Dk)×(Ab×Nat×PH×PH)) (fun _=>[(0,Rp wb),(1,.int .u64 (i:Nat))]) (fun _=>aE)
  (fun s=>pt wb (dG db O W.first (.slice V (eq W.Ja) U) (.slice s.2.1 (eq s.1.2.1) s.2.2.1) next 0) 192::an::ap::av::s.2.2.2.1::s.2.2.2.2::hs)
  (fun s=>Kd i s.1.1 s.1.2.1 s.1.2.2=R/\eq s.1.2.1<s.1.1/\eq s.1.2.1<=eq Jd/\(∀x∈s.1.2.1,x.1<=c9+(c+1))/\aW (c+3+(eq Jd-eq s.1.2.1)) s.1.2.2/\bM aE db s.1.2.2 s.2.2.2.2/\dD 2 197 zA s.2.2.2.1 s.2.1 (eq s.1.2.1) s.2.2.1 s.1.2.1)
  (fun s=>s.1.1) ((eq Jd+1,Jd,E),(aF,aN,a0,bp)) ⟨hR.symm,Q8,aac _,fun x hx=>(b2.RW x hx).1,by dsimp only;exact o2.up qo,ag,a4⟩ sb I I ?_
 rintro⟨⟨f,J,E1⟩,⟨aq,N,bq,aT⟩⟩ ⟨hw,cT,cV,ab,oE,a2,X⟩;dsimp only at *;obtain⟨f,rfl⟩:∃g,f=g+1:=⟨f-1,qo⟩;rw[H1]at hw;refine au ?_;refine aw 1 I fun cD b3=>?_
 refine' eQ (q:=lD J i=true) 1 4 61 [56,57] b3 I I I I I I I (fun c2=>?x11) (fun cF b5=>?_)
 case x11=>
  refine cl 2 I (OS wb db O W.first _ next 0 aq N J X qo qo i) ?_;rintro c7 ct cn ⟨rfl,rfl,rfl⟩;exact mI fun cE b4=>fin 1 I (bJ b4 I I I)
 refine fin 0 I<|th (ax b5 I (fun aS=>?_) (fun aS=>?_))
 ·rw[aab ⟨qo,aS.2⟩]at hw;have ce:1<eq J:=qo
  obtain⟨s,aD⟩:∃s,J[0]?=some s:=⟨J[0]'qo,aai qo⟩
  have cd:J.headD (0,0)=s:=by
   cases J with
   |nil=>simp at ce
   |cons a l=>simpa using aD
  rw[cd]at hw;have cg:=ab s (aam aD);unfold c9 at cg;obtain⟨cs,ay,cS,g,off,aR,rfl,rfl,a6⟩:=X.Ue Q9 aD;have ay:cs=[.int .u64 s.1,.int .u64 s.2]:=ay;subst ay;have b8:=X.Sd;refine au ?_;refine bO [pt wb (dG db O W.first (.slice V (eq W.Ja) U) (.slice (some ⟨g,off,none⟩) (eq J) N) next 0) 192,pt g aR 197] 14 [0,2,4,6,8,10,12,14,16,18,20,22,25,27,29,30] Q8 qk qk (dA [13] qk 4 0 I qk I I (dA [13,12,11,10,9] qk 3 0 I qk I I (bu qk 0 0 I I qo ?_)));simp only[bf,aby,abb];refine dA [13,12] qk 1 1 I qk I (by simpa using a6 0 _ rfl) (au ?_);refine cl 0 I (qe s.1 qo) ?_;rintro c8 cu cp ⟨rfl,rfl,rfl⟩;refine aP Q8 I (aB qk 0 I (cl 0 I (Er 5 I (rV db E1 _ oE.ok qo a2 (aM s.1))) ?_))
  rintro dd cv cq ⟨aV,rfl,rfl,a3,rfl⟩;refine aP Q8 I (aB qk 0 I (cl 0 I (u6 wb db O W.first _ _ next 0 _) ?_));rintro dj cx cr ⟨_,rfl,rfl,rfl,rfl⟩;rw[aab rfl];refine au ?_;refine dU qk 0 ((E1.free (aM s.1)).2≠0) I Q8 fun cN b6=>au ?_;refine ax b6 I (fun Y=>?_) (fun Y=>?_)
  ·rw[aab Y]at hw;rw[<-hw,aab Y];refine au ?_;exact af I I ⟨le,[_,_,_,_,_],aV,I,⟨O,V,U,some ⟨g,off,none⟩,N,an,ap,av,_,I,ad,ak,X⟩,a3,I⟩
  rw[aaa Y]at hw;rw[aag.1 Y];obtain⟨a1,az,cR⟩:=X.cut 1 (eq J-1) qo;refine au ?_;refine o9 0 1 (eq J-1) I I (by show((eq J:Nat):Int)=_;omega) qo (Ji 2 0 rfl rfl rfl rfl (fin 0 rfl (bl (Cm 4 a1 rfl az ?_))));have cc:eq (J.drop 1)=eq J-1:=by simp
  refine bn (x:=((f+1,J,E1),(some ⟨g,off,none⟩,N,pt g aR 197,aT))) ((f,J.drop 1,(E1.free (aM s.1)).1),(dE (some ⟨g,off,none⟩) N 1 2,N-1,a1,aV)) sb I ?_ ⟨hw,aC,aC,fun x hx=>ab x (aaV hx),by dsimp only;exact(oE.free _).up qo,a3,?_⟩ Q8
  ·dsimp only;rw[cc];rfl
  grind
 rw[aaa (by grind)]at hw;rw[<-hw,aaa Q8];dsimp only;refine au ?_;refine bO [pt wb (dG db O W.first (.slice V (eq W.Ja) U) (.slice aq (eq J) N) next 0) 192] 14 [0,2,4,6,8,10,12,14,16,18,20,22,24,26,29] Q8 qk qk (au ?_);refine bF qk 0 I (v':=.int .u64 (i-W.first:Nat)) (by grind[bL]) (oP qk 0 (i-W.first) (eq W.Ja-(i-W.first)) I I I (by simp_all) qo (aB qk 2 I (Ji 0 0 I I I I (bQ (.inl qk) ?_))));obtain⟨aY,az,cQ⟩:=ak.cut (i-W.first) (eq W.Ja-(i-W.first)) qo;refine aI qk 0 I (th (sq (WC.RV 3 aY I az (rg (au ?_)))));have bb:eq (W.Ja.drop (i-W.first))=eq W.Ja-(i-W.first):=by simp
 refine af I I ⟨le,[_,_,_,_,_],aT,I,⟨O,dE V U (i-W.first) 1,U-(i-W.first),aq,N,an,ap,aY,bq,?_,ad,?_,X⟩,a2,I⟩
 ·dsimp only;rw[bb];rfl
 grind
end
section
def rf{c D}(o:aW c D):∀k∈aU D,0<=k/\k<=18446744073709551615:=fun k J=>o.ar k ((dW _).mem_iff.1 J)
def qT{c D}(o:aW c D):eq (aU D)<=c:=by
 unfold aU;rw[(dW _).length_eq,aaM];exact o.len
def yq{l}{j:Nat}{a}(h:l[j]?=some a):(qz l)[j]?=some (.int .u64 a):=by simp[qz,h]
def MT{dh:PH}{m:Ac}(wb db W)(hW:dK K wb db W m)(D c)(oD:aW c D)(hc:c<=499999000)(hb:cK c W)(hd:bM K db D dh)(first)(aV:first<2^64):
  ai w0 201 [Rp wb,.int .u64 (first:Nat)] K (m++dh::hs)
   (fun v K' hs'=>Le K K'/\∃m' Y,hs'=m'++Y::hs/\dK K' wb db (W.reset first D).1 m'/\bM K' db (W.reset first D).2.1 Y/\v=.int .i64 (W.reset first D).2.2):=by
 obtain⟨ob,aL,cL,aO,cO,oH,rH,gL,gO,rfl,av,hL,hO⟩:=id hW;refine enter Tryz.func201 qk I I I (acY (fin 1 I (th (sq (bk (acY (aX 3 0 I I I (aw 0 I fun aN ae=>fin 1 I (th (ax ae I (fun e2=>?_) (fun e2=>?_)))))))))))
 ·have e:W.reset first D=(W,D,W.code):=by unfold Wl.reset;rw[aab e2]
  rw[e];exact acY (aX 3 0 I I I (fin 1 I (ac0 (rB (rT (af I I ⟨Cg _,_,_,I,hW,hd,I⟩))))))
 have U:W.code=0:=aag.1 e2;refine acY (aw 1 I fun aR ag=>fin 1 I (th (ax ag I (fun e4=>?_) (fun e4=>?_))))
 ·have e:W.reset first D=(W,D,51):=by unfold Wl.reset;rw[aaa e2,aab (by unfold bt;omega)]
  rw[e];exact acY (fin 1 I (ac0 (rB (rT (af I I ⟨Cg _,_,_,I,hW,hd,I⟩)))))
 have e0:W.reset first D=if(Kb (aU D) D).2≠0 then({W with code:=(Kb (aU D) D).2},Kb (aU D) D)
   else({W with op:=none,Jd:=[],Ja:=[],first:=first},(Kb (aU D) D).1,0):=by unfold Wl.reset;rw[aaa e2,aaa (by unfold bt;omega)]
 rw[e0];clear e0;obtain⟨R,hR⟩:=a9 (Kb (aU D) D);rw[<-hR];have ab:=rf oD;have aq:=qT oD;obtain⟨l,hl⟩:=a9 (aU D);rw[<-hl]at ab aq hR;obtain⟨op,N,Ja,Jd,next,code⟩:=W;dsimp only at *;subst U;refine sk (bl (acU (aX 3 0 I I I (cl 0 I (Er 5 I (yY db D c oD qo hd)) ?_))));rintro aY X ay ⟨_,rfl,rfl,le,ao,cc,rfl,xA⟩;rw[<-hl]at xA⊢;refine fin 2 I (th (bk ?_))
 refine loop (σ:=Nat×Dk×PH) (fun s=>[(0,Rp wb),(1,.int .u64 (first:Nat)),(24,.slice ao (eq l) cc),(25,.int .i64 (eq l)),(26,.int .i64 s.1)]) (fun _=>X)
  (fun s=>pt wb (dG db ob N (.slice aL (eq Ja) cL) (.slice aO (eq Jd) cO) next 0) 192::oH::rH::gL::gO::s.2.2::hs)
  (fun s=>s.1<=eq l/\Kb (l.drop s.1) s.2.1=R/\aW (c+s.1) s.2.1/\bM X db s.2.1 s.2.2) (fun s=>eq l-s.1) (0,D,_) ⟨aad _,hR.symm,oD,hd.le le⟩ ⟨rfl,rfl,rfl,rfl,rfl,trivial⟩ rfl rfl ?_
 rintro⟨j,E,eh⟩ ⟨hj,O,oE,hE⟩;dsimp only at *;refine acY (aw 0 I fun aS ak=>fin 0 I (th (sq (ax ak I (fun e6=>?_) (fun e6=>?_)))))
 ·have V:j<eq l:=qo
  obtain⟨a,ha⟩:∃a,l[j]?=some a:=⟨l[j],aai V⟩;have ap:=ab a (aam ha);obtain⟨n,rfl⟩:=aa5 ap.1;rw[aaI V,show l[j]=((n:Nat):Int)from by rw[aai V]at ha;exact aaW ha]at O;unfold Kb at O;refine sk (th (sq (bk (acY (ej 0 j I I I xA (yq ha) fun aF ad=>ld 0 I (.inl I) ad (fin 1 I (acV (ar 1 I (mj .u64 n 4) (bc 0 I (fun am=>?_) (fun am=>?_))))))))))
  ·rw[aab qo]at O;refine aX 5 0 I I I (cl 1 I (Er 5 I (rV db E _ oE.ok qo hE ((n:Nat):Int))) ?_);rintro a0 aD az ⟨Z,rfl,rfl,aa,rfl⟩;refine cl 0 I (u6 wb db ob N _ _ next 0 _) ?_;rintro a1 aE aA ⟨_,rfl,rfl,rfl,rfl⟩;rw[aab rfl];refine aw 0 I fun aT an=>fin 1 I (th (ax an I (fun J=>?_) (fun J=>?_)))
   ·rw[aaa J]at O;rw[<-O,aab J];refine acY (aX 3 0 I I I (fin 1 I (ac0 (rB (rT (rT (rB (rT ?_))))))));exact af I I ⟨le,[_,_,_,_,_],Z,I,⟨ob,aL,cL,aO,cO,oH,rH,gL,gO,I,av,hL.imp fun _ _ h=>h.le le,hO⟩,aa,I⟩
   have J:=aag.1 J;rw[aab J]at O;rw[J];refine sk (acW (cZ j ?_));exact bn (x:=(j,E,eh)) (j+1,(E.free ((n:Nat):Int)).1,Z) sb I I ⟨aC,O,(oE.free _).up aC,aa⟩ aC
  rw[aaa qo]at O;refine fin 11 I (th (bP I (sk (acW (cZ j ?_)))));exact bn (x:=(j,E,eh)) (j+1,E,eh) sb I I ⟨aC,O,oE.up aC,hE⟩ aC
 obtain rfl:j=eq l:=qo
 rw[aa6]at O;have O:(E,(0:Int))=R:=O;rw[<-O,aaa Q8];refine ex (xt (xt (xb (acV (Ji 7 0 I I I I (Ji 2 0 I I I I (Ji 2 0 I I I I (Ji 2 0 I I I I (fin 0 I (acV (fin 1 I (ac0 (Cm 1 em I (.inr I) (Cm 2 em I (.inr I) (Cm 3 em I (.inr I) (Cm 4 em I (.inr I) ?_))))))))))))))));exact af I I ⟨le,[_,_,_,_,_],eh,I,⟨none,none,0,none,0,em,em,em,em,I,⟨I,I,I⟩,dD.nil _ _,dD.nil _ _⟩,hE,I⟩
end
section
def tw(D num f n):lW D num (f+1) n=match D.read (aM num) n with
  |none=>[]
  |some s=>(s.drop 1).take (iM s)++(if iM s<63 then []else lW D num f (n+1)):=rfl
theorem Ds(D num):∀(f n:Nat),eq (lW D num f n)<=63*f
 |0,n=>by simp[lW]
 |f+1,n=>by
  rw[tw];have J:=Ds D num f (n+1)
  split
  ·simp
  rename_i s _;have:iM s<=63:=by unfold iM;omega
  rw[aaj,aal]
  split
  ·simp;omega
  omega
theorem ww(D num):eq (fY D num)<=4128831:=Ds D num 65537 0
def Dk.Ok.TD{c}{D:Dk}(o:D.Ok c)(a n)(h:65536<=n):D.read a n=none:=by
 unfold Dk.read;cases hs:D.sec a n with
 |none=>rfl
 |some s=>
  have hm:=gS hs;obtain⟨l,J,N⟩:=Bb _ hm;rw[N]at hm;have:=o.at_ _ J _ hm;omega
def O9{dh:PH}(db D c)(oD:D.Ok c)(hc:c<=1000000000)(hd:bM K db D dh)(num)(hn:num<=2^61):
  ai w0 171 [Rp db,.int .u64 (num:Nat)] K (dh::hs)
   (fun v K' hs'=>∃h',hs'=h'::hs/\h'=dh/\Le K K'/\∃ao k,v=.slice ao (eq (fY D num)) k/\aj K' ao (eq (fY D num)) k 1 (bv (fY D num))):=by
 refine ent Tryz.func171 ?_;refine acY (fin 1 I (acV (fin 1 I (acV (fin 1 I (th (bk (Es ?_))))))))
 refine loop (σ:=(Nat×Aa)×(Ab×Nat×PH)×PH) (fun s=>[(0,Rp db),(1,.int .u64 (num:Nat)),(5,.slice s.2.1.1 (eq s.1.2) s.2.1.2.1),(6,.int .i64 s.1.1)]) (fun s=>s.2.2) (fun s=>s.2.1.2.2::dh::hs)
  (fun s=>s.1.2++lW D num (65537-s.1.1) s.1.1=fY D num/\s.1.1<=65536/\Le K s.2.2/\aJ s.2.1.2.2 s.2.1.1 (eq s.1.2) s.2.1.2.1 5 1 (bv s.1.2)) (fun s=>65537-s.1.1) ((0,[]),(none,0,em),K) ⟨by dsimp only;rw[abl,abT,fY],Q8,Cg _,aJ.nil _ _⟩ ⟨rfl,rfl,rfl,rfl,trivial⟩ rfl rfl ?_
 rintro⟨⟨n,b⟩,⟨ao,k,g⟩,K1⟩ ⟨J,aR,le,o⟩;dsimp only at *;rw[show 65537-n=(65536-n)+1 from qo,tw]at J;have av:=ww D num
 have aN:eq b<=4128831:=by
  grind
 refine sq (bk (acY (cl 2 I (qe num hn) ?_)));rintro aV ab ay ⟨rfl,rfl,rfl⟩;refine cl 1 I (Er 1 I (y7 db D c oD qo (hd.le le) (aM num) ((n:Nat):Int))) ?_;rintro aY ad az ⟨_,rfl,rfl,X,⟨hr,rfl⟩|⟨s,aE,cs,hr,aT,rfl,xs⟩⟩
 ·rw[hr]at J;simp only[aaw]at J;refine fin 5 I (acU (fin 2 I (th (dk I (acY (fin 2 I (ac0 (rT (rB (rT (rT (rB (Ei fun K2 l1 l2=>af I I ⟨_,I,I,(le.trans X).trans l1,ao,k,by rw[<-J],?_⟩)))))))))))));rw[<-J];exact o.Ni.le l2
 rw[hr]at J;dsimp only at J
 have aS:n<65536:=by
  rcases aaz n 65536 with h|h
  ·exact h
  rw[oD.TD _ _ qo]at hr;cases hr
 obtain⟨c0,Z⟩:∃c0,s[0]?=some c0:=⟨s[0]'qo,aai qo⟩;have ag:s.getD 0 0=c0:=by rw[aaR,Z];rfl
 have am:(bv s)[0]?=some (.int .u8 c0.toNat):=by simp[bv,Z]
 have aO:=c0.toNat_lt;have hu:iM s=min c0.toNat 63:=by unfold iM;rw[ag]
 obtain⟨u,ak⟩:=a9 (iM s);have aA:u<=63:=qo
 rw[<-ak]at J hu;obtain⟨t,ht⟩:=a9 ((s.drop 1).take u);have V:eq t=u:=by simp_all
 rw[<-ht]at J;refine au ?_;refine ej 1 0 I I I xs am fun aD aa=>ld 0 I (.inl I) aa (ar 0 I (ba qo) ?_)
 refine ar 0 I (v':=.int .i64 u) (by
  congr 1
  omega) ?_
 refine au ?_;refine ar 3 I (ba (x:=((1+u:Nat):Int)) qo) ?_
 refine sl 0 1 u I xs I I qo (ys:=bv t) (by
  simp_all[bv]) fun aq aL ap=>?_
 refine app 0 0 I I o (.inl I) ap I Q9 (gE _) (by show(eq b+u)*1<=_;omega) As fun N U Y an=>au ?_;have O:aJ Y N (eq (b++t)) U 5 1 (bv (b++t)):=pV an (by rw[aaj,V]) (by rw[kT]);refine aw 1 I fun aF ae=>fin 0 I (th (ax ae I (fun e3=>?_) (fun e3=>?_)))
 ·rw[aab qo,aaw]at J;refine acY (fin 2 I (ac0 (rB (rT (rT (rB (Ei fun K2 l1 l2=>af I I ⟨_,I,I,(le.trans X).trans l1,N,U,by rw[<-J,aaj,V],?_⟩)))))));rw[<-J];exact O.Ni.le l2
 rw[aaa qo,<-aaH]at J;refine sk (acW (eP 1 n ?_));refine fin 1 I (bn (x:=((n,b),(ao,k,g),ab)) ((n+1,b++t),(N,U,Y),ad) ⟨I,I,?_,I,trivial⟩ I I ⟨by simp_all,aC,le.trans X,O⟩ aC);dsimp only;rw[aaj,V]
 rfl
def GH{h hb:PH}{R}(rb s)(r:eU rb hb s h):ai w0 172 [Rp rb] K (h::R) (fun v J hs'=>J=K/\hs'=h::R/\v=.int .i64 s.2):=by
 obtain⟨ao,cap,rfl,x⟩:=r;refine cP Tryz.func172 ?_;exact af I I ⟨I,I,I⟩
def LU{m:Ac}(wb db W)(hW:dK K wb db W m)(hb:W.first+eq W.Ja<=bt)(hr:eq W.Ja<=1000000000000)(ay:eq W.Jd<=10000000000)(n idx)(hi:idx<=bt):
  ai w0 114 [Rp wb,.agg #[.int .u64 (n:Nat),.int .u64 (idx:Nat)]] K (m++hs)
   (fun v K' hs'=>K'=K/\∃m',hs'=m'++hs/\dK K wb db (W.follows n idx).1 m'/\v=.bool (W.follows n idx).2):=by
 obtain⟨ob,aL,cL,O,U,oH,rH,gL,gO,rfl,aa,V,hO⟩:=hW;obtain⟨op,first,Ja,Jd,next,code⟩:=W;dsimp only at *;unfold bt at hb hi;refine ent Tryz.func114 ?_;refine acY (bx 0 I fun N=>Ez 0 (pt N #[.int .u64 (n:Nat),.int .u64 (idx:Nat)] 197) (fin 1 I (th ?_)))
 refine jn (σ:=Nat×List (Aa)×(Ab×Nat×PH)) (fun _=>[(0,Rp wb),(3,Rp N)])
  (fun s=>pt N #[.int .u64 (n:Nat),.int .u64 (idx:Nat)] 197::pt wb (dG db ob s.1 (.slice s.2.2.1 (eq s.2.1) s.2.2.2.1) (.slice O (eq Jd) U) next code) 192::oH::rH::s.2.2.2.2::gO::hs)
  (fun s=>dD 1 32 (qi K) s.2.2.2.2 s.2.2.1 (eq s.2.1) s.2.2.2.1 s.2.1/\s.1<=idx/\idx-s.1<=eq s.2.1/\(Wl.follows ⟨op,first,Ja,Jd,next,code⟩ n idx)=(⟨op,s.1,s.2.1.take (idx-s.1),Jd++[(n,idx)],next,code⟩,true)) ?_ ?_
 ·refine bk (sq (bC [0,1] 16 [0,2,4,6,8,10,12,14,16,18,20,22,24,26,28,30] ?_));refine au ?_;refine dP qk 1 (eq Jd=0) I Q8 (fun h1=>?_) (fun h1=>?_)
  ·have e:(Wl.follows ⟨op,first,Ja,Jd,next,code⟩ n idx)=(⟨op,idx,[],Jd++[(n,idx)],next,code⟩,true):=by unfold Wl.follows;rw[aab (.inl h1)]
   refine aI qk 10 I (th (dk I (rg (aX 3 0 I I I (Ji 2 1 I I I I (Ji 2 1 I I I I (fin 0 I (bl (Cm 4 em I (.inr I) ?_)))))))));exact jx (idx,[],(none,0,em)) ⟨dD.nil _ _,aac _,qo,by rw[e];simp⟩ sb rfl rfl
  refine au ?_;refine dU qk 0 (idx<first) I Q8 fun an ae=>au ?_;refine ax ae I (fun e2=>?_) (fun e2=>?_)
  ·have e:(Wl.follows ⟨op,first,Ja,Jd,next,code⟩ n idx)=(⟨op,idx,[],Jd++[(n,idx)],next,code⟩,true):=by unfold Wl.follows;rw[aab (.inr e2)]
   refine rg (aX 3 0 I I I (Ji 2 1 I I I I (Ji 2 1 I I I I (fin 0 I (bl (Cm 4 em I (.inr I) ?_))))));exact jx (idx,[],(none,0,em)) ⟨dD.nil _ _,aac _,qo,by rw[e];simp⟩ sb rfl rfl
  refine sq (bC [0,1] 15 [0,2,4,6,8,10,12,14,16,18,20,22,24,26,28] ?_);refine au ?_;refine bF qk 0 I (v':=.int .u64 (idx-first:Nat)) (by grind[bL]) (au ?_);refine bF qk 1 I (bL (x:=((eq Ja:Nat):Int)) qo) (dU qk 0 (eq Ja<idx-first) I Q8 fun ap ag=>au ?_);refine ax ag I (fun e3=>?_) (fun e3=>?_)
  ·have e:(Wl.follows ⟨op,first,Ja,Jd,next,code⟩ n idx)=(⟨op,first,Ja,Jd,next,code⟩,false):=by simp_all[Wl.follows]
   rw[e];refine au ?_;refine jr (Bh ?_);exact af I I ⟨I,[_,_,_,_,_],I,⟨ob,aL,cL,O,U,oH,rH,gL,gO,I,aa,V,hO⟩,I⟩
  have e:(Wl.follows ⟨op,first,Ja,Jd,next,code⟩ n idx)=(⟨op,first,Ja.take (idx-first),Jd++[(n,idx)],next,code⟩,true):=by simp_all[aaa,Wl.follows]
  exact sk (bl (jx (first,Ja,(aL,cL,gL)) ⟨V,qo,aC,e⟩ sb rfl rfl))
 clear V;rintro⟨J,rs,⟨aR,cR,gR⟩⟩ ⟨V,h1,h2,e⟩;dsimp only at *;rw[e];have am:=V.Sd;refine sq (bO [pt N #[.int .u64 (n:Nat),.int .u64 (idx:Nat)] 197,pt wb (dG db ob J (.slice aR (eq rs) cR) (.slice O (eq Jd) U) next code) 192] 15 [0,2,4,6,8,10,12,14,16,18,20,22,24,26,28,31] Q8 qk qk (au ?_));refine bF qk 0 I (v':=.int .u64 (idx-J:Nat)) (by grind[bL]) (oP qk 0 0 (idx-J) I I I Q8 qo (aB qk 2 I (Ji 0 1 I I I I (bQ (.inl qk) ?_))));obtain⟨Y,ak,av⟩:=V.cut 0 (idx-J) qo;have Z:eq (rs.take (idx-J))=idx-J:=by rw[aal];omega
 refine aI qk 0 I (th (WC.RV 4 Y I ak (sq (bO [pt wb (dG db ob J (.slice (dE aR cR 0 1) (idx-J) (cR-0)) (.slice O (eq Jd) U) next code) 192,pt N #[.int .u64 (n:Nat),.int .u64 (idx:Nat)] 197] 10 [0,2,4,6,8,10,13,15,16,18,21] (by intro h hm;simp at hm;rcases hm with rfl|rfl;exact aba _ (abp ..);simp) qk qk (bR qk 4 0 rfl qk rfl rfl (ln qk 0 1 rfl qk rfl qk (aB qk 0 rfl (lit 0 #[.int .u64 (n:Nat),.int .u64 (idx:Nat)] rfl Q9 qk fun aq=>?_))))))))
 have hA:∀h∈[pt wb (dG db ob J (.slice (dE aR cR 0 1) (idx-J) (cR-0)) (.slice O (eq Jd) U) next code) 192,pt N #[.int .u64 (n:Nat),.int .u64 (idx:Nat)] 197],∀x:PH,∀t:Ac,h∈x::pt N #[.int .u64 (n:Nat),.int .u64 (idx:Nat)] 197::pt wb (dG db ob J (.slice (dE aR cR 0 1) (idx-J) (cR-0)) (.slice O (eq Jd) U) next code) 192::t:=by
  simp
 refine oT [pt wb (dG db ob J (.slice (dE aR cR 0 1) (idx-J) (cR-0)) (.slice O (eq Jd) U) next code) 192,pt N #[.int .u64 (n:Nat),.int .u64 (idx:Nat)] 197] (fun h hm=>hA h hm _ _) Q8 I (au ?_);refine nB 0 6 [.int .u64 (n:Nat),.int .u64 (idx:Nat)] (n,idx) I I I hO I I (by simp[Value.oneCell']) I Q9 (by show(eq Jd+1)*16<=_;omega) As fun X ab ad az=>oT [pt wb (dG db ob J (.slice (dE aR cR 0 1) (idx-J) (cR-0)) (.slice O (eq Jd) U) next code) 192,pt N #[.int .u64 (n:Nat),.int .u64 (idx:Nat)] 197] (fun h hm=>hA h hm _ _) Q8 rfl (aB qk 2 rfl (Ji 0 2 rfl rfl rfl rfl (bQ (.inl qk) (aI qk 0 rfl (th (Bg (Bg (acY (au ?_)))))))));refine af I I ⟨I,[_,_,_,_,_],I,⟨ob,dE aR cR 0 1,cR-0,X,ab,oH,rH,Y,ad,?_,aa,?_,?_⟩,I⟩
 ·dsimp only;rw[Z,aaj];rfl
 all_goals simp_all
def OA{rd:PH}{m:Ac}(wb db b8 b12 W)(U:dK K wb db W m)(hb:W.first+eq W.Ja<=bt)(Y:eq W.Ja<=1000000000000)(O:eq W.Jd<=10000000000)(n idx)(hi:idx<=bt):
  ai w0 113 [.int .u64 (idx:Nat),Rp b8,Rp b12] K (m++(rd::pt b12 #[.int .u64 (n:Nat)] 29::pt b8 #[Rp wb] 116::hs))
   (fun v V hs'=>V=K/\∃J,hs'=J++(rd::pt b12 #[.int .u64 (n:Nat)] 29::pt b8 #[Rp wb] 116::hs)/\dK K wb db (W.follows n idx).1 J/\v=.bool (W.follows n idx).2):=by
 obtain⟨ob,aL,cL,aO,cO,oH,rH,gL,gO,rfl,X,hL,hO⟩:=id U;refine cP Tryz.func113 ?_;refine bd 1 (.agg #[.int .u64 (n:Nat),.int .u64 (idx:Nat)]) I Aq (cl 0 I (LU wb db W U hb Y O n idx hi) ?_);rintro v9 K9 Z ⟨rfl,J,rfl,N,rfl⟩;refine au ?_;exact af I I ⟨I,J,I,N,I⟩
def Oz{rd N:PH}{m:Ac}(wb db b8 W)(hW:dK K wb db W m)(hr:eq W.Ja<=1000000000000)(r ao k)(x:aj K ao (eq r) k 1 (bv r)):
  ai w0 115 [.slice ao (eq r) k,Rp b8] K (m++(rd::N::pt b8 #[Rp wb] 116::hs))
   (fun v Y hs'=>Y=K/\∃X,hs'=X++(rd::N::pt b8 #[Rp wb] 116::hs)/\dK K wb db {W with Ja:=W.Ja++[r]} X):=by
 obtain⟨ob,aL,cL,Z,cO,oH,rH,gL,gO,rfl,V,hL,hO⟩:=id hW;refine ent Tryz.func115 ?_;refine bC [0,7] 10 [0,2,4,6,8,10,13,15,16,18,21] ?_;refine au ?_;refine lit 0 #[.slice ao (eq r) k] I Q9 qk fun b9=>aP Q8 I (aB qk 0 I (nB 0 4 [.slice ao (eq r) k] r I I I hL ⟨ao,k,I,x⟩ I (by simp[Value.oneCell']) I Q9 (by show(eq W.Ja+1)*24<=_;omega) As fun J O U aa=>aP Q8 rfl (aB qk 2 rfl (Ji 0 1 rfl rfl rfl rfl (bQ (.inl qk) (aI qk 0 rfl (Bh ?_)))))));refine bZ I ⟨I,[_,_,_,_,_],I,⟨ob,J,O,Z,cO,oH,rH,U,gO,?_,V,?_,hO⟩⟩
 ·dsimp only;rw[aaj];rfl
 simp_all
end
section
def Bt{m b}(h:(bW m (b,0)).2.2=0):eq (bW m (b,0)).2.1<eq b/\(eq (bW m (b,0)).1:Int)<=m.toNat:=by
 unfold bW at h⊢;dsimp only at h⊢
 by_cases J:(aG m.toNat (b,0)).2.2=0
 ·rw[aab J]at h⊢;obtain⟨N,O⟩:=pH J
  grind[aK]
 rw[aaa J]at h;exact absurd h J
def qO(f r):jR (f+1) r=if(bW 512 r).2.2=0 then(bW 512 r).1::jR f (bW 512 r).2 else []:=rfl
def tW{l}{j n:Nat}(h:l[j]?=some n):(jd l)[j]?=some (.int .u64 n):=by simp[jd,h]
def DC(a b):jd (a++b)=jd a++jd b:=by simp[jd]
def BE(a b):ci (a++b)=ci a++ci b:=by simp[ci]
def A5(a x):iL (a++[x])=if x%4=1 then x.toNat/4+1 else iL a:=by
 grind[iL,ci]
theorem qV(a):eq (ci a)<=eq a:=by
 simp[acq,ci]
def vG(g n r D):wsettle g (n::r) D=if(fO D g n).2=0 then wsettle g r (fO D g n).1 else fO D g n:=rfl
def aW.TG{c D}(o:aW c D)(g n):aW (c+1) (fO D g n).1:=by
 unfold fO
 split
 ·exact o.free _
 exact o.sync _
theorem aW.settle:∀(l:Af) (g:Af) (D:Dk) (c:Nat),aW c D->aW (c+eq l) (wsettle g l D).1
 |[],g,D,c,o=>o.up qo
 |n::r,g,D,c,o=>by
  rw[vG]
  split
  ·exact(aW.settle r g _ _ (o.TG g n)).up (by simp only[aas];omega)
  exact(o.TG g n).up (by simp only[aas];omega)
theorem eU.up{rb hb hb' s h}(l:Le hb hb')(r:eU rb hb s h):eU rb hb' s h:=let⟨a,c,J,N⟩:=r;⟨a,c,J,N.le l⟩
def Oj{dh:PH}{m:Ac}(wb db Z N W)(hW:dK K wb db W m)(hb:W.first+eq W.Ja<=bt)(hr:eq W.Ja<=900000000000)(bb:eq W.Jd<=10000000000)(D c)(oD:D.Ok c)(hc:c<=1000000000)(hd:bM K db D dh)(n)(hn:n<=2^61):
  ai w0 112 [Rp db,.int .u64 (n:Nat),.func (.func 113) #[] #[Rp Z,Rp N],.func (.func 115) #[] #[Rp Z]] K
   (m++(pt N #[.int .u64 (n:Nat)] 29::pt Z #[Rp wb] 116::dh::hs))
   (fun v K' hs'=>Le K K'/\∃m',hs'=m'++(pt N #[.int .u64 (n:Nat)] 29::pt Z #[Rp wb] 116::dh::hs)/\dK K' wb db (kx D n W).1 m'/\v=.tuple #[.bool (kx D n W).2.1,.bool (kx D n W).2.2]):=by
 obtain⟨ob,aL,cL,aO,cO,oH,rH,gL,gO,rfl,cp,hL,hO⟩:=id hW;obtain⟨X,hX⟩:=a9 (fY D n);have a6:=ww D n;rw[<-hX]at a6
 have e0:kx D n W=if(aG bt (X,0)).2.2≠0 then(W,true,true)
  else if(W.follows n (aG bt (X,0)).1).2=false then((W.follows n (aG bt (X,0)).1).1,false,false)
  else({ (W.follows n (aG bt (X,0)).1).1 with Ja:=(W.follows n (aG bt (X,0)).1).1.Ja++jR (eq X+1) (aG bt (X,0)).2},true,false):=by rw[hX];rfl
 rw[e0];clear e0;refine cP Tryz.func112 ?_;refine cl 2 I (Er 7 I (O9 db D c oD hc hd n hn)) ?_;rintro cs b3 bp ⟨dh,rfl,rfl,le,ao,k,rfl,xX⟩;rw[<-hX]at xX⊢;refine cl 0 I (rR ao k X (.inl I) xX qo) ?_;rintro ct b4 bq ⟨rfl,rb,rd,ch,rfl,rfl,ir⟩;refine Bi (aap _ _ _) (Eg fun K1 l1 l2=>?_)
 replace ir:=ir.up l2
 refine Bi (hs':=[_,_,_,_,_]++(rd::_::_::_::hs)) (aaQ (l₁:=[_,_,_,_,_])).symm ?_;have O:=le.trans l1;have aq:dK K1 wb db W [pt wb (dG db ob W.first (.slice aL (eq W.Ja) cL) (.slice aO (eq W.Jd) cO) W.next W.code) 192,oH,rH,gL,gO]:=hW.le O;refine au ?_;refine cl 1 I (Er 5 I (ie (.inl I) bt (X,0) aC ir)) ?_;rintro cu b5 bs ⟨bm,rfl,rfl,rfl,aa⟩;obtain⟨U,hU⟩:=a9 (aG bt (X,0));have a1:=(pI bt X 0).2;have a0:U.2.2=0->U.1<=bt:=by rw[hU];exact fun h=>(pH h).2
 rw[<-hU]at aa a1⊢;refine au ?_;refine cl 1 I (Ck 5 I (GH rb U.2 aa)) ?_;rintro cv b6 bB ⟨rfl,rfl,rfl⟩;refine aw 0 I fun b9 aR=>fin 0 I (th (ax aR I (fun e2=>?_) (fun e2=>?_)))
 ·rw[aab e2];refine acY (fin 2 I (ac0 (rT (Ej 5 I ?_))));exact bS I I I ⟨O,[_,_,_,_,_],I,aq,I⟩
 have e2:=aag.1 e2;have a2:=a0 e2;rw[aaa (by rw[e2];simp)];refine au ?_;refine cl 2 I (OA wb db Z N W aq hb qo bb n U.1 a2) ?_;rintro cx aE bV ⟨rfl,m2,rfl,J,rfl⟩;obtain⟨V,hV⟩:=a9 (W.follows n U.1)
 have a3:eq V.1.Ja<=eq W.Ja:=by
  grind[Wl.follows]
 rw[<-hV]at J⊢;refine mI fun ca aS=>cG 0 _ I (lU aS) fun cc aT=>fin 0 I (th (ax aT I (fun e3=>?_) (fun e3=>?_)))
 ·have e3:V.2=false:=by simp_all
  rw[aab e3];obtain⟨az,ae,ak,ag,am,ay,aA,an,ap,rfl,_⟩:=id J;refine acY (fin 2 I (ac0 (rT (Ej 5 I ?_))));exact bS I I I ⟨O,[_,_,_,_,_],I,J,I⟩
 have e3:V.2=true:=aag.1 e3;rw[aaa (by rw[e3];simp)];refine sk (th (bk ?_))
 refine loop (σ:=(Wl×Rd×Nat)×(Ac×PH)×PH) (fun _=>[(3,.func (.func 115) #[] #[Rp Z]),(10,Rp rb)]) (fun s=>s.2.2) (fun s=>s.2.1.1++(s.2.1.2::pt N #[.int .u64 (n:Nat)] 29::pt Z #[Rp wb] 116::dh::hs))
  (fun s=>{s.1.1 with Ja:=s.1.1.Ja++jR s.1.2.2 s.1.2.1}={V.1 with Ja:=V.1.Ja++jR (eq X+1) U.2}/\eq s.1.2.1.1<s.1.2.2/\s.1.2.1.2=0/\eq s.1.1.Ja+eq s.1.2.1.1<=999000000000/\eq s.1.2.1.1<=4128831/\Le K s.2.2/\dK s.2.2 wb db s.1.1 s.2.1.1/\eU rb s.2.2 s.1.2.1 s.2.1.2) (fun s=>s.1.2.2)
  ((V.1,U.2,eq X+1),(m2,bm),aE) ⟨rfl,aC,e2,aC,aC,O,J,aa⟩ sb rfl rfl ?_
 clear J a3;clear m2;rintro⟨⟨Y,⟨rs,re⟩,f⟩,⟨m2,cr⟩,K2⟩ ⟨hw,cn,rfl,ck,cq,av,J,bi⟩;dsimp only at *;obtain⟨f,rfl⟩:∃g,f=g+1:=⟨f-1,qo⟩;rw[qO]at hw;obtain⟨G,hG⟩:=a9 (bW 512 (rs,0));have aY:G.2.2=0->eq G.2.1<eq rs:=by rw[hG];exact fun h=>(Bt h).1
 rw[<-hG]at hw;obtain⟨az,ae,ak,ag,am,ay,aA,an,ap,rfl,bo,ce,cg⟩:=id J;refine bk (acY (cl 1 I (Ed 5 I (p7 (.inl I) 512 Q9 (rs,0) aC bi)) ?_));rintro cy b7 b0 ⟨aD,_,rfl,rfl,hx,aN,c',rfl,rfl,ox,ab⟩;rw[<-hG]at ox ab⊢;refine Eg fun K3 l3 l4=>au ?_;refine cl 1 I (Ck 5 I (GH rb G.2 (ab.up l3))) ?_;rintro cz aF b1 ⟨rfl,rfl,rfl⟩;refine aw 0 I fun cd aV=>fin 0 I (th (ax aV I (fun e5=>?_) (fun e5=>?_)))
 ·rw[aaa e5,aaw]at hw;refine acY (fin 2 I (ac0 (rT (rB (rT (rB (Ej 5 I ?_)))))));rw[<-hw];exact bS I I I ⟨av.trans l3,[_,_,_,_,_],I,J.le l3,I⟩
 have e5:=aag.1 e5;have cm:=aY e5;rw[aab e5]at hw;refine sk (acX ?_);have a4:dK aF wb db Y [pt wb (dG db az Y.first (.slice ae (eq Y.Ja) ak) (.slice ag (eq Y.Jd) am) Y.next Y.code) 192,ay,aA,an,ap]:=J.le l3;refine cl 2 I (Oz wb db Z Y a4 qo G.1 aN c' (ox.Ni.le l4)) ?_;rintro cA ad b2 ⟨rfl,m5,rfl,a5⟩;refine fin 0 I (bl ?_);refine bn (x:=((Y,(rs,0),f+1),(m5,aD),ad)) (({Y with Ja:=Y.Ja++[G.1]},G.2,f),(m5,aD),ad) sb I I ⟨by dsimp only;rw[aaH];exact hw,aC,e5,by grind,aC,av.trans l3,a5,ab.up l3⟩ aC
def LC{dh x:PH}{m:Ac}(wb db W)(hW:dK K wb db W m)(D c)(oD:aW c D)(hc:c<=1000000000)(hd:bM K db D dh)(h0:W.next=0):
  ai w0 111 [Rp wb] K (m++(x::dh::hs))
   (fun v K' hs'=>Le K K'/\∃m',hs'=m'++(x::dh::hs)/\dK K' wb db {W with next:=iL (aU D)} m'/\∃ao k,v=.slice ao (eq (ci (aU D))) k/\aj K' ao (eq (ci (aU D))) k 1 (jd (ci (aU D)))):=by
 obtain⟨ob,aL,cL,aO,cO,oH,rH,gL,gO,rfl,av,hL,hO⟩:=hW;obtain⟨op,first,Ja,Jd,next,code⟩:=W;dsimp only at *;subst h0;have V:=rf oD;have am:=qT oD;obtain⟨l,hl⟩:=a9 (aU D);rw[<-hl]at V am⊢;refine cP Tryz.func111 ?_;refine cl 0 I (Er 6 I (yY db D c oD qo hd)) ?_;rintro aN aa az ⟨dh,rfl,rfl,le,ao,cc,rfl,xA⟩;rw[<-hl]at xA⊢;refine fin 2 I (th (bk (Es ?_)))
 refine loop (σ:=Nat×(Ab×Nat×PH)) (fun s=>[(0,Rp wb),(3,.slice s.2.1 (eq (ci (l.take s.1))) s.2.2.1),(10,.slice ao (eq l) cc),(11,.int .i64 (eq l)),(12,.int .i64 s.1)]) (fun _=>aa)
  (fun s=>s.2.2.2::pt wb (dG db ob first (.slice aL (eq Ja) cL) (.slice aO (eq Jd) cO) (iL (l.take s.1)) code) 192::oH::rH::gL::gO::x::dh::hs)
  (fun s=>s.1<=eq l/\aJ s.2.2.2 s.2.1 (eq (ci (l.take s.1))) s.2.2.1 29 1 (jd (ci (l.take s.1)))) (fun s=>eq l-s.1) (0,(none,0,em)) ⟨aad _,aJ.nil _ _⟩ ⟨rfl,rfl,rfl,rfl,rfl,trivial⟩ rfl rfl ?_
 rintro⟨j,⟨Y,Z,gn⟩⟩ ⟨hj,o⟩;dsimp only at *;refine acY (aw 0 I fun aD ae=>au ?_);refine ax ae I (fun e2=>?_) (fun e2=>?_)
 ·have ap:j<eq l:=qo
  obtain⟨a,ha⟩:∃a,l[j]?=some a:=⟨l[j],aai ap⟩;have ak:=V a (aam ha);obtain⟨n,rfl⟩:=aa5 ak.1;have N:l.take (j+1)=l.take j++[((n:Nat):Int)]:=by rw[aaN,ha];rfl
  have aq:=qV (l.take j);rw[aal]at aq;refine au ?_;refine ej 0 j I I I xA (yq ha) fun aA X=>ld 0 I (.inl I) X (au ?_);refine ar 1 I (mj .u64 n 4) (aw 0 I fun aE ag=>fin 0 I (th (ax ag I (fun e4=>?_) (fun e4=>?_))))
  ·have en:ci [((n:Nat):Int)]=[n/4]:=by
    simp_all[ci]
   have J:ci (l.take (j+1))=ci (l.take j)++[n/4]:=by rw[N,BE,en]
   have O:iL (l.take (j+1))=n/4+1:=by rw[N,A5,aab qo];rfl
   refine acY (ar 2 I (yF n 4 qo) (lit 0 #[.int .u64 (n/4:Nat)] I Q9 qk fun aF=>app 0 1 I I o (.inr ⟨0,I⟩) (aJ.Re (n:=1) (size:=1) I Q9).Ni I Q9 (by simp[Value.oneCell']) (by grind) As fun U ab ad ay=>au ?_));refine ar 2 I (yF n 4 qo) (ar 0 I (bL (x:=((n/4+1:Nat):Int)) qo) (Ji 2 2 I I I I (fin 0 I (acW (Bf (cZ j ?_))))));refine bn (x:=(j,(Y,Z,gn))) (j+1,(U,ab,ad)) ⟨I,?_,I,I,I,trivial⟩ I ?_ ⟨aC,?_⟩ qo
   ·dsimp only;rw[J,aaj];rfl
   ·dsimp only;rw[O];rfl
   dsimp only;rw[J,aaj,DC];exact ay
  have en:ci [((n:Nat):Int)]=[]:=by
   simp_all[ci]
  have J:ci (l.take (j+1))=ci (l.take j):=by rw[N,BE,en,aaw]
  have O:iL (l.take (j+1))=iL (l.take j):=by rw[N,A5,aaa qo]
  refine sk (acW (cZ j ?_));refine bn (x:=(j,(Y,Z,gn))) (j+1,(Y,Z,gn)) ⟨I,by dsimp only;rw[J];rfl,rfl,rfl,rfl,trivial⟩ rfl (by dsimp only;rw[O]) ⟨aC,by dsimp only;rw[J];exact o⟩ qo
 obtain rfl:j=eq l:=qo
 rw[aaG]at o⊢;refine ex (xt (xt (xb (acV (fin 2 I (ac0 (Ei fun K2 l1 l2=>?_)))))));exact af I I ⟨le.trans l1,[_,_,_,_,_],I,⟨ob,aL,cL,aO,cO,oH,rH,gL,gO,I,av,hL.imp fun _ _ h=>h.le (le.trans l1),hO⟩,Y,Z,I,o.Ni.le l2⟩
def KD(ao k l)(x:aj K ao (eq l) k 1 (jd l))(hl:eq l<=2^40)(n):
  ai w0 173 [.slice ao (eq l) k,.int .u64 (n:Nat)] K hs (fun v U hs'=>U=K/\hs'=hs/\∃t:Bool,v=.bool t/\(t=true↔n∈l)):=by
 have N:ai w0 228 [.slice ao (eq l) k,.int .u64 (n:Nat)] K hs (fun v U hs'=>U=K/\hs'=hs/\∃i:Int,v=.int .i64 i/\(0<=i↔n∈l)):=by
  refine cP Tryz.func228 ?_;refine loop (σ:=Nat) (fun j=>[(0,.slice ao (eq l) k),(1,.int .u64 (n:Nat)),(7,.int .i64 (eq l)),(8,.int .i64 (j:Nat))]) (fun _=>K) (fun _=>hs) (fun j=>j<=eq l/\n∉l.take j) (fun j=>eq l-j) 0 ⟨aad _,Q8⟩ ⟨I,I,I,I,trivial⟩ I I ?_;rintro j ⟨hj,O⟩;refine acY (bc 0 I (fun e2=>?_) (fun e2=>?_))
  ·refine au ?_;have X:j<eq l:=qo
   obtain⟨a,Y⟩:∃a,l[j]?=some a:=⟨l[j],aai X⟩;refine au ?_;refine ej 3 j I I I x (tW Y) fun Z J=>ld 0 I (.inl I) J (aw 0 I fun aa V=>fin 0 I (th (ax V I (fun e4=>?_) (fun e4=>?_))))
   ·refine au ?_;refine af I I ⟨I,I,((j:Nat):Int),I,fun _=>?_,fun _=>by omega⟩
    grind[List.mem_of_getElem?]
   refine sk (acW (cZ j ?_));refine bn (x:=j) (j+1) sb I I ⟨qo,?_⟩ qo;rw[aaN,Y]
   grind
  refine au ?_;rw[aaA qo]at O;refine au ?_;exact af I I ⟨I,I,-1,I,fun h=>absurd h Q9,fun h=>absurd h O⟩
 refine cP Tryz.func173 ?_;refine cl 2 I N ?_;rintro v7 K7 ab ⟨rfl,rfl,i,rfl,hi⟩;refine aw 0 I fun b8 h8=>au ?_;exact af I I ⟨I,I,b8,I,h8.trans hi⟩
def MK{dh x:PH}{m:Ac}(wb db W)(hW:dK K wb db W m)(D c)(oD:aW c D)(hc:c<=499000000)(hd:bM K db D dh)(l g al kl)(xl:aj K al (eq l) kl 1 (jd l))(ag kg)(xg:aj K ag (eq g) kg 1 (jd g))(aE:eq l<=c)(aD:eq g<=c)(an:∀n∈l,n<=2^61):
  ai w0 116 [Rp wb,.slice al (eq l) kl,.slice ag (eq g) kg] K (m++(x::dh::hs))
   (fun v K' hs'=>K'=K/\∃U,hs'=m++(x::U::hs)/\bM K db (wsettle g l D).1 U/\v=.int .i64 (wsettle g l D).2):=by
 obtain⟨ob,aL,cL,aO,cO,oH,rH,gL,gO,rfl,aF,hL,hO⟩:=hW;obtain⟨R,hR⟩:=a9 (wsettle g l D);rw[<-hR];obtain⟨S,hS⟩:=a9 (dG db ob W.first (.slice aL (eq W.Ja) cL) (.slice aO (eq W.Jd) cO) W.next W.code)
 have V:S[1]?=some (Rp db):=by rw[hS];rfl
 rw[<-hS];refine cP Tryz.func116 ?_
 refine loop (σ:=Nat×Dk×PH) (fun s=>[(0,Rp wb),(2,.slice ag (eq g) kg),(10,.slice al (eq l) kl),(11,.int .i64 (eq l)),(12,.int .i64 s.1)]) (fun _=>K)
  (fun s=>pt wb S 192::oH::rH::gL::gO::x::s.2.2::hs)
  (fun s=>s.1<=eq l/\wsettle g (l.drop s.1) s.2.1=R/\aW (c+s.1) s.2.1/\bM K db s.2.1 s.2.2) (fun s=>eq l-s.1) (0,D,dh) ⟨aad _,hR.symm,oD,hd⟩ ⟨rfl,rfl,rfl,rfl,rfl,trivial⟩ rfl rfl ?_
 rintro⟨j,E,eh⟩ ⟨hj,O,oE,hE⟩;dsimp only at *;refine acY (bc 0 I (fun e2=>?_) (fun e2=>?_))
 ·refine au ?_;have Y:j<eq l:=qo
  obtain⟨n,ha⟩:∃a,l[j]?=some a:=⟨l[j],aai Y⟩;have Z:=an n (aam ha);rw[aaI Y,show l[j]=n from by simp_all,vG]at O;refine au ?_;refine ej 0 j I I I xl (tW ha) fun az X=>ld 0 I (.inl I) X (fin 1 I (acV (fin 1 I (th ?_))))
  refine jn (σ:=PH) (fun _=>[(0,Rp wb),(2,.slice ag (eq g) kg),(9,.int .i64 (fO E g n).2),(10,.slice al (eq l) kl),(11,.int .i64 (eq l)),(12,.int .i64 j)])
   (fun s=>pt wb S 192::oH::rH::gL::gO::x::s::hs) (fun s=>bM K db (fO E g n).1 s) ?_ ?_
  ·refine acY (cl 2 I (KD ag kg g xg qo n) ?_);rintro aR ay av ⟨rfl,rfl,aN,rfl,ak⟩;refine fin 0 I (th (ax ak I (fun e3=>?_) (fun e3=>?_)))
   ·have e:fO E g n=E.free (aM n):=by unfold fO;rw[aab e3]
    rw[e];refine bO [pt wb S 192] 8 [0,2,4,6,8,11,13,14] Q8 qk qk (bT qk 3 0 I I V (au ?_));refine cl 0 I (qe n Z) ?_;rintro ap ad aa ⟨rfl,rfl,rfl⟩;refine aP Q8 I (aB qk 0 I (cl 0 I (Er 6 I (rV db E _ oE.ok qo hE (aM n))) ?_));rintro aq ae ab ⟨J,rfl,rfl,N,rfl⟩;exact aP Q8 I (aI qk 1 I (jx J N sb I I))
   have e:fO E g n=E.sync (aM n):=by unfold fO;rw[aaa e3]
   rw[e];refine bO [pt wb S 192] 8 [0,2,4,6,8,11,13,14] Q8 qk qk (bT qk 3 0 I I V (au ?_));refine cl 0 I (qe n Z) ?_;rintro ap ad aa ⟨rfl,rfl,rfl⟩;refine aP Q8 I (aB qk 0 I (cl 0 I (Er 6 I (uE db E _ oE.ok qo hE (aM n))) ?_));rintro aq ae ab ⟨J,rfl,rfl,N,rfl⟩;exact aP Q8 I (aI qk 1 I (jx J N sb I I))
  rintro J N;refine acY (aw 1 I fun aA am=>fin 0 I (th (ax am I (fun e5=>?_) (fun e5=>?_))))
  ·rw[aaa e5]at O;refine au ?_;rw[<-O];exact af I I ⟨I,J,I,N,I⟩
  rw[aab (aag.1 e5)]at O;refine sk (acW (cZ j ?_));exact bn (x:=(j,E,eh)) (j+1,(fO E g n).1,J) sb I I ⟨aC,O,(oE.TG g n).up qo,N⟩ aC
 refine au ?_;obtain rfl:j=eq l:=qo
 rw[aa6]at O;have O:(E,(0:Int))=R:=O;rw[<-O];refine au ?_;exact af I I ⟨I,eh,I,hE,I⟩
end
section
theorem Dr(D num):∀(f n:Nat),∃m,eq (lW D num f n)<=63*m/\∀i,i<m->(((n+i:Nat):Int))∈(D.ar (aM num)).map (·.1)
 |0,n=>⟨0,by simp[lW],fun i h=>by omega⟩
 |f+1,n=>by
  obtain⟨m,N,J⟩:=Dr D num f (n+1);rw[tw];cases hr:D.read (aM num) n with
  |none=>exact⟨0,Q8,fun i h=>by omega⟩
  |some s=>
   refine⟨m+1,?_,fun i hi=>?_⟩
   ·have:iM s<=63:=by unfold iM;omega
    dsimp only;rw[aaj,aal]
    grind
   by_cases e:i=0
   ·subst e;unfold Dk.read Dk.sec at hr;cases hg:aZ ((n:Nat):Int) (D.ar (aM num))with
    |none=>rw[hg]at hr;cases hr
    |some x=>exact aau.2 ⟨_,gS hg,rfl⟩
   have:=J (i-1) qo
   grind
def KP{c D}(o:D.Ok c)(num):eq (fY D num)<=63*eq (D.ar (aM num)):=by
 obtain⟨m,N,O⟩:=Dr D num 65537 0
 have hm:m<=eq (D.ar (aM num)):=by
  have J:((List.range m).map fun i=>((i:Nat):Int)).Nodup:=by
   rw[abK,abJ];exact(abK.1 List.nodup_range).imp fun h e=>h qo
  have:=J.length_le_of_subset (l₂:=(D.ar (aM num)).map (·.1)) (fun x U=>by
   grind)
  simpa using this
 grind[fY]
def lj(m:List (Int×Ar))(ks:Ae):Nat:=(ks.map fun k=>eq ((aZ k m).getD [])).sum
theorem BM(k0 u m):∀ks:Ae,ks.Nodup->lj ((k0,u)::m) ks<=(if k0∈ks then eq u else 0)+lj m ks
 |[],_=>by simp[lj]
 |k::ks,h=>by
  simp only[aa9]at h;have N:=BM k0 u m ks h.2;have e0:∀mm,lj mm (k::ks)=eq ((aZ k mm).getD [])+lj mm ks:=fun mm=>rfl;have J:aZ k ((k0,u)::m)=if k=k0 then some u else aZ k m:=rfl
  grind
theorem DN:∀(m:List (Int×Ar)) (ks:Ae),ks.Nodup->lj m ks<=fo m
 |[],ks,_=>by
  have:∀ks:Ae,lj [] ks=0:=fun ks=>by
   induction ks with
   |nil=>rfl
   |cons k ks U=>
    have e0:lj [] (k::ks)=0+lj [] ks:=rfl;rw[e0,U]
  rw[this];omega
 |(J,u)::m,ks,h=>by
  have N:=BM J u m ks h;have V:=DN m ks h;have O:fo ((J,u)::m)=eq u+fo m:=by simp[fo]
  rw[O]
  split at N<;>omega
def kV(D:Dk)(l:Af):Nat:=(l.map fun n=>eq (D.ar (aM n))).sum
def JH(D l):kV D l=lj D.Iz (l.map aM):=by
 unfold kV lj;rw[aa8]
 rfl
theorem l9{a b}(h:aM a=aM b):a=b:=by unfold aM at h;omega
theorem BL{D l}(h:l.Nodup):kV D l<=fo D.Iz:=by
 rw[JH];refine DN _ _ ?_;rw[abK,abJ];exact(abK.1 h).imp fun h e=>h (l9 e)
def H7(D a b):kV D (a++b)=kV D a+kV D b:=by simp[kV]
def AN{c D}(o:D.Ok c):(aU D).Nodup:=(dW _).symm.nodup o.keys
def qJ{l}(h:l.Nodup)(h0:∀k∈l,0<=k):(ci l).Nodup:=by
 unfold ci;rw[abK,abJ];have J:=(abK.1 h).filter (fun a=>decide (a%4=1));refine List.Pairwise.imp_of_mem ?_ J
 grind
theorem BC{l n}(h:n∈ci l):∃a∈l,a%4=1/\a.toNat/4=n:=by
 unfold ci at h
 grind
theorem Ep:∀(l:Af) (z:Nat),l.Pairwise (· <= ·)->(∀n∈l,n<l.foldl (fun _ n=>n+1) z)/\∀y,(∀n∈l,y<=n)->y<z->y<l.foldl (fun _ n=>n+1) z
 |[],z,_=>⟨fun n h=>by simp at h,fun y _ h=>h⟩
 |a::t,z,h=>by
  have J:=aa4.1 h;obtain⟨N,O⟩:=Ep t (a+1) J.2
  grind
def wY{l:Ae}(h:l.Pairwise (· <= ·)):∀n∈ci l,n<iL l:=by
 refine(Ep (ci l) 0 ?_).1;unfold ci;rw[abJ];refine(h.filter _).imp fun {a b} J=>?_;omega
structure jc (D:Dk) (mx:Nat) (don:Af) (W:Wl):Prop where
 op:W.op=none
 code:W.code=0
 next:W.next=mx
 Ja:eq W.Ja<=63*kV D don
 last:W.first+eq W.Ja<=bt
 Jd:eq W.Jd<=eq don
 RW:∀s∈W.Jd,s.1∈don/\s.2<=bt
 RS:∀r∈W.Ja,eq r<=512
def Hv(W:Wl)(n idx):eq (W.follows n idx).1.Ja<=eq W.Ja/\(∀r∈(W.follows n idx).1.Ja,r∈W.Ja)/\(W.follows n idx).1.op=W.op/\(W.follows n idx).1.code=W.code/\(W.follows n idx).1.next=W.next /\
  eq (W.follows n idx).1.Jd<=eq W.Jd+1/\∀s∈(W.follows n idx).1.Jd,s∈W.Jd\/s=(n,idx):=by
 unfold Wl.follows
 grind
theorem wx:∀(f:Nat) (r:Rd),r.2=0->eq (jR f r)<=eq r.1/\∀x∈jR f r,eq x<=512
 |0,r,_=>⟨by simp[jR],by simp[jR]⟩
 |f+1,(b,e),J=>by
  have J:e=0:=J;subst J;rw[qO]
  split
  ·rename_i h;obtain⟨N,O⟩:=Bt h;obtain⟨U,V⟩:=wx f (bW 512 (b,0)).2 h
   grind
  simp
def jc.step{c D}(o:D.Ok c){mx fr n don W}(h:jc D mx don W)(J:(fD D fr n W).1.first+eq (fD D fr n W).1.Ja<=bt):jc D mx (don++[n]) (fD D fr n W).1:=by
 have aa:=H7 D don [n];have ad:kV D [n]=eq (D.ar (aM n)):=by simp[kV]
 have Y:jc D mx (don++[n]) W:=⟨h.op,h.code,h.next,by have:=h.Ja;omega,h.last,by have:=h.Jd;simp;omega,fun s hs=>⟨by simp[(h.RW s hs).1],(h.RW s hs).2⟩,h.RS⟩;unfold fD at J⊢
 split
 ·exact Y
 rename_i X;rw[aaa X]at J;have hx:=KP o n;unfold kx at J⊢
 split
 ·exact Y
 rename_i U;rw[aaa U]at J;have U:=aag.1 U;have hU:=(pH U).2;have ab:=(pI bt (fY D n) 0).2;obtain⟨f1,f2,Z,f4,f5,f6,f7⟩:=Hv W n (aG bt (fY D n,0)).1
 have N:∀s∈(W.follows n (aG bt (fY D n,0)).1).1.Jd,s.1∈don++[n]/\s.2<=bt:=fun s hs=>by
  rcases f7 s hs with g|rfl
  ·exact⟨by simp[(h.RW s g).1],(h.RW s g).2⟩
  exact⟨Q8,hU⟩
 split
 ·rename_i V;rw[aab V]at J;exact⟨Z.trans h.op,f4.trans h.code,f5.trans h.next,by have:=h.Ja;dsimp only;omega,J,by have:=h.Jd;grind,N,fun r O=>h.RS r (f2 r O)⟩
 rename_i V;rw[aaa V]at J;obtain⟨g1,g2⟩:=wx (eq (fY D n)+1) (aG bt (fY D n,0)).2 U;refine⟨Z.trans h.op,f4.trans h.code,f5.trans h.next,?_,J,?_,N,?_⟩
 ·have:=h.Ja
  grind
 ·have:=h.Jd;grind
 intro r O;rcases aao.1 O with O|O
 ·exact h.RS r<|f2 r O
 exact g2 r O
theorem jc.scan{c D}(o:D.Ok c){mx fr}:∀(l J:Af) (W:Wl) (g:Af),jc D mx J W->(ic D fr l W g).2.2=true->jc D mx (J++l) (ic D fr l W g).1
 |[],J,W,g,h,_=>by simpa[ic]using h
 |n::r,J,W,g,h,N=>by
  unfold ic at N⊢
  split
  ·simp_all
  rename_i O;rw[aaa O]at N;have hs:=jc.step o h (fr:=fr) (n:=n) qo;have:=jc.scan o r (J++[n]) _ _ hs N
  rwa[aaH]at this
def cK.opened{c D}(o:aW c D){fr first W E}(h:dL D fr first=(some W,E,0)):cK c W/\W.op=none/\W.code=0/\eq W.Jd<=c:=by
 unfold dL at h
 split at h
 ·cases h
 split at h
 ·cases h
 rename_i h1
 split at h
 ·cases h
 rename_i h2
 split at h
 ·cases h
 rename_i V
 split at h
 ·cases h
 simp only[aah,aae]at h;obtain⟨rfl,_⟩:=h
 have V:(ic D fr (ci (aU D)) (dY fr first (aU D)) []).2.2=true:=by
  simp_all
 have h0:jc D (dY fr first (aU D)).next [] (dY fr first (aU D)):=⟨rfl,rfl,rfl,by simp[dY],by simp[dY];omega,by simp[dY],by simp[dY],by simp[dY]⟩;have J:=jc.scan o.ok _ _ _ _ h0 V;rw[abl]at J;have O:=qJ (AN o.ok) (fun k hk=>(rf o k hk).1);have Z:=BL (D:=D) O;have X:=o.cap;have U:=o.ok.room;have Y:=qT o;have aa:=qV (aU D);have ad:=J.Jd;have ae:=J.Ja;have ab:=J.next;refine⟨⟨J.last,qo,qo,qo,fun q N=>(by rw[J.op]at N;cases N),fun q N=>(by rw[J.op]at N;cases N),fun s hs=>?_,J.RS⟩,J.op,J.code,qo⟩;obtain⟨g1,g2⟩:=J.RW s hs;have:=wY (l:=aU D) (nM _) s.1 g1
 grind[dY]
def aW.opened{c D}(o:aW c D)(fr first):aW (c+eq D.Iz) (dL D fr first).2.1:=by
 have hs:=aW.settle (ci (aU D)) (ic D fr (ci (aU D)) (dY fr first (aU D)) []).2.1 D c o;have J:eq (aU D)=eq D.Iz:=by unfold aU;rw[(dW _).length_eq,aaM]
 have N:=qV (aU D);have hs:=hs.up (d:=c+eq D.Iz) qo;unfold dL
 split
 ·exact o.up qo
 split
 ·exact o.up qo
 split
 ·exact o.up qo
 split
 ·exact o.up qo
 grind
end
section
def HZ(D fr n r W g):ic D fr (n::r) W g =
  if(fD D fr n W).2.1=false\/bt<(fD D fr n W).1.first+eq (fD D fr n W).1.Ja then((fD D fr n W).1,if(fD D fr n W).2.2 then g++[n]else g,false)
  else ic D fr r (fD D fr n W).1 (if(fD D fr n W).2.2 then g++[n]else g):=rfl
def KQ{D fr n W}(h:W.first<=bt):(fD D fr n W).1.first<=bt/\eq (fD D fr n W).1.Ja<=eq W.Ja+4128831:=by
 unfold fD
 split
 ·exact⟨h,ab2 _ _⟩
 unfold kx
 split
 ·exact⟨h,ab2 _ _⟩
 rename_i J;have J:=aag.1 J;have N:=(pH J).2
 grind[ww,wx,aG,Wl.follows]
def Ov{dh:PH}(db D c)(oD:aW c D)(hc:c<=400000000)(hd:bM K db D dh)(fr first)(cB:fr<2^64)(cA:first<2^64):
  ai w0 59 [Rp db,.int .u64 (fr:Nat),.int .u64 (first:Nat)] K (dh::hs)
   (fun v K' hs'=>Le K K'/\∃m' av,hs'=m'++(av::hs)/\bM K' db (dL D fr first).2.1 av/\match(dL D fr first).1 with
    |none=>m'=[]/\v=.tuple #[.pointer none,.int .i64 (dL D fr first).2.2]
    |some W=>∃wb,dK K' wb db W m'/\v=.tuple #[.pointer (some ⟨wb,0,none⟩),.int .i64 (dL D fr first).2.2]):=by
 have aR:=rf oD;have cz:=qT oD;have b6:=qV (aU D);have a3:(aU D).Pairwise (· <= ·):=nM _;have a0:=wY a3;have b5:=qJ (AN oD.ok) (fun k hk=>(aR k hk).1);have cn:=oD.cap;have b7:=oD.ok.room
 have b3:∀n∈ci (aU D),n<2^64:=fun n hn=>by
  obtain⟨a,ha,_,rfl⟩:=BC hn;have:=aR a ha;omega
 have cd:iL (aU D)<18446744073709551617:=by
  unfold iL;rcases List.eq_nil_or_concat (ci (aU D))with h|⟨l',b,h⟩
  all_goals grind
 obtain⟨R,J⟩:=a9 (dL D fr first)
 rw[<-J];refine cP Tryz.func59 ?_;refine cl 1 I (Ge db D hd) ?_;rintro cN a5 ce ⟨rfl,rfl,rfl⟩;unfold dL at J;cases ab:D.dead with
 |true=>
  rw[aab ab]at J;refine au ?_;rw[J];exact bS I I I ⟨Cg _,[],dh,I,hd,I,I⟩
 |false=>
  rw[aaa (by rw[ab];simp)]at J;refine au ?_;refine aw 1 I fun cr bo=>fin 0 I (th (ax bo I (fun e3=>?_) (fun e3=>?_)))
  ·rw[aab (by unfold bt;omega)]at J;refine au ?_;rw[J];exact bS I I I ⟨Cg _,[],dh,I,hd,I,I⟩
  have cD:first<=bt:=by unfold bt;omega
  rw[aaa qo]at J;refine sk (th (Es (Bj (aap _ _ _) (Es (Es (Es (Es (acY (bd 2 (.agg (dG db none first (.slice none 0 0) (.slice none 0 0) 0 0)) I Aq (bx 0 I fun wb=>al 0 (.pointer none) I qk fun b8=>Ji 0 0 I I I I ?_))))))))));refine Bi (hs':=[_,_,_,_,_]++(_::dh::em::hs)) (aaQ (l₁:=[_,_,_,_,_])).symm ?_
  have ad:dK a5 wb db ⟨none,first,[],[],0,0⟩ [pt wb (dG db none first (.slice none 0 0) (.slice none 0 0) 0 0) 192,em,em,em,em]:=
   ⟨none,none,0,none,0,em,em,em,em,rfl,⟨rfl,rfl,rfl⟩,dD.nil _ _,dD.nil _ _⟩
  refine au ?_;refine cl 0 I (LC wb db _ ad D c oD qo hd I) ?_;rintro cQ ak ch ⟨le,m2,rfl,b1,an,kn,rfl,xN⟩;obtain⟨l,hl⟩:=a9 (ci (aU D));rw[<-hl]at xN a0 b5 b6 J b3⊢;obtain⟨ob,aL,cL,aO,cO,oH,rH,gL,gO,rfl,aa,hL,hO⟩:=b1;dsimp only at aa hL hO;refine Ez 0 (pt wb (dG db ob first (.slice aL 0 cL) (.slice aO 0 cO) (iL (aU D)) 0) 192) ?_;refine Ez 5 (pt b8 #[Rp wb] 116) ?_;refine au ?_;refine bC [5,0] 9 [0,2,4,6,8,10,12,14,16,19] ?_;refine au ?_;obtain⟨mx,a1⟩:=a9 (max (iL (aU D)) fr);have a2:(if((fr:Nat):Int)>((iL (aU D):Nat):Int)then((fr:Nat):Int)else((iL (aU D):Nat):Int))=((mx:Nat):Int):=qo
  have ae:(dY fr first (aU D)).next=mx:=a1.symm;have ad:dY fr first (aU D)=⟨none,first,[],[],mx,0⟩:=by rw[a1];rfl
  rw[a2];refine au ?_;refine aw 0 I fun cs bp=>fin 0 I (th (ax bp I (fun e5=>?_) (fun e5=>?_)))
  ·rw[aab (by rw[ae];unfold c9;omega)]at J;refine acY (fin 2 I (ac0 (rT (Ej 0 I (Ej 0 I (Ej 0 I (Ej 0 I (Ej 0 I (Ej 0 I (Ej 1 I ?_))))))))));rw[J];exact bS I I I ⟨le,[],dh,I,hd.le le,I,I⟩
  have cc:mx<=1152921504606846976:=qo
  rw[aaa (by rw[ae];unfold c9;omega)]at J;have aY:∀n∈l,n<=2^61:=fun n hn=>by have:=a0 n hn;omega
  have a4:∀j,kV D (l.take j)<=1073741824:=fun j=>by
   grind[BL]
  have aA:jc D mx [] ⟨none,first,[],[],mx,0⟩:=⟨rfl,rfl,rfl,Q8,qo,Q8,Q8,Q8⟩;rw[ad]at J;obtain⟨Z,hZ⟩:=a9 (ic D fr l ⟨none,first,[],[],mx,0⟩ []);rw[<-hZ]at J
  have aE:dK ak wb db ⟨none,first,[],[],mx,0⟩ [pt wb (dG db ob first (.slice aL 0 cL) (.slice aO 0 cO) mx 0) 192,oH,rH,gL,gO]:=
   ⟨ob,aL,cL,aO,cO,oH,rH,gL,gO,rfl,aa,hL,hO⟩
  refine au ?_
  refine loop (σ:=(Nat×Wl×Af)×(Ac×(Ab×Nat×PH))×PH) (fun s=>[(0,Rp db),(1,.int .u64 (fr:Nat)),(8,Rp b8),(9,.slice an (eq l) kn),(10,.slice s.2.1.2.1 (eq s.1.2.2) s.2.1.2.2.1),(40,.slice an (eq l) kn),(41,.int .i64 (eq l)),(42,.int .i64 s.1.1)]) (fun s=>s.2.2)
   (fun s=>s.2.1.1++(pt b8 #[Rp wb] 116::dh::s.2.1.2.2.2::hs))
   (fun s=>s.1.1<=eq l/\ic D fr (l.drop s.1.1) s.1.2.1 s.1.2.2=Z/\jc D mx (l.take s.1.1) s.1.2.1/\eq s.1.2.2<=s.1.1/\Le ak s.2.2/\dK s.2.2 wb db s.1.2.1 s.2.1.1/\aJ s.2.1.2.2.2 s.2.1.2.1 (eq s.1.2.2) s.2.1.2.2.1 29 1 (jd s.1.2.2)) (fun s=>eq l-s.1.1)
   ((0,⟨none,first,[],[],mx,0⟩,[]),([_,_,_,_,_],(none,0,em)),ak) ⟨aad _,hZ.symm,aA,aac _,Cg _,aE,aJ.nil _ _⟩ ⟨rfl,rfl,rfl,rfl,rfl,rfl,rfl,rfl,trivial⟩ rfl rfl ?_
  clear aA ad aE aa hL hO;clear oH rH gL gO;rintro⟨⟨j,W,g⟩,⟨m,⟨ag,cg,gh⟩⟩,K1⟩ ⟨hj,hw,hS,cE,N,hW,og⟩;dsimp only at *;obtain⟨ob,aL,cL,aO,cO,oH,rH,gL,gO,rfl,aa,hL,hO⟩:=id hW;have cF:=a4 j;have hr:=hS.Ja;have ho:=hS.Jd;have b2:=hS.last;rw[aal]at ho;refine acY (aw 0 I fun ct bq=>au ?_);refine ax bq I (fun e7=>?_) (fun e7=>?_)
  ·have aV:j<eq l:=qo
   obtain⟨n,ha⟩:∃a,l[j]?=some a:=⟨l[j],aai aV⟩;have b4:=aY n (aam ha);have b9:l.take (j+1)=l.take j++[n]:=by rw[aaN,ha];rfl
   rw[aaI aV,show l[j]=n from by simp_all,HZ]at hw;obtain⟨V,hV⟩:=a9 (fD D fr n W);have b0:=KQ (D:=D) (fr:=fr) (n:=n) (W:=W) qo;have aD:=jc.step oD.ok hS (fr:=fr) (n:=n);rw[<-hV]at hw b0 aD;refine au ?_;refine ej 0 j I I I (xN.le N) (tW ha) fun cq aS=>ld 0 I (.inl I) aS (al 0 (.int .u64 0) I qk fun X=>Ji 0 0 I I I I (Ew (pt X #[.int .u64 n] 29::_) I (au ?_)));refine bC [0] 5 [0,2,4,6,8] ?_;refine au ?_;refine dU qk 1 (n<fr) I Q8 fun bb az=>aI qk 2 I (th ?_);refine Bj (hs':=[_,_,_,_,_]++(pt X #[.int .u64 n] 29::pt b8 #[Rp wb] 116::dh::gh::hs)) (aaQ (l₁:=[_,_,_,_,_])).symm ?_
   refine kL (σ:=Ac×PH) (fun _=>[(0,Rp db),(1,.int .u64 (fr:Nat)),(8,Rp b8),(9,.slice an (eq l) kn),(10,.slice ag (eq g) cg),(12,Rp X),(13,.bool V.2.1),(14,.bool V.2.2),(40,.slice an (eq l) kn),(41,.int .i64 (eq l)),(42,.int .i64 j)]) (fun s=>s.2)
    (fun s=>s.1++(pt X #[.int .u64 n] 29::pt b8 #[Rp wb] 116::dh::gh::hs)) (fun s=>Le K1 s.2/\dK s.2 wb db V.1 s.1) ?_ ?_
   ·refine acY (cG 1 _ I (lU az) fun cu bs=>fin 0 I<|th (ax bs I (fun e8=>?_) (fun e8=>?_)))
    ·have ap:V=kx D n W:=by rw[hV];unfold fD;rw[aaa e8]
     refine au ?_;refine cl 2 I (Oj wb db b8 X W hW b2 qo qo D c oD.ok qo (hd.le (le.trans N)) n b4) ?_;rintro cR a6 ck ⟨U,m5,rfl,aN,rfl⟩;rw[<-ap]at aN⊢;exact fin 5 I (fM (m5,a6) ⟨U,aN⟩ sb I I)
    have e8:n<fr:=aag.1 e8;have ap:V=(W,true,true):=by rw[hV];unfold fD;rw[aab e8]
    obtain rfl:bb=true:=az.2 e8;rw[ap];refine sk ?_;exact fM ([_,_,_,_,_],K1) ⟨Cg _,hW⟩ ⟨I,I,I,I,I,I,I,I,I,I,I,trivial⟩ I I
   clear hW aa hL hO;clear oH rH gL gO;rintro⟨m,K2⟩ ⟨U,hW⟩;dsimp only at *;obtain⟨ob,aL,cL,aO,cO,oH,rH,gL,gO,rfl,aa,hL,hO⟩:=id hW;obtain⟨g',O⟩:=a9 (if V.2.2=true then g++[n]else g);rw[<-O]at hw;have aT:eq g'<=j+1:=by rw[O];split<;>(try simp)<;>omega
   refine jn (σ:=Ab×Nat×PH) (fun s=>[(0,Rp db),(1,.int .u64 (fr:Nat)),(8,Rp b8),(9,.slice an (eq l) kn),(10,.slice s.1 (eq g') s.2.1),(13,.bool V.2.1),(40,.slice an (eq l) kn),(41,.int .i64 (eq l)),(42,.int .i64 j)])
    (fun s=>pt wb (dG db ob V.1.first (.slice aL (eq V.1.Ja) cL) (.slice aO (eq V.1.Jd) cO) V.1.next V.1.code) 192::oH::rH::gL::gO::pt X #[.int .u64 n] 29::pt b8 #[Rp wb] 116::dh::s.2.2::hs)
    (fun s=>aJ s.2.2 s.1 (eq g') s.2.1 29 1 (jd g')) ?_ ?_
   ·refine acY ?_;cases hv:V.2.2 with
    |true=>
     rw[aab hv]at O;refine au ?_;refine lit 0 #[.int .u64 n] I Q9 qk fun cv=>app 0 9 I I og (.inr ⟨0,I⟩) (aJ.Re (n:=1) (size:=1) I Q9).Ni I Q9 (by simp[Value.oneCell']) (by show(eq g+1)*8<=_;omega) As fun aq bi bm ca=>fin 1 rfl (Bh ?_);refine jx (aq,bi,bm) (pV ca (by rw[O];simp) (by rw[O,DC];rfl)) ⟨rfl,rfl,rfl,rfl,by dsimp only;rw[O,aaj];rfl,rfl,rfl,rfl,rfl,trivial⟩ rfl rfl
    |false=>
     rw[aaa (by rw[hv];simp)]at O;refine fin 1 I (th (bP I (sk ?_)));refine jx (ag,cg,gh) (by dsimp only;rw[O];exact og) ⟨I,I,I,I,by dsimp only;rw[O];rfl,rfl,rfl,rfl,rfl,trivial⟩ rfl rfl
   rintro⟨ag,cg,gh⟩ og;dsimp only at *;cases hv:V.2.1 with
   |false=>
    rw[aab (.inl hv)]at hw;rw[<-hw]at J;dsimp only at J;rw[aab rfl]at J;refine sq (bC [6,0] 16 [0,2,4,6,8,10,12,14,16,18,20,22,24,26,28,30] ?_);refine aI qk 16 I (th (dk I (acY (fin 2 I (ac0 (rB (rT (rT (rB (rT (Ej 0 I (Ej 0 I (Ej 0 I (Ej 0 I (Ej 0 I (Ej 0 I (Ej 0 I (Ej 1 I ?_))))))))))))))))));rw[J];exact bS I I I ⟨le.trans (N.trans U),[],dh,I,hd.le (le.trans (N.trans U)),I,I⟩
   |true=>
    refine sq (bC [6,0] 16 [0,2,4,6,8,10,12,14,16,18,20,22,24,26,28,30] ?_);refine au ?_;refine bF qk 1 I (bL (x:=((eq V.1.Ja:Nat):Int)) qo) (bF qk 0 I (bL (x:=((V.1.first+eq V.1.Ja:Nat):Int)) (by unfold bt at *;omega)) (dU qk 0 (bt<V.1.first+eq V.1.Ja) rfl (by unfold bt;simp;omega) fun cx bB=>au ?_));refine ax bB I (fun ay=>?_) (fun ay=>?_)
    ·rw[aab (.inr ay)]at hw;rw[<-hw]at J;dsimp only at J;rw[aab rfl]at J;refine acY (fin 2 I (ac0 (rB (rT (rT (rB (rT (Ej 0 I (Ej 0 I (Ej 0 I (Ej 0 I (Ej 0 I (Ej 0 I (Ej 0 I (Ej 1 I ?_)))))))))))))));rw[J];exact bS I I I ⟨le.trans (N.trans U),[],dh,I,hd.le (le.trans (N.trans U)),I,I⟩
    rw[aaa (by rw[hv];simp;omega)]at hw;refine sk (acW (WL.del 5 I (cZ j ?_)));exact bn (x:=((j,W,g),([],(ag,cg,gh)),K1)) ((j+1,V.1,g'),([_,_,_,_,_],(ag,cg,gh)),K2) ⟨I,I,I,I,I,I,I,I,trivial⟩ I I ⟨aC,hw,by dsimp only;rw[b9];exact aD qo,aT,N.trans U,hW,og⟩ aC
  obtain rfl:j=eq l:=qo
  rw[aa6]at hw;have hw:(W,g,true)=Z:=hw;rw[<-hw]at J;dsimp only at J;rw[aaa Q8]at J;refine ex (xt (xt (xb (acV (aX 0 5 I I I ?_)))));refine Bi (hs':=gh::([_,_,_,_,_,_,_]++hs)) (aaQ (l₁:=[_,_,_,_,_,_,_])) (Eg fun K3 l1 l2=>?_);have aF:dK K3 wb db W [pt wb (dG db ob W.first (.slice aL (eq W.Ja) cL) (.slice aO (eq W.Jd) cO) W.next W.code) 192,oH,rH,gL,gO]:=hW.le l1;refine cl 2 I (MK wb db W aF D c oD qo (hd.le (le.trans (N.trans l1))) l g an kn (xN.le (N.trans l1)) ag cg (og.Ni.le l2) qo qo aY) ?_;rintro cS cp cm ⟨rfl,dh,rfl,hE,rfl⟩;obtain⟨Y,hY⟩:=a9 (wsettle g l D);rw[<-hY]at hE J⊢;refine au ?_;refine aw 1 I fun cy bV=>fin 0 I (th (ax bV I (fun am=>?_) (fun am=>?_)))
  ·rw[aab am]at J;refine acY (fin 3 I (ac0 (rT (Ej 0 I (Ej 0 I (Ej 0 I (Ej 0 I (Ej 0 I (Ej 0 I ?_)))))))));rw[J];exact bS I I I ⟨le.trans (N.trans l1),[],dh,I,hE,I,I⟩
  rw[aaa am]at J;refine sk (acV (aX 0 5 I I I (fin 2 I (ac0 (Ej 5 I ?_)))));rw[J];exact bS I I I ⟨le.trans (N.trans l1),[_,_,_,_,_],dh,I,hE,wb,aF,I⟩
end
section
def bX:Nat:=1152921504606846976
structure bE where
 idx:Nat
 term:Nat
 Jq:Ae
 data:Aa
def Ka(s:bE)(l:List ah)(i:Nat):Nat×Bool:=
 if i=s.idx then(s.term,true)else if i<s.idx\/s.idx+eq l<i then(0,false)else(((l[i-s.idx-1]?).getD ah.zero).term,true)
def fA(s:bE)(l:List ah)(i:Nat):Am:=if i<=s.idx\/s.idx+eq l<i then none else some (i-s.idx-1)
def eH:Nat->Nat->List ah->Int
 |_,_,[]=>0
 |i,t,e::r=>if e.idx≠i+1\/e.term<t then 180 else eH e.idx e.term r
def fQ(i t:Nat)(x:List ah):Int:=if(x.all fun e=>(iJ e).isSome)=true then eH i t x else 181
def lp(s:bE)(l:List ah)(t:Nat):Nat->Nat
 |0=>0
 |i+1=>if s.idx<i+1 then(if(Ka s l i).1≠t then i else lp s l t i)else i+1
def qE(s:bE)(l:List ah)(i:Nat):Nat:=if s.idx+eq l<i then s.idx+eq l else lp s l (Ka s l i).1 i
def RZ(s:bE)(l:List ah):List ah->Bool->List ah×Bool
 |[],b=>([],b)
 |e::r,_=>if(Ka s l e.idx).2=false\/(Ka s l e.idx).1≠e.term then(e::r,(Ka s l e.idx).2)else RZ s l r true
def ei(s:bE)(l:List ah)(up:Nat):Ae×Nat:=
 match l.reverse.find? fun e=>decide (e.kind=2/\e.idx<=up)with
 |some e=>((fB e.data).getD [],e.idx)
 |none=>(s.Jq,s.idx)
def iK(s:bE)(l:List ah)(Jl:Nat)(most:Int):List ah:=
 match fA s l Jl with
 |none=>[]
 |some k=>(l.drop k).take most.toNat
def fj(s:bE)(l:List ah)(t:bE):Bool:=(Ka s l t.idx).2&&decide ((Ka s l t.idx).1=t.term)
structure Lg where
 w:Wl
 Qh:cW
 head:cW
 kt:Nat
 kv:Int
 sn:bE
 place:Nat
 fr:Nat
 l:List ah
 code:Int
def Lg.last(L:Lg):Nat:=L.sn.idx+eq L.l
def fJ(code e:Int):Int:=if code=0 then e else code
def Lg.Jc(L:Lg)(D:Dk)(t:Nat)(v:Int):Lg×Dk×Int:=
 if L.code≠0 then(L,D,L.code)
 else if v < -1\/7<=v then(L,D,181)
 else if t<L.kt then(L,D,180)
 else if(L.Qh.save 0 D (aK t++aK (v+1).toNat)).2.2=0 then({L with Qh:=(L.Qh.save 0 D (aK t++aK (v+1).toNat)).1,kt:=t,kv:=v},(L.Qh.save 0 D (aK t++aK (v+1).toNat)).2.1,0)
 else({L with Qh:=(L.Qh.save 0 D (aK t++aK (v+1).toNat)).1,code:=(L.Qh.save 0 D (aK t++aK (v+1).toNat)).2.2},(L.Qh.save 0 D (aK t++aK (v+1).toNat)).2.1,(L.Qh.save 0 D (aK t++aK (v+1).toNat)).2.2)
def Lg.Rc:List ah->Lg->Dk->Lg×Dk×Int
 |[],L,D=>(L,D,0)
 |e::r,L,D=>
  if(L.w.append e.bytes D).2.2≠0 then({L with w:=(L.w.append e.bytes D).1,code:=(L.w.append e.bytes D).2.2},(L.w.append e.bytes D).2.1,(L.w.append e.bytes D).2.2)
  else Rc r {L with w:=(L.w.append e.bytes D).1,l:=L.l++[e]} (L.w.append e.bytes D).2.1
def Lg.append(L:Lg)(x:List ah)(D:Dk):Lg×Dk×Int:=
 if L.code≠0 then(L,D,L.code)
 else if fQ L.last (Ka L.sn L.l L.last).1 x≠0 then(L,D,fQ L.last (Ka L.sn L.l L.last).1 x)
 else L.Rc x D
def Lg.sync(L:Lg)(D:Dk):Lg×Dk×Int:=
 if L.code≠0 then(L,D,L.code)else({L with w:=(L.w.sync D).1,code:=(L.w.sync D).1.code},(L.w.sync D).2,(L.w.sync D).1.code)
def Lg.Ms(L:Lg)(x:List ah)(last:Nat)(D:Dk):Lg×Dk×Nat×Bool×Int:=
 if(L.append x D).2.2≠0 then((L.append x D).1,(L.append x D).2.1,0,false,(L.append x D).2.2)else((L.append x D).1,(L.append x D).2.1,last,true,0)
def Lg.cutAt(L:Lg)(i:Nat)(W:Wl):Lg:={L with w:=W,l:=L.l.take ((fA L.sn L.l i).getD 0)}
def Lg.Jo(L:Lg)(x:List ah)(last:Nat)(D:Dk):Lg×Dk×Nat×Bool×Int:=
 match(RZ L.sn L.l x true).1 with
 |[]=>L.Ms [] last D
 |e::r=>
  if(RZ L.sn L.l x true).2=true then
   (if(L.w.truncate e.idx D).2.2≠0 then({L with w:=(L.w.truncate e.idx D).1,code:=(L.w.truncate e.idx D).2.2},(L.w.truncate e.idx D).2.1,0,false,(L.w.truncate e.idx D).2.2)
    else(L.cutAt e.idx (L.w.truncate e.idx D).1).Ms (e::r) last (L.w.truncate e.idx D).2.1)
  else L.Ms (e::r) last D
def Lg.Kc(L:Lg)(i t:Nat)(x:List ah)(last:Nat)(D:Dk):Lg×Dk×Nat×Bool×Int:=
 if(Ka L.sn L.l i).2=false\/(Ka L.sn L.l i).1≠t then(L,D,qE L.sn L.l i,false,0)else L.Jo x last D
def Lg.merge(L:Lg)(i t:Nat)(x:List ah)(D:Dk):Lg×Dk×Nat×Bool×Int:=
 if L.code≠0 then(L,D,0,false,L.code)
 else if fQ i t x≠0 then(L,D,0,false,fQ i t x)
 else if i<L.sn.idx then
  (if i+eq x<L.sn.idx then(L,D,i+eq x,true,0)
   else if((x.drop (L.sn.idx-i)).head?.map fun e=>decide (e.term<L.sn.term))=some true then(L,D,0,false,180)
   else L.Kc L.sn.idx L.sn.term (x.drop (L.sn.idx-i)) (i+eq x) D)
 else L.Kc i t x (i+eq x) D
def Lg.fits(L:Lg)(s:bE):Int:=
 if L.code≠0 then L.code
 else if(bG s.Jq).isSome=false\/2097152<eq s.data then 181
 else if s.idx<=L.sn.idx\/bX<=s.idx then 180
 else 0
def bz(place:Nat):Nat:=4*place+2
def R7(place:Nat):Nat->Nat->Aa->Dk->Dk×Int
 |0,_,_,D=>(D,0)
 |f+1,n,b,D=>
  if b=[]then(D,0)
  else if(D.write (bz place) n (b.take 64)).2≠0 then D.write (bz place) n (b.take 64)
  else R7 place f (n+1) (b.drop 64) (D.write (bz place) n (b.take 64)).1
def Lg.Nl(s:bE)(place fr:Nat):Aa:=aK s.idx++(aK s.term++(aK place++(aK (eq s.data)++(aK fr++ob (bG s.Jq)))))
def Lg.laid(L:Lg)(s:bE)(fr:Nat)(H:cW):Lg:=
 {L with head:=H,l:=if fj L.sn L.l s=true then L.l.drop ((fA L.sn L.l s.idx).getD 0+1)else [],place:=L.place+1,fr:=fr,sn:=s}
def Lg.Sy(L:Lg)(s:bE)(fr:Nat)(H:cW)(D:Dk):Lg×Dk×Int:=
 ({L.laid s fr H with code:=(D.free (bz L.place)).2},(D.free (bz L.place)).1,(D.free (bz L.place)).2)
def Lg.Rq(L:Lg)(s:bE)(fr:Nat)(D:Dk):Lg×Dk×Int:=
 if(L.head.save 4 D (Lg.Nl s (L.place+1) fr)).2.2≠0 then({L with head:=(L.head.save 4 D (Lg.Nl s (L.place+1) fr)).1,code:=(L.head.save 4 D (Lg.Nl s (L.place+1) fr)).2.2},(L.head.save 4 D (Lg.Nl s (L.place+1) fr)).2.1,(L.head.save 4 D (Lg.Nl s (L.place+1) fr)).2.2)
 else L.Sy s fr (L.head.save 4 D (Lg.Nl s (L.place+1) fr)).1 (L.head.save 4 D (Lg.Nl s (L.place+1) fr)).2.1
def Lg.Sf(L:Lg)(s:bE)(fr:Nat)(D:Dk):Lg×Dk×Int:=
 if(D.sync (bz (L.place+1))).2≠0 then({L with code:=(D.sync (bz (L.place+1))).2},(D.sync (bz (L.place+1))).1,(D.sync (bz (L.place+1))).2)
 else L.Rq s fr (D.sync (bz (L.place+1))).1
def Lg.lay(L:Lg)(s:bE)(fr:Nat)(D:Dk):Lg×Dk×Int:=
 if(R7 (L.place+1) (eq s.data+1) 0 s.data D).2≠0 then({L with code:=(R7 (L.place+1) (eq s.data+1) 0 s.data D).2},(R7 (L.place+1) (eq s.data+1) 0 s.data D).1,(R7 (L.place+1) (eq s.data+1) 0 s.data D).2)
 else L.Sf s fr (R7 (L.place+1) (eq s.data+1) 0 s.data D).1
def Lg.Sj(L:Lg)(s:bE)(D:Dk):Lg×Dk×Int:=
 if(L.lay s L.fr D).2.2≠0 then L.lay s L.fr D
 else({ (L.lay s L.fr D).1 with w:=((L.lay s L.fr D).1.w.Jh (s.idx+1) (L.lay s L.fr D).2.1).1,code:=((L.lay s L.fr D).1.w.Jh (s.idx+1) (L.lay s L.fr D).2.1).2.2},((L.lay s L.fr D).1.w.Jh (s.idx+1) (L.lay s L.fr D).2.1).2.1,((L.lay s L.fr D).1.w.Jh (s.idx+1) (L.lay s L.fr D).2.1).2.2)
def Lg.Si(L:Lg)(s:bE)(D:Dk):Lg×Dk×Int:=if(L.sync D).2.2≠0 then L.sync D else(L.sync D).1.Sj s (L.sync D).2.1
def Lg.save(L:Lg)(s:bE)(D:Dk):Lg×Dk×Int:=
 if L.fits s≠0 then(L,D,L.fits s)else if fj L.sn L.l s=false then(L,D,180)else L.Si s D
def Lg.Se(L:Lg)(s:bE)(D:Dk):Lg×Dk×Int:=
 if(L.lay s L.w.next D).2.2≠0 then L.lay s L.w.next D
 else({ (L.lay s L.w.next D).1 with w:=((L.lay s L.w.next D).1.w.reset (s.idx+1) (L.lay s L.w.next D).2.1).1,code:=((L.lay s L.w.next D).1.w.reset (s.idx+1) (L.lay s L.w.next D).2.1).2.2},((L.lay s L.w.next D).1.w.reset (s.idx+1) (L.lay s L.w.next D).2.1).2.1,((L.lay s L.w.next D).1.w.reset (s.idx+1) (L.lay s L.w.next D).2.1).2.2)
def Lg.install(L:Lg)(s:bE)(D:Dk):Lg×Dk×Int:=
 if L.fits s≠0 then(L,D,L.fits s)else if fj L.sn L.l s=true then L.save s D else L.Se s D
end
section
def Ct.Te{f args}{a b}{S:Value->PH->PH->PH->Prop}(i j)(hi:hs[i]?=some a)(hj:(hs.eraseIdx i)[j]?=some b)
  (c:Ct P w0 f args K (a::b::(hs.eraseIdx i).eraseIdx j) (fun v O hs'=>∃J N,hs'=J::N::(hs.eraseIdx i).eraseIdx j/\S v O J N)):
  Ct P w0 f args K hs (fun v O hs'=>∃J N,hs'=((hs.eraseIdx i).set j N).insertIdx i J/\S v O J N):=by
 have Y:=iE hs i a hi;have Z:=iE (hs.eraseIdx i) j b hj;refine⟨c.1,fun w X=>(c.2 w (X.perm (Y.trans (Z.cons a)))).mono ?_⟩;rintro e w' ⟨v,O,hs',rfl,⟨J,N,rfl,V⟩,U⟩;refine⟨v,O,_,I,⟨J,N,I,V⟩,U.perm (((nO (hs.eraseIdx i) j b N hj).cons J).trans (List.perm_insertIdx _ _ ?_).symm)⟩;rw[aan,List.length_eraseIdx];have:=(aav.1 hi).1
 split<;>omega
def nK{b off c ty fr}(cs)(h:(c.toList.drop off).take (eq cs)=cs):∀(j:Nat) v,cs[j]?=some v->co (pt b c ty fr) ((⟨b,off,none⟩:Addr).add j) v:=by
 refine m7 cs fun j v hv=>?_;have hj:=(aav.1 hv).1;rw[<-h,abt hj,aa0]at hv;simpa using hv
structure bh (c:Nat) (L:Lg):Prop where
 w:cK c L.w
 Qh:L.Qh.bd
 head:L.head.bd
 kt:L.kt<=ac
 kv : -1<=L.kv/\L.kv<=6
 idx:L.sn.idx<=bX
 st:L.sn.term<=ac
 Jq:eq L.sn.Jq<=7
 data:eq L.sn.data<=2097152
 place:L.place<=bX+c
 fr:L.fr<=c9+c
 len:eq L.l<=70000000000+c
 Jg:∀e∈L.l,e.ok/\e.idx<=ac/\e.term<=ac
theorem bh.up{c d L}(o:bh c L)(h:c<=d):bh d L:=
 ⟨o.w.up h,o.Qh,o.head,o.kt,o.kv,o.idx,o.st,o.Jq,o.data,by have:=o.place;omega,by have:=o.fr;omega,by have:=o.len;omega,o.Jg⟩
def jg(wb db hb N:Nat)(L:Lg)(U J O:Value):Ah:=
 #[Rp wb,Rp db,Rp hb,Rp N,.int .u64 L.kt,.int .i64 L.kv,
  .int .u64 L.sn.idx,.int .u64 L.sn.term,U,J,.int .u64 L.place,.int .u64 L.fr,O,.int .i64 L.code]
abbrev eO(wb db hb O:Nat)(L:Lg)(aV:Ab)(cV:Nat)(J:Ab)(N:Nat)(aL:Ab)(cL:Nat):Ah:=
 jg wb db hb O L (.slice aV (eq L.sn.Jq) cV) (.slice J (eq L.sn.data) N) (.slice aL (eq L.l) cL)
def gT(K:PH)(wb db:Nat)(W:Wl)(h:PH):Prop:=∃m,h=dt m/\iW m/\dK K wb db W m
theorem gT.le{K J:PH}(l:Le K J){wb db W h}(x:gT K wb db W h):gT J wb db W h:=let⟨m,N,O,U⟩:=x;⟨m,N,O,U.le l⟩
def Nt{h:PH}(wb db W)(N:gT K wb db W h):ai w0 117 [Rp wb] K (h::hs)
  (fun v J hs'=>J=K/\hs'=h::hs/\v=.int .u64 W.first):=by
 obtain⟨m,rfl,d,hm⟩:=N;refine Co d (Nu wb db W hm) ?_;rintro v J hs' ⟨rfl,rfl,rfl⟩;exact⟨m,hs,I,fun _=>⟨I,I,I⟩⟩
def OG{h:PH}(wb db W)(N:gT K wb db W h):ai w0 200 [Rp wb] K (h::hs)
  (fun v J hs'=>J=K/\hs'=h::hs/\v=.int .u64 W.next):=by
 obtain⟨m,rfl,d,hm⟩:=N;refine Co d (OH wb db W hm) ?_;rintro v J hs' ⟨rfl,rfl,rfl⟩;exact⟨m,hs,I,fun _=>⟨I,I,I⟩⟩
def Fq{h:PH}(wb db W)(N:gT K wb db W h)(hb:W.first+eq W.Ja<=bt):ai w0 118 [Rp wb] K (h::hs)
  (fun v J hs'=>J=K/\hs'=h::hs/\v=.int .u64 (ny (W.first+eq W.Ja))):=by
 obtain⟨m,rfl,d,hm⟩:=N;refine Co d (rG wb db W hm hb) ?_;rintro v J hs' ⟨rfl,rfl,rfl⟩;exact⟨m,hs,I,fun _=>⟨I,I,I⟩⟩
def Pq{h:PH}(wb db W c)(U:c<=1000000000)(hb:cK c W)(O:gT K wb db W h)(i)(hi:i<2^64):ai w0 119 [Rp wb,.int .u64 (i:Nat)] K (h::hs)
  (fun v J hs'=>∃N,hs'=N::hs/\N=h/\Le K J/\((¬(W.first<=i/\i-W.first<eq W.Ja)/\v=.tuple Ik) \/
   ∃r ao k,W.first<=i/\W.Ja[i-W.first]?=some r/\v=.tuple #[.slice ao (eq r) k,.bool true]/\aj J ao (eq r) k 1 (bv r))):=by
 obtain⟨m,rfl,d,hm⟩:=O;refine Co d (Ps wb db W c U hb hm i hi hb.RS) ?_;rintro v J hs' ⟨le,rfl,hv⟩;exact⟨m,hs,I,fun _=>⟨_,I,I,le,hv⟩⟩
def Oa{h dh:PH}(wb db W)(Y:gT K wb db W h)(D c)(oD:D.Ok c)(Z:c<=1000000000)(hb:cK c W)(hd:bM K db D dh):
  ai w0 198 [Rp wb] K (h::dh::hs)
   (fun v O hs'=>∃U J,hs'=U::J::hs/\O=K/\gT K wb db (W.sync D).1 U/\bM K db (W.sync D).2 J/\v=.int .i64 (W.sync D).1.code):=by
 obtain⟨m,rfl,d,hm⟩:=Y;refine Co d (yG wb db W hm D c oD Z hb hd) ?_;rintro v O hs' ⟨rfl,V,J,rfl,N,hd',rfl⟩;exact⟨V,_,I,fun X=>⟨_,J,I,I,⟨V,I,X,N⟩,hd',I⟩⟩
def Mj{h dh hv:PH}(wb db W)(hW:gT K wb db W h)(D c)(oD:aW c D)(hc:c<=999999000)(hb:cK c W)(hd:bM K db D dh)(ab cb b)(U:eq b<2^40)(V:In K hs hv)(x:aj hv ab (eq b) cb 1 (bv b)):
  ai w0 203 [Rp wb,.slice ab (eq b) cb] K (h::dh::hs)
   (fun v N hs'=>∃X J,hs'=X::J::hs/\Le K N/\gT N wb db (W.append b D).1 X/\bM N db (W.append b D).2.1 J/\v=.int .i64 (W.append b D).2.2):=by
 obtain⟨m,rfl,d,hm⟩:=hW;refine Co d (Mk wb db W hm D c oD hc hb hd ab cb b U V x) ?_;rintro v N hs' ⟨le,Y,J,rfl,O,hd',rfl⟩;exact⟨Y,_,I,fun Z=>⟨_,J,I,le,⟨Y,I,Z,O⟩,hd',I⟩⟩
def Mz{h dh:PH}(wb db W)(Y:gT K wb db W h)(D c)(oD:aW c D)(Z:c<=999999000)(hb:cK c W)(hd:bM K db D dh)(i)(hi:i<2^64):
  ai w0 197 [Rp wb,.int .u64 (i:Nat)] K (h::dh::hs)
   (fun v N hs'=>∃U J,hs'=U::J::hs/\Le K N/\gT N wb db (W.truncate i D).1 U/\bM N db (W.truncate i D).2.1 J/\v=.int .i64 (W.truncate i D).2.2):=by
 obtain⟨m,rfl,d,hm⟩:=Y;refine Co d (MB wb db W hm D c oD Z hb hd i hi) ?_;rintro v N hs' ⟨le,V,J,rfl,O,hd',rfl⟩;exact⟨V,_,I,fun X=>⟨_,J,I,le,⟨V,I,X,O⟩,hd',I⟩⟩
def KE{h dh:PH}(wb db W)(Z:gT K wb db W h)(D c)(oD:aW c D)(hc:c<=499999000)(hb:cK c W)(U:eq W.Jd<=c)(hd:bM K db D dh)(i)(hi:i<2^64):
  ai w0 160 [Rp wb,.int .u64 (i:Nat)] K (h::dh::hs)
   (fun v N hs'=>∃V J,hs'=V::J::hs/\Le K N/\gT N wb db (W.Jh i D).1 V/\bM N db (W.Jh i D).2.1 J/\v=.int .i64 (W.Jh i D).2.2):=by
 obtain⟨m,rfl,d,hm⟩:=Z;refine Co d (KF wb db W hm D c oD hc hb U hd i hi) ?_;rintro v N hs' ⟨le,X,J,rfl,O,hd',rfl⟩;exact⟨X,_,I,fun Y=>⟨_,J,I,le,⟨X,I,Y,O⟩,hd',I⟩⟩
def MS{h dh:PH}(wb db W)(Z:gT K wb db W h)(D c)(oD:aW c D)(hc:c<=499999000)(hb:cK c W)(hd:bM K db D dh)(first)(U:first<2^64):
  ai w0 201 [Rp wb,.int .u64 (first:Nat)] K (h::dh::hs)
   (fun v N hs'=>∃V J,hs'=V::J::hs/\Le K N/\gT N wb db (W.reset first D).1 V/\bM N db (W.reset first D).2.1 J/\v=.int .i64 (W.reset first D).2.2):=by
 obtain⟨m,rfl,d,hm⟩:=Z;refine Co d (MT wb db W hm D c oD hc hb hd first U) ?_;rintro v N hs' ⟨le,X,J,rfl,O,hd',rfl⟩;exact⟨X,_,I,fun Y=>⟨_,J,I,le,⟨X,I,Y,O⟩,hd',I⟩⟩
def d7(K:PH)(lb db:Nat)(L:Lg)(D:Dk)(m:Ac):Prop:=
 ∃wb hb O aV cV J N aL cL Y X U V dh,m=[pt lb (eO wb db hb O L aV cV J N aL cL) 119,Y,X,U,V,dh] /\
  gT K wb db L.w Y/\ju K hb db 0 L.Qh X/\ju K O db 4 L.head U/\dD 4 51 (eI K) V aL (eq L.l) cL L.l/\bM K db D dh/\aj K aV (eq L.sn.Jq) cV 1 (iv L.sn.Jq)/\aj K J (eq L.sn.data) N 1 (bv L.sn.data)
theorem d7.le{K J:PH}(l:Le K J){lb db L D m}(h:d7 K lb db L D m):d7 J lb db L D m:=by
 obtain⟨wb,hb,U,aV,cV,N,O,aL,cL,wh,hh,V,X,dh,Y,Z,h3,h4,h5,h6,h7,h8⟩:=h;exact⟨wb,hb,U,aV,cV,N,O,aL,cL,wh,hh,V,X,dh,Y,Z.le l,h3.le l,h4.le l,h5.imp fun _ _ h=>h.le l,h6.le l,h7.le l,h8.le l⟩
def Fj{hv:PH}(ao cap l)(hm:In K hs hv)(x:aj hv ao (eq l) cap 1 (iv l))(hl:eq l<2^40):
  ai w0 52 [.agg #[.slice ao (eq l) cap]] K hs (Ap K hs (.bool (bG l).isSome)):=by
 refine ent Tryz.func52 ?_;refine acY (bx 0 I fun U=>fin 1 I (acV (Ew (pt U #[.slice ao (eq l) cap] 46::hs) I (fI 0 0 I I qk (cl 0 I (tM ao cap l (Bl hm) x hl) ?_)))));rintro v7 X V ⟨rfl,Z,O,Y,rfl,rfl,o7⟩;refine au ?_;refine aw 1 I fun J N=>fin 1 I (ac0 (Bh (Bh ?_)))
 have e:J=(bG l).isSome:=by
  rw[acn,N,ng]
 exact af I I ⟨I,I,by rw[e]⟩
def rM(n)(hn:n<=2^61):ai w0 56 [.int .u64 (n:Nat)] K hs (Ap K hs (.int .u64 (bz n:Nat))):=by
 refine cP Tryz.func56 ?_;refine ar 1 I (bL (x:=((4*n:Nat):Int)) qo) (ar 0 I (bL (x:=((4*n+2:Nat):Int)) qo) (au ?_));exact af I I ⟨I,I,I⟩
def lM(lb wb db hb eb L vS dS lS e):
  ai w0 57 [Rp lb,.int .i64 e] K (pt lb (jg wb db hb eb L vS dS lS) 119::hs)
   (fun v N hs'=>∃J,hs'=J::hs/\N=K/\J=pt lb (jg wb db hb eb {L with code:=fJ L.code e} vS dS lS) 119/\v=.int .i64 (fJ L.code e)):=by
 unfold fJ;refine cP Tryz.func57 ?_;refine bc 0 I (fun e2=>?_) (fun e2=>?_)
 ·refine au ?_;rw[aab e2];refine au ?_;exact af I I ⟨_,I,I,I,I⟩
 refine au ?_;rw[aaa e2];refine au ?_;exact af I I ⟨_,I,I,I,I⟩
def OR{m:Ac}(lb db L D)(hm:d7 K lb db L D m):
  ai w0 42 [Rp lb] K (m++hs) (fun v J hs'=>J=K/\hs'=m++hs/\v=.agg #[.int .u64 L.kt,.int .i64 L.kv]):=by
 obtain⟨wb,hb,V,aV,cV,N,U,aL,cL,wh,hh,X,Y,dh,rfl,hW,hH,hE,hG,Z,xV,xD⟩:=hm;refine enter Tryz.func42 qk I I I (acY (al 0 (.agg Im) I qk fun O=>fin 0 I (acV (fu 3 [.int .u64 L.kt,.int .i64 L.kv] I qk (.inr ⟨1,I⟩) (fun j v hv=>?_) ?_))))
 ·exact nK _ I j v hv
 refine bA 0 0 I I qk I I ?_;exact fin 0 I (ac0 (kZ 0 1 I I I qk ⟨I,I,I⟩))
end
section
def Gl{a b}(h:b<=a)(J:a<2^64):Value.int .u64 (IntKind.u64.wrap (((a:Nat):Int)-((b:Nat):Int)))=.int .u64 (a-b:Nat):=by
 rw[show((a:Nat):Int)-((b:Nat):Int)=((a-b:Nat):Int)from qo];exact bL qo
def FO{a}(h:1<=a)(J:a<2^64):Value.int .u64 (IntKind.u64.wrap (((a:Nat):Int)-1))=.int .u64 (a-1:Nat):=by
 rw[show((a:Nat):Int)-1=((a-1:Nat):Int)from qo];exact bL qo
def QB(o:Am):Value:=.tuple #[.int .i64 (((o.getD 0:Nat)):Int),.bool o.isSome]
def EW(s)(l:List ah)(i):Ka s l i=if i=s.idx then(s.term,true)else match fA s l i with
  |none=>(0,false)
  |some k=>(((l[k]?).getD ah.zero).term,true):=by
 unfold Ka fA
 by_cases h:i=s.idx
 ·rw[aab h,aab h]
 rw[aaa h,aaa h]
 by_cases J:i<s.idx\/s.idx+eq l<i
 ·rw[aab J,aab qo]
 rw[aaa J,aaa qo]
def q8{s l i k}(h:fA s l i=some k):s.idx<i/\i<=s.idx+eq l/\k=i-s.idx-1/\k<eq l:=by
 unfold fA at h
 split at h
 ·cases h
 cases h;omega
def yx{hv:PH}(ao cap b)(hm:In K hs hv)(x:aj hv ao (eq b) cap 1 (iv b))(hl:eq b<2^40):
  ai w0 45 [.slice ao (eq b) cap] K hs
   (fun v V hs'=>Le K V/\hs'=hs/\∃J X,v=.slice J (eq b) X/\aj V J (eq b) X 1 (iv b)):=by
 refine cP Tryz.func45 ?_;refine cb 1 I (fun Y=>?_) (fun Y=>?_)
 ·have O:ao=none:=by simpa using Y
  subst O
  have U:b=[]:=by
   cases b with
   |nil=>rfl
   |cons c r=>obtain⟨a,ha,_⟩:=x.2.2 0 _ (by simp[iv];rfl);cases ha
  subst U;refine au ?_;exact af I I ⟨Cg _,I,none,0,I,aj.nil _ _ _ _⟩
 refine au ?_;refine lit 0 #[] I Q9 qk fun b5=>app 1 0 I I (aJ.Re (c:=#[]) (n:=0) Q8 At) (Bl hm) x I Q9 (yQ _) (by show(0+eq b)*8<=_;omega) (by simp[maxLen];omega) fun N c7 g7 Z=>fin 1 rfl (ac0 (Ei fun K2 l1 l2=>?_));have e:0+eq b=eq b:=aaO _;rw[e]at Z;exact af I (by rw[e];rfl) ⟨l1,rfl,N,c7,rfl,Z.Ni.le l2⟩
def yw{hb:PH}(e:ah)(ao cap)(hm:In K hs hb)(x:aj hb ao (eq e.data) cap 1 (bv e.data))(hl:eq e.data<2^40):
  ai w0 44 [.agg (e.v ao cap)] K hs (fun v O hs'=>Le K O/\hs'=hs/\∃J X,v=.agg (e.v J X)/\aj O J (eq e.data) X 1 (bv e.data)):=by
 refine ent Tryz.func44 ?_;refine acY (bx 0 I fun U=>al 0 (.agg Il) I qk fun V=>fin 0 I (acV (Ew (pt V Il 51::pt U (e.v ao cap) 51::hs) I (au ?_))));refine cl 0 I (lJ ao cap e.data (Bl (Bl hm)) x hl) ?_;rintro v5 K5 aa ⟨rfl,Z,N,Y,rfl,rfl,o5⟩;refine Ji 1 2 I I I I (Ew (Z::pt V Il 51::pt U (e.v N Y) 51::hs) I (fin 0 I (acV (fI 0 2 I I qk ?_))));refine bA 0 1 I I qk I I ?_;exact fin 0 I (ac0 (Ei fun K2 l1 l2=>kZ 0 2 I I I qk ⟨l1,I,N,Y,I,o5.Ni.le l2⟩))
def dg(s:bE)(aV:Ab)(cV:Nat)(J:Ab)(N:Nat):Ah:=#[.int .u64 s.idx,.int .u64 s.term,.slice aV (eq s.Jq) cV,.slice J (eq s.data) N]
def GY(K:PH)(s:bE)(v:Value):Prop:=∃aV cV J N,v=.agg (dg s aV cV J N)/\aj K aV (eq s.Jq) cV 1 (iv s.Jq)/\aj K J (eq s.data) N 1 (bv s.data)
def E7{m:Ac}(lb db L D c)(hb:bh c L)(hm:d7 K lb db L D m):
  ai w0 17 [Rp lb] K (m++hs) (fun v K' hs'=>Le K K'/\hs'=m++hs/\GY K' L.sn v):=by
 obtain⟨wb,ag,eb,aV,cV,aD,cD,aL,cL,wh,hh,eh,gl,dh,rfl,hW,hH,hE,hG,hD,xV,xD⟩:=hm;have ak:=hb.Jq;have mK:=hb.data;refine ent Tryz.func17 ?_;refine acY (al 0 (.agg It) I qk fun b2=>fin 0 I (acV (fu 3 (dg L.sn aV cV aD cD).toList I qk (.inr ⟨1,I⟩) (nK _ I) (al 0 (.agg It) I qk fun b3=>?_))));refine bA 0 0 I I qk I I ?_;refine fin 0 I (acV (aX 2 0 I I I (cl 0 I (yx aV cV L.sn.Jq (.inl I) xV qo) ?_)));rintro am ad aa ⟨V,rfl,N,U,rfl,Z⟩;refine au ?_;refine cl 0 I (lJ aD cD L.sn.data (.inl I) (xD.le V) qo) ?_;rintro an ae ab ⟨rfl,X,J,O,rfl,rfl,Y⟩;refine Ji 1 1 I I I I (Ew (X::pt b3 (dg L.sn N U J O) 48::pt b2 It 48::_) I (fin 0 I (acV (fI 0 1 I I qk ?_))))
 refine bA 0 2 I I qk I I ?_;exact fin 0 I (ac0 (Ei fun K2 l1 l2=>kZ 1 2 I I I qk ⟨V.trans l1,I,N,U,J,O,I,Z.le l1,Y.Ni.le l2⟩))
def pW{m:Ac}(lb db L D c)(hb:bh c L)(hc:c<=1000000000)(hm:d7 K lb db L D m):
  ai w0 18 [Rp lb] K (m++hs) (fun v N hs'=>N=K/\hs'=m++hs/\v=.int .u64 (L.sn.idx+eq L.l:Nat)):=by
 obtain⟨wb,J,V,aV,cV,O,U,aL,cL,wh,hh,Y,Z,dh,rfl,hW,hH,hE,hG,hD,xV,xD⟩:=hm;have X:=hb.idx;have h2:=hb.len;unfold bX at X;refine cP Tryz.func18 ?_;refine bO [pt lb (eO wb db J V L aV cV O U aL cL) 119] 13 [0,2,4,6,8,10,12,14,16,18,20,22,24] Q8 qk qk (au ?_);refine bF qk 1 I (bL (x:=((eq L.l:Nat):Int)) qo) (bF qk 0 I (bL (x:=((L.sn.idx+eq L.l:Nat):Int)) qo) (au ?_));exact af I I ⟨I,I,I⟩
def sA{w0:World}{K:PH}{m hs:Ac}(lb db L D c)(hb:bh c L)(hc:c<=1000000000)(hm:d7 K lb db L D m)(i)(hi:i<2^64):
  ai w0 43 [Rp lb,.int .u64 (i:Nat)] K (m++hs) (fun v X hs'=>X=K/\hs'=m++hs/\v=QB (fA L.sn L.l i)):=by
 have U:=hm;obtain⟨wb,ad,eb,aV,cV,aD,cD,aL,cL,wh,hh,eh,gl,dh,rfl,hW,hH,hE,hG,hD,xV,xD⟩:=hm;have h2:=hb.len;refine cP Tryz.func43 ?_;refine aw 0 I fun Z J=>?_
 refine' dB (q:=L.sn.idx+eq L.l<i) 1 5 18 [12,13] J I I I I I I I (fun _=>?x2) (fun ab O=>?_)
 case x2=>
  refine cl 2 I (pW lb db L D c hb hc U) ?_;rintro ae Y V ⟨rfl,rfl,rfl⟩;exact aw 0 I fun aa N=>fin 1 I (bJ (N.trans qo) I I I)
 refine fin 0 I<|th (ax O I (fun e4=>?_) (fun e4=>?_))
 ·refine au ?_;refine bS I I I ⟨I,I,?_⟩;unfold fA;rw[aab qo]
  rfl
 refine au ?_;refine ar 0 I (Gl qo hi) (ar 0 I (FO qo qo) (ar 0 I (ba qo) (au ?_)));refine bS I I I ⟨I,I,?_⟩;unfold fA;rw[aaa qo]
 rfl
end
end Go.En
