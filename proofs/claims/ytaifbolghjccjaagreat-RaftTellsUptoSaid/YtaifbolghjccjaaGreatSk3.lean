/-
  Part 3 of what the proof needs (texts Tb Tc Td Te Tf Tg Th Ti Tj Tk Tl Tm Tn To Tp Tq Tr Ts Kf Wa Ua Ub Nl Uc Ud Wb Wc Wd We Wf Wg).
-/
import Derived.Test.YtaifbolghjccjaaGreatSk2
set_option linter.unusedSectionVars false
set_option linter.unusedSimpArgs false
set_option linter.unusedVariables false
set_option maxRecDepth 4000
namespace Go.En
open Go.Proofs Go.Proofs.YtaifbolghjccjaaGreat
section
def InvI(a i j:Nat)(xs:List Nat):Prop:=∀ p q,a<=p->p<q->q<=i->q≠j->xs.getD p 0<=xs.getD q 0
theorem InvI.start{a i:Nat}{xs:List Nat}(h:Srt a i xs):InvI a i i xs:=fun p q h1 h2 h3 h4=>h p q h1 h2 qo
theorem InvI.done{a i:Nat}{xs:List Nat}(h:InvI a i a xs):Srt a (i+1) xs:=fun p q h1 h2 h3=>h p q h1 h2 qo qo
theorem InvI.stop{a i j:Nat}{xs:List Nat}(h:InvI a i j xs)(hj:a<j)(hle:xs.getD (j-1) 0<=xs.getD j 0):Srt a (i+1) xs:=fun p q h1 h2 h3=>by
 by_cases e:q=j
 ·subst e
  by_cases e2:p=q-1
  ·subst e2;exact hle
  ·exact Nat.le_trans (h p (q-1) h1 qo qo qo) hle
 ·exact h p q h1 h2 qo e
theorem swp_getD{i j:Nat}{xs:List Nat}(hi:i<xs.length)(hj:j<xs.length)(k:Nat):(swp i j xs).getD k 0=if k=j then xs.getD i 0 else if k=i then xs.getD j 0 else xs.getD k 0:=by
 rw[List.getD_eq_getElem?_getD,swp_get hi hj]
 split
 ·rfl
 ·split
  ·rfl
  ·rw[List.getD_eq_getElem?_getD]
theorem InvI.swap{a i j:Nat}{xs:List Nat}(h:InvI a i j xs)(hj:a<j)(hi:j<=i)(hl:i<xs.length)(hlt:xs.getD j 0<xs.getD (j-1) 0):InvI a i (j-1) (swp j (j-1) xs):=fun p q h1 h2 h3 h4=>by
 rw[swp_getD qo qo,swp_getD qo qo];rw[if_neg h4]
 by_cases e1:q=j
 ·rw[if_pos e1]
  by_cases e2:p=j-1
  ·rw[if_pos e2];omega
  ·rw[if_neg e2,if_neg qo];exact h p (j-1) h1 qo qo qo
 ·rw[if_neg e1]
  by_cases e2:p=j-1
  ·rw[if_pos e2];exact h j q qo qo h3 e1
  ·rw[if_neg e2]
   by_cases e3:p=j
   ·rw[if_pos e3];exact h (j-1) q qo qo h3 e1
   ·rw[if_neg e3];exact h p q h1 h2 h3 e1
theorem Srt.zero(a:Nat)(xs:List Nat):Srt a (a+1) xs:=fun i j h1 h2 h3=>by omega
attribute [local irreducible] Code.wp wpList Calls
theorem nanC(kd:Bool){w0:World}{K:PH}{hs:List PH}(x:Nat):Ct Tryz.prog w0 (sf kd 273 268) [.int (kI kd) ((x:Nat):Int)] K hs (fun v K' hs'=>K'=K/\hs'=hs/\v=.bool false):=by
 cases kd
 let kd:Bool:=false
 rewrite [show sf false=sf kd from rfl]
 try rewrite [show kI false=kI kd from rfl]
 refine enter Tryz.func268 qk I I I ?_
 rotate_left
 let kd:Bool:=true
 rewrite [show sf true=sf kd from rfl]
 try rewrite [show kI true=kI kd from rfl]
 refine enter Tryz.func273 qk I I I ?_
 rotate_left
 all_goals
  exact sq<|rg (fin 1 I<|th (sq<|rg (cmp 2 I (fun h=>absurd I h) (fun h=>fin 1 I<|th (rt<|ret1 I I ⟨I,I,I⟩)))))
theorem lessC(kd:Bool){w0:World}{K:PH}{hs:List PH}(x y:Nat):Ct Tryz.prog w0 (sf kd 260 222) [.int (kI kd) ((x:Nat):Int),.int (kI kd) ((y:Nat):Int)] K hs (fun v K' hs'=>K'=K/\hs'=hs/\v=.bool (decide (x<y))):=by
 cases kd
 let kd:Bool:=false
 rewrite [show sf false=sf kd from rfl]
 try rewrite [show kI false=kI kd from rfl]
 refine enter Tryz.func222 qk I I I ?_
 rotate_left
 let kd:Bool:=true
 rewrite [show sf true=sf kd from rfl]
 try rewrite [show kI true=kI kd from rfl]
 refine enter Tryz.func260 qk I I I ?_
 rotate_left
 all_goals
  refine sq (rg (fin 1 I (th (sq (rg (cl 1 I (nanC kd x) ?_))))));rintro v6 K6 hs6 ⟨rfl,rfl,rfl⟩
  by_cases h:x<y
  ·refine cmp 8 I (fun h15=>fin 2 I (th (rt ?_))) (fun h15=>absurd qo h15);exact ret1 I I ⟨I,I,by rw[decide_eq_true h]⟩
  ·refine cmp 8 I (fun h15=>absurd h15 qo) (fun h15=>fin 2 I (th (rt ?_)));exact ret1 I I ⟨I,I,by rw[decide_eq_false h]⟩
theorem insC(kd:Bool){w0:World}{K:PH}{hs:List PH}(g cap:Nat)(pre post:List Value)(xs:List Nat)(a b:Nat)(hab:a<=b)(hb:b<=xs.length)(hc:xs.length<=cap)(hl:xs.length<=1099511627776):
  Ct Tryz.prog w0 (sf kd 254 216) [.slice (some ⟨g,pre.length,none⟩) xs.length cap,.int .i64 (a:Nat),.int .i64 (b:Nat)] K (pt g (kA kd pre xs post) (sf kd 29 3)::hs)
   (fun v K' hs'=>K'=K/\∃ ys,hs'=pt g (kA kd pre ys post) (sf kd 29 3)::hs/\SegP a b xs ys/\Srt a b ys):=by
 cases kd
 let kd:Bool:=false
 rewrite [show sf false=sf kd from rfl]
 try rewrite [show kA false=kA kd from rfl]
 refine enter Tryz.func216 qk I I I ?_
 rotate_left
 let kd:Bool:=true
 rewrite [show sf true=sf kd from rfl]
 try rewrite [show kA true=kA kd from rfl]
 refine enter Tryz.func254 qk I I I ?_
 rotate_left
 all_goals
  refine sq<|rg (ar 1 I (i64w (x:=((a+1:Nat):Int)) qo)<|fin 1 I (th<|bk ?_))
  refine loop (σ:=Nat×List Nat) (fun s=>[(0,.slice (some ⟨g,pre.length,none⟩) xs.length cap),(1,.int .i64 (a:Nat)),(2,.int .i64 (b:Nat)),(6,.int .i64 s.1)]) (fun _=>K) (fun s=>pt g (kA kd pre s.2 post) (sf kd 29 3)::hs)
   (fun s=>a+1<=s.1/\(s.1<=b\/s.1=a+1)/\SegP a b xs s.2/\Srt a s.1 s.2) (fun s=>b-s.1) (a+1,xs) ⟨Nat.le_refl _,.inr rfl,SegP.refl _ _ _,Srt.zero _ _⟩ ⟨rfl,rfl,rfl,rfl,trivial⟩ rfl rfl ?_
  rintro ⟨i,ys⟩ ⟨hi1,hi2,hP,hS⟩;dsimp only at *;refine sq (sq (rg (cmpS 2 I fun b12 h12=>fin 0 I (th (ifP h12 I (fun e2=>?_) (fun e2=>?_))))))
  ·have hib:i<b:=by omega
   refine sk<|th (sq<|bk (sq<|rg (fin 2 I<|th (bk ?_))))
   refine loop (σ:=Nat×List Nat) (fun s=>[(0,.slice (some ⟨g,pre.length,none⟩) xs.length cap),(1,.int .i64 (a:Nat)),(2,.int .i64 (b:Nat)),(6,.int .i64 (i:Nat)),(7,.int .i64 s.1)]) (fun _=>K) (fun s=>pt g (kA kd pre s.2 post) (sf kd 29 3)::hs)
    (fun s=>a<=s.1/\s.1<=i/\SegP a b xs s.2/\InvI a i s.1 s.2) (fun s=>s.1) (i,ys) ⟨by omega,Nat.le_refl _,hP,InvI.start hS⟩ ⟨rfl,rfl,rfl,rfl,rfl,trivial⟩ rfl rfl ?_
   rintro ⟨j,zs⟩ ⟨hj1,hj2,hQ,hV⟩;dsimp only at *;have hzl:zs.length=xs.length:=hQ.len;refine sq (sq (rga [pt g (kA kd pre zs post) (sf kd 29 3)] 15 [0,2,4,6,8,10,12,14,16,18,20,22,24,27,28] (by simp) qk qk (dcmp qk 2 (a<j) I (by simp) (fun h3=>?_) (fun h3=>?_))))
   ·refine dixs qk 3 j I I qo ?_;simp only[add_mk,Nat.mul_one];refine dldp qk 0 0 I I (kA_get qo) (dar qk 2 I (v':=.int .i64 (j-1:Nat)) (by rw[show ((j:Nat):Int)-1=((j-1:Nat):Int) from by omega];exact i64w qo) (dixs qk 0 (j-1) I I qo ?_));simp only[add_mk,Nat.mul_one];refine dldp qk 0 0 I I (kA_get qo) (dact qk 0 I (cl 0 I (lessC kd (zs.getD j 0) (zs.getD (j-1) 0)) ?_));rintro v29 K29 hs29 ⟨rfl,rfl,rfl⟩;refine dnx (by simp) I ?_
    by_cases hlt:zs.getD j 0<zs.getD (j-1) 0
    ·rw[decide_eq_true hlt];refine dend qk 1 I (th (ifT I ?_));have hgj:(kA kd pre zs post)[pre.length+j]?=some (.int (kI kd) ((zs.getD j 0:Nat):Int)):=kA_get qo;have hgj1:(kA kd pre zs post)[pre.length+(j-1)]?=some (.int (kI kd) ((zs.getD (j-1) 0:Nat):Int)):=kA_get qo;have hgj2:(kA kd pre (zs.set j (zs.getD (j-1) 0)) post)[pre.length+(j-1)]?=some (.int (kI kd) (((zs.set j (zs.getD (j-1) 0)).getD (j-1) 0:Nat):Int)):=kA_get (by rw[List.length_set];omega);refine sk (th (sq (bk (rga [pt g (kA kd pre zs post) (sf kd 29 3)] 15 [0,2,4,6,8,10,12,14,16,18,20,22,24,26,28,31,32,35] (by simp) qk qk (dar qk 4 I (v':=.int .i64 (j-1:Nat)) (by rw[show ((j:Nat):Int)-1=((j-1:Nat):Int) from by omega];exact i64w qo) (dar qk 2 I (v':=.int .i64 (j-1:Nat)) (by rw[show ((j:Nat):Int)-1=((j-1:Nat):Int) from by omega];exact i64w qo) (dixs qk 0 (j-1) I I qo ?_)))))))
     simp only[add_mk,Nat.mul_one];refine dldpw qk 0 0 I qk I hgj1 (dixs qk 2 j I I qo ?_);simp only[add_mk,Nat.mul_one];refine dldpw qk 0 0 I qk I hgj (dixs qk 0 j I I qo ?_);simp only[add_mk,Nat.mul_one];refine dact qk 0 I (stp 0 0 I I hgj I (dnext (.inl qk) (dixs qk 0 (j-1) I I qo ?_)));simp only[add_mk,Nat.mul_one];refine dact qk 0 I ?_;refine WL.hs (pt g (kA kd pre (zs.set j (zs.getD (j-1) 0)) post) (sf kd 29 3)::hs) (congrArg (fun z=>pt g z (sf kd 29 3)::hs) (kA_set qo)) (stp 0 0 I I hgj2 I (dnext (.inl qk) (dend qk 0 I (bl (th (rg (ar 1 I (v':=.int .i64 (j-1:Nat)) (by rw[show ((j:Nat):Int)-1=((j-1:Nat):Int) from by omega];exact i64w qo) (fin 1 I ?_))))))));exact again (x:=(j,zs)) (j-1,swp j (j-1) zs) ⟨I,I,I,I,I,trivial⟩ I (congrArg (fun z=>pt g z (sf kd 29 3)::hs) (kA_set (by rw[List.length_set];omega))) ⟨by omega,by omega,hQ.trans (SegP.swp ⟨by omega,by omega⟩ ⟨by omega,by omega⟩ qo),hV.swap h3 hj2 qo hlt⟩ (by dsimp only;omega)
    ·rw[decide_eq_false hlt];have hdone:Srt a (i+1) zs:=hV.stop h3 qo;exact dend qk 1 I (th (ifF I (ex (xt (xt (xb (bl (th (rg (ar 1 I (i64w (x:=((i+1:Nat):Int)) qo) (fin 1 I (again (x:=(i,ys)) (i+1,zs) ⟨I,I,I,I,trivial⟩ I I ⟨by omega,.inl qo,hQ,hdone⟩ (by dsimp only;omega)))))))))))))
   ·obtain rfl:j=a:=by omega
    have hdone:Srt j (i+1) zs:=hV.done;exact dact qk 10 I (WL.pures 1 I (dnx (by simp) I (dend qk 1 I (th (ifF I (ex (xt (xt (xb (bl (th (rg (ar 1 I (i64w (x:=((i+1:Nat):Int)) qo) (fin 1 I (again (x:=(i,ys)) (i+1,zs) ⟨I,I,I,I,trivial⟩ I I ⟨by omega,.inl qo,hQ,hdone⟩ (by dsimp only;omega))))))))))))))))
  ·refine ex (xt (xt (xb (end0 I ⟨I,ys,I,hP,?_⟩))));intro p q h1 h2 h3;exact hS p q h1 h2 qo
end
section
attribute [local irreducible] Code.wp wpList Calls
theorem ord2C(kd:Bool){w0:World}{K:PH}{hs:List PH}(g cap s:Nat)(pre post:List Value)(xs:List Nat)(a b:Nat)(n:Nat)(ha:a<xs.length)(hb:b<xs.length)(hc:xs.length<=cap)(hl:xs.length<=1099511627776)(hn:n<=1000):
  Ct Tryz.prog w0 (sf kd 275 274) [.slice (some ⟨g,pre.length,none⟩) xs.length cap,.int .i64 (a:Nat),.int .i64 (b:Nat),.pointer (some ⟨s,0,none⟩)] K (pt s #[.int .i64 (n:Nat)] 3::pt g (kA kd pre xs post) (sf kd 29 3)::hs)
   (fun v K' hs'=>K'=K/\∃ x y m:Nat,hs'=pt s #[.int .i64 (m:Nat)] 3::pt g (kA kd pre xs post) (sf kd 29 3)::hs/\v=.tuple #[.int .i64 (x:Nat),.int .i64 (y:Nat)]/\(x=a/\y=b\/x=b/\y=a)/\n<=m/\m<=n+1):=by
 cases kd
 let kd:Bool:=false
 rewrite [show sf false=sf kd from rfl]
 try rewrite [show kA false=kA kd from rfl]
 refine enter Tryz.func274 qk I I I ?_
 rotate_left
 let kd:Bool:=true
 rewrite [show sf true=sf kd from rfl]
 try rewrite [show kA true=kA kd from rfl]
 refine enter Tryz.func275 qk I I I ?_
 rotate_left
 all_goals
  refine sq (rg (fin 2 I (th (sq (sq (rga [pt g (kA kd pre xs post) (sf kd 29 3)] 9 [0,2,4,6,8,10,12,14,17] (by simp) qk qk (dixs qk 2 b I I qo ?_)))))));simp only[add_mk,Nat.mul_one];refine dldp qk 0 0 I I (kA_get hb) (dixs qk 2 a I I qo ?_);simp only[add_mk,Nat.mul_one];refine dldp qk 0 0 I I (kA_get ha) (dact qk 0 I (cl 0 I (lessC kd (xs.getD b 0) (xs.getD a 0)) ?_));rintro v18 K18 hs18 ⟨rfl,rfl,rfl⟩;refine dnx (by simp) I ?_
  by_cases hlt:xs.getD b 0<xs.getD a 0
  ·rw[decide_eq_true hlt];exact dend qk 0 I (th (ifT I (sq (rg (ldp 2 0 I I I (ar 0 I (i64w (x:=((n+1:Nat):Int)) qo) (stp 1 0 I I I I (fin 0 I (th (sq (rg (fin 4 I (th (rt (rT (ret2 I I I ⟨I,b,a,n+1,I,I,.inr ⟨I,I⟩,by omega,Nat.le_refl _⟩))))))))))))))))
  ·rw[decide_eq_false hlt];exact dend qk 0 I (th (ifF I (sk (th (sq (rg (fin 4 I (th (rt (ret2 I I I ⟨I,a,b,n,I,I,.inl ⟨I,I⟩,Nat.le_refl _,Nat.le_succ _⟩))))))))))
theorem medC(kd:Bool){w0:World}{K:PH}{hs:List PH}(g cap s:Nat)(pre post:List Value)(xs:List Nat)(a b c lo hi:Nat)(n:Nat)(ha:lo<=a/\a<hi)(hb:lo<=b/\b<hi)(hcc:lo<=c/\c<hi)(hh:hi<=xs.length)(hc:xs.length<=cap)(hl:xs.length<=1099511627776)(hn:n<=900):
  Ct Tryz.prog w0 (sf kd 272 267) [.slice (some ⟨g,pre.length,none⟩) xs.length cap,.int .i64 (a:Nat),.int .i64 (b:Nat),.int .i64 (c:Nat),.pointer (some ⟨s,0,none⟩)] K (pt s #[.int .i64 (n:Nat)] 3::pt g (kA kd pre xs post) (sf kd 29 3)::hs)
   (fun v K' hs'=>K'=K/\∃ x m:Nat,hs'=pt s #[.int .i64 (m:Nat)] 3::pt g (kA kd pre xs post) (sf kd 29 3)::hs/\v=.int .i64 (x:Nat)/\(lo<=x/\x<hi)/\n<=m/\m<=n+3):=by
 cases kd
 let kd:Bool:=false
 rewrite [show sf false=sf kd from rfl]
 try rewrite [show kA false=kA kd from rfl]
 refine enter Tryz.func267 qk I I I ?_
 rotate_left
 let kd:Bool:=true
 rewrite [show sf true=sf kd from rfl]
 try rewrite [show kA true=kA kd from rfl]
 refine enter Tryz.func272 qk I I I ?_
 rotate_left
 all_goals
  refine sq (rg (fin 1 I (th (sq (rg (cl 4 I (ord2C kd g cap s pre post xs a b n qo qo hc hl qo) ?_))))));rintro v16 K16 hs16 ⟨rfl,x1,y1,m1,rfl,rfl,h1,h2,h3⟩;refine fin 5 I (th (sq (rg (cl 4 I (ord2C kd g cap s pre post xs y1 c m1 qo qo hc hl qo) ?_))));rintro v24 K24 hs24 ⟨rfl,x2,y2,m2,rfl,rfl,h4,h5,h6⟩;refine fin 5 I (th (sq (rg (cl 4 I (ord2C kd g cap s pre post xs x1 x2 m2 qo qo hc hl qo) ?_))));rintro v32 K32 hs32 ⟨rfl,x3,y3,m3,rfl,rfl,h7,h8,h9⟩;exact fin 5 I (th (sq (rg (fin 2 I (th (rt (ret1 I I ⟨I,y3,m3,I,I,by omega,by omega,by omega⟩)))))))
theorem medAC(kd:Bool){w0:World}{K:PH}{hs:List PH}(g cap s:Nat)(pre post:List Value)(xs:List Nat)(a lo hi:Nat)(n:Nat)(ha:lo+1<=a/\a+1<hi)(hh:hi<=xs.length)(hc:xs.length<=cap)(hl:xs.length<=1099511627776)(hn:n<=900):
  Ct Tryz.prog w0 (sf kd 271 266) [.slice (some ⟨g,pre.length,none⟩) xs.length cap,.int .i64 (a:Nat),.pointer (some ⟨s,0,none⟩)] K (pt s #[.int .i64 (n:Nat)] 3::pt g (kA kd pre xs post) (sf kd 29 3)::hs)
   (fun v K' hs'=>K'=K/\∃ x m:Nat,hs'=pt s #[.int .i64 (m:Nat)] 3::pt g (kA kd pre xs post) (sf kd 29 3)::hs/\v=.int .i64 (x:Nat)/\(lo<=x/\x<hi)/\n<=m/\m<=n+3):=by
 cases kd
 let kd:Bool:=false
 rewrite [show sf false=sf kd from rfl]
 try rewrite [show kA false=kA kd from rfl]
 refine enter Tryz.func266 qk I I I ?_
 rotate_left
 let kd:Bool:=true
 rewrite [show sf true=sf kd from rfl]
 try rewrite [show kA true=kA kd from rfl]
 refine enter Tryz.func271 qk I I I ?_
 rotate_left
 all_goals
  refine sq (rg (fin 1 I (th (sq (rg (ar 2 I (v':=.int .i64 (a-1:Nat)) (by rw[show ((a:Nat):Int)-1=((a-1:Nat):Int) from by omega];exact i64w qo) (ar 2 I (i64w (x:=((a+1:Nat):Int)) qo) (cl 1 I (medC kd g cap s pre post xs (a-1) a (a+1) lo hi n qo qo qo hh hc hl hn) ?_))))))));rintro v14 K14 hs14 ⟨rfl,x,m,rfl,rfl,h1,h2,h3⟩;exact fin 1 I (th (rt (ret1 I I ⟨I,x,m,I,I,h1,h2,h3⟩)))
end
section
attribute [local irreducible] Code.wp wpList Calls
theorem quoN(n m:Nat)(h:n<9223372036854775808):Value.int .i64 (IntKind.i64.wrap (((n:Nat):Int).tdiv ((m:Nat):Int)))=.int .i64 (n / m:Nat):=by
 have h2:((n:Nat):Int).tdiv ((m:Nat):Int)=((n / m:Nat):Int):=by rw[Int.ofNat_tdiv]
 rw[h2];have h3:n / m<=n:=Nat.div_le_self n m;generalize n / m=z at h3 ⊢;exact i64w qo
theorem pivC(kd:Bool){w0:World}{K:PH}{hs:List PH}(g cap:Nat)(pre post:List Value)(xs:List Nat)(a b:Nat)(hab:a+8<=b)(hb:b<=xs.length)(hc:xs.length<=cap)(hl:xs.length<=1099511627776):
  Ct Tryz.prog w0 (sf kd 257 219) [.slice (some ⟨g,pre.length,none⟩) xs.length cap,.int .i64 (a:Nat),.int .i64 (b:Nat)] K (pt g (kA kd pre xs post) (sf kd 29 3)::hs)
   (fun v K' hs'=>K'=K/\hs'=pt g (kA kd pre xs post) (sf kd 29 3)::hs/\∃ x h:Nat,v=.tuple #[.int .i64 (x:Nat),.int .i64 (h:Nat)]/\(a<=x/\x<b)/\h<=2):=by
 cases kd
 let kd:Bool:=false
 rewrite [show sf false=sf kd from rfl]
 try rewrite [show kA false=kA kd from rfl]
 refine enter Tryz.func219 qk I I I ?_
 rotate_left
 let kd:Bool:=true
 rewrite [show sf true=sf kd from rfl]
 try rewrite [show kA true=kA kd from rfl]
 refine enter Tryz.func257 qk I I I ?_
 rotate_left
 all_goals
  refine sq (rg (fin 2 I (th (sq (rg (ar 2 I (v':=.int .i64 (b-a:Nat)) (by rw[show ((b:Nat):Int)-((a:Nat):Int)=((b-a:Nat):Int) from by omega];exact i64w qo) (fin 1 I (th (sq (rg (al 0 (.int .i64 0) I qk fun b9=>fin 0 I (th (sq (rg ?_))))))))))))));obtain ⟨q,hq⟩:∃ q,q=(b-a) / 4:=⟨_,rfl⟩;have hq1:4*q<=b-a/\2<=q:=by omega
  refine ar 2 I (v':=.int .i64 (q:Nat)) (by rw[hq];exact quoN (b-a) 4 qo) (ar 0 I (i64w (x:=((q*1:Nat):Int)) qo) (ar 0 I (i64w (x:=((a+q*1:Nat):Int)) qo) (fin 1 I (th (sq (rg (ar 2 I (v':=.int .i64 (q:Nat)) (by rw[hq];exact quoN (b-a) 4 qo) (ar 0 I (i64w (x:=((q*2:Nat):Int)) qo) (ar 0 I (i64w (x:=((a+q*2:Nat):Int)) qo) (fin 1 I (th (sq (rg (ar 2 I (v':=.int .i64 (q:Nat)) (by rw[hq];exact quoN (b-a) 4 qo) (ar 0 I (i64w (x:=((q*3:Nat):Int)) qo) (ar 0 I (i64w (x:=((a+q*3:Nat):Int)) qo) (fin 1 I (th (sq (sq (rg (cmp 1 I (fun h32=>fin 0 I (th (ifT I ?_))) (fun h32=>absurd qo h32)))))))))))))))))))))))
  refine jn (σ:=Nat×Nat×Nat×Nat) (fun s=>[(0,.slice (some ⟨g,pre.length,none⟩) xs.length cap),(9,.pointer (some ⟨b9,0,none⟩)),(10,.int .i64 s.1),(11,.int .i64 s.2.1),(12,.int .i64 s.2.2.1)])
   (fun s=>pt b9 #[.int .i64 s.2.2.2] 3::pt g (kA kd pre xs post) (sf kd 29 3)::hs) (fun s=>(a<=s.1/\s.1<b)/\(a<=s.2.1/\s.2.1<b)/\(a<=s.2.2.1/\s.2.2.1<b)/\s.2.2.2<=9) ?_ ?_
  ·refine sq<|rg (cmpS 1 I fun b34 h34=>fin 0 I<|th (ifP h34 I (fun e4=>?_) (fun e4=>?_)))
   ·refine sq (rg (cl 2 I (medAC kd g cap b9 pre post xs (a+q*1) a b 0 qo hb hc hl qo) ?_));rintro v37 K37 hs37 ⟨rfl,x1,m1,rfl,rfl,h1,h2,h3⟩;refine fin 1 I (th (sq (rg (cl 2 I (medAC kd g cap b9 pre post xs (a+q*2) a b m1 qo hb hc hl qo) ?_))));rintro v40 K40 hs40 ⟨rfl,x2,m2,rfl,rfl,h4,h5,h6⟩;refine fin 1 I (th (rg (cl 2 I (medAC kd g cap b9 pre post xs (a+q*3) a b m2 qo hb hc hl qo) ?_)));rintro v43 K43 hs43 ⟨rfl,x3,m3,rfl,rfl,h7,h8,h9⟩;exact fin 1 I (jx (x1,x2,x3,m3) ⟨h1,h4,h7,by dsimp only;omega⟩ ⟨rfl,rfl,rfl,rfl,rfl,trivial⟩ rfl rfl)
   ·exact sk (jx (a+q*1,a+q*2,a+q*3,0) ⟨by dsimp only;omega,by dsimp only;omega,by dsimp only;omega,by dsimp only;omega⟩ ⟨rfl,rfl,rfl,rfl,rfl,trivial⟩ rfl rfl)
  ·rintro ⟨i,j,k,n⟩ ⟨hi,hj,hk,hn⟩;dsimp only at *;refine rg (cl 4 I (medC kd g cap b9 pre post xs i j k a b n hi hj hk hb hc hl qo) ?_);rintro v48 K48 hs48 ⟨rfl,x,m,rfl,rfl,h1,h2,h3⟩;refine fin 1 I (th (sq (rg (ldp 0 0 I I I (fin 0 I (th (bk (sq (rg (cmpS 0 I fun b52 h52=>fin 1 I (th (ifP h52 I (fun e6=>?_) (fun e6=>?_)))))))))))))
   ·exact sq<|rg (fin 3 I<|th (rt<|rB (WQ.drop<|ret2 I I I ⟨I,I,x,1,I,h1,by decide⟩)))
   ·refine sq<|rg (cmpS 0 I fun b55 h55=>fin 1 I<|th (ifP h55 I (fun e8=>?_) (fun e8=>?_)))
    ·exact sq<|rg (fin 3 I<|th (rt<|rB (WQ.drop<|ret2 I I I ⟨I,I,x,2,I,h1,by decide⟩)))
    ·exact sq<|rg (fin 3 I<|th (rt<|rB (WQ.drop<|ret2 I I I ⟨I,I,x,0,I,h1,by decide⟩)))
end
section
attribute [local irreducible] Code.wp wpList Calls
theorem revRC(kd:Bool){w0:World}{K:PH}{hs:List PH}(g cap:Nat)(pre post:List Value)(xs:List Nat)(a b:Nat)(hab:a<b)(hb:b<=xs.length)(hc:xs.length<=cap)(hl:xs.length<=1099511627776):
  Ct Tryz.prog w0 (sf kd 258 220) [.slice (some ⟨g,pre.length,none⟩) xs.length cap,.int .i64 (a:Nat),.int .i64 (b:Nat)] K (pt g (kA kd pre xs post) (sf kd 29 3)::hs)
   (fun v K' hs'=>K'=K/\∃ ys,hs'=pt g (kA kd pre ys post) (sf kd 29 3)::hs/\SegP a b xs ys):=by
 cases kd
 let kd:Bool:=false
 rewrite [show sf false=sf kd from rfl]
 try rewrite [show kA false=kA kd from rfl]
 refine enter Tryz.func220 qk I I I ?_
 rotate_left
 let kd:Bool:=true
 rewrite [show sf true=sf kd from rfl]
 try rewrite [show kA true=kA kd from rfl]
 refine enter Tryz.func258 qk I I I ?_
 rotate_left
 all_goals
  refine sq (rg (fin 2 I (th (sq (rg (ar 1 I (v':=.int .i64 (b-1:Nat)) (by rw[show ((b:Nat):Int)-1=((b-1:Nat):Int) from by omega];exact i64w qo) (fin 1 I (th (bk ?_)))))))))
  refine loop (σ:=Nat×Nat×List Nat) (fun s=>[(0,.slice (some ⟨g,pre.length,none⟩) xs.length cap),(6,.int .i64 s.1),(7,.int .i64 s.2.1)]) (fun _=>K) (fun s=>pt g (kA kd pre s.2.2 post) (sf kd 29 3)::hs)
   (fun s=>a<=s.1/\s.1<=b/\s.2.1<b/\SegP a b xs s.2.2) (fun s=>b-s.1) (a,b-1,xs) ⟨Nat.le_refl _,by dsimp only;omega,by dsimp only;omega,SegP.refl _ _ _⟩ ⟨rfl,rfl,rfl,trivial⟩ rfl rfl ?_
  rintro ⟨i,j,ys⟩ ⟨hi1,hi2,hj,hP⟩;dsimp only at *;have hyl:ys.length=xs.length:=hP.len;refine sq (sq (rg (cmpS 2 I fun b13 h13=>fin 0 I (th (ifP h13 I (fun e2=>?_) (fun e2=>?_))))))
  ·have hij:i<j:=by omega
   have hgi:(kA kd pre ys post)[pre.length+i]?=some (.int (kI kd) ((ys.getD i 0:Nat):Int)):=kA_get qo;have hgj:(kA kd pre ys post)[pre.length+j]?=some (.int (kI kd) ((ys.getD j 0:Nat):Int)):=kA_get qo;have hgj2:(kA kd pre (ys.set i (ys.getD j 0)) post)[pre.length+j]?=some (.int (kI kd) (((ys.set i (ys.getD j 0)).getD j 0:Nat):Int)):=kA_get (by rw[List.length_set];omega);refine sk (th (bk (sq (rga [pt g (kA kd pre ys post) (sf kd 29 3)] 13 [0,2,4,6,8,10,12,14,16,18,20,22,24,27,28,31] (by simp) qk qk (dixs qk 6 j I I qo ?_)))));simp only[add_mk,Nat.mul_one];refine dldpw qk 0 0 I qk I hgj (dixs qk 2 i I I qo ?_);simp only[add_mk,Nat.mul_one];refine dldpw qk 0 0 I qk I hgi (dixs qk 0 i I I qo ?_);simp only[add_mk,Nat.mul_one];refine dact qk 0 I (stp 0 0 I I hgi I (dnext (.inl qk) (dixs qk 0 j I I qo ?_)))
   simp only[add_mk,Nat.mul_one];refine dact qk 0 I ?_;refine WL.hs (pt g (kA kd pre (ys.set i (ys.getD j 0)) post) (sf kd 29 3)::hs) (congrArg (fun z=>pt g z (sf kd 29 3)::hs) (kA_set qo)) (stp 0 0 I I hgj2 I (dnext (.inl qk) (dend qk 0 I (th (sq (rg (ar 1 I (i64w (x:=((i+1:Nat):Int)) qo) (fin 1 I (th (rg (ar 1 I (v':=.int .i64 (j-1:Nat)) (by rw[show ((j:Nat):Int)-1=((j-1:Nat):Int) from by omega];exact i64w qo) (fin 1 I (bl ?_)))))))))))));exact again (x:=(i,j,ys)) (i+1,j-1,swp i j ys) ⟨I,I,I,trivial⟩ I (congrArg (fun z=>pt g z (sf kd 29 3)::hs) (kA_set (by rw[List.length_set];omega))) ⟨by dsimp only;omega,by dsimp only;omega,by dsimp only;omega,hP.trans (SegP.swp ⟨by omega,by omega⟩ ⟨by omega,by omega⟩ qo)⟩ (by dsimp only;omega)
  ·exact ex<|xt (xt<|xb (end0 I ⟨I,ys,I,hP⟩))
end
section
def HpX(f lo hi:Nat)(ex:Nat->Prop)(xs:List Nat):Prop:=∀ i c,lo<=i->¬ex i->(c=2*i+1\/c=2*i+2)->c<hi->xs.getD (f+c) 0<=xs.getD (f+i) 0
def SftI(f lo hi r:Nat)(xs:List Nat):Prop:=
 HpX f lo hi (fun i=>i=r) xs/\∀ p c,lo<=p->(r=2*p+1\/r=2*p+2)->(c=2*r+1\/c=2*r+2)->c<hi->xs.getD (f+c) 0<=xs.getD (f+p) 0
theorem SftI.start{f lo hi:Nat}{xs:List Nat}(h:HpX f (lo+1) hi (fun _=>False) xs):SftI f lo hi lo xs:=
 ⟨fun i c h1 h2 h3 h4=>h i c qo (by simp) h3 h4,fun p c h1 h2=>by omega⟩
theorem SftI.leaf{f lo hi r:Nat}{xs:List Nat}(h:SftI f lo hi r xs)(hr:hi<=2*r+1):HpX f lo hi (fun _=>False) xs:=fun i c h1 _ h3 h4=>by
 by_cases e:i=r
 ·omega
 ·exact h.1 i c h1 e h3 h4
theorem SftI.stop{f lo hi r k:Nat}{xs:List Nat}(h:SftI f lo hi r xs)(hk:∀ c,(c=2*r+1\/c=2*r+2)->c<hi->xs.getD (f+c) 0<=xs.getD (f+k) 0)(hle:xs.getD (f+k) 0<=xs.getD (f+r) 0):HpX f lo hi (fun _=>False) xs:=fun i c h1 _ h3 h4=>by
 by_cases e:i=r
 ·subst e;exact Nat.le_trans (hk c h3 h4) hle
 ·exact h.1 i c h1 e h3 h4
theorem SftI.sink{f lo hi r k:Nat}{xs:List Nat}(h:SftI f lo hi r xs)(hlo:lo<=r)(hk0:k=2*r+1\/k=2*r+2)(hkh:k<hi)(hl:f+hi<=xs.length)(hk:∀ c,(c=2*r+1\/c=2*r+2)->c<hi->xs.getD (f+c) 0<=xs.getD (f+k) 0)(hlt:xs.getD (f+r) 0<xs.getD (f+k) 0):SftI f lo hi k (swp (f+r) (f+k) xs):=by
 have hg:∀ z,(swp (f+r) (f+k) xs).getD (f+z) 0=if z=k then xs.getD (f+r) 0 else if z=r then xs.getD (f+k) 0 else xs.getD (f+z) 0:=by
  intro z;rw[swp_getD qo qo]
  simp
 constructor
 ·intro i c h1 h2 h3 h4;rw[hg,hg];rw[if_neg h2]
  by_cases e2:i=r
  ·grind
  ·rw[if_neg e2]
   by_cases e1:c=k
   ·omega
   ·rw[if_neg e1]
    by_cases e3:c=r
    ·rw[if_pos e3];exact h.2 i k h1 qo hk0 hkh
    ·rw[if_neg e3];exact h.1 i c h1 e2 h3 h4
 ·intro p c h1 h2 h3 h4;have hp:p=r:=by omega
  subst hp;rw[hg,hg,if_neg qo,if_neg qo,if_neg qo,if_pos rfl];exact h.1 k c qo qo h3 h4
end
section
attribute [local irreducible] Code.wp wpList Calls
theorem siftC(kd:Bool){w0:World}{K:PH}{hs:List PH}(g cap:Nat)(pre post:List Value)(xs:List Nat)(lo hi f:Nat)(hb:f+hi<=xs.length)(hc:xs.length<=cap)(hl:xs.length<=1099511627776)(hlo:lo<=hi)(hp:HpX f (lo+1) hi (fun _=>False) xs):
  Ct Tryz.prog w0 (sf kd 270 263) [.slice (some ⟨g,pre.length,none⟩) xs.length cap,.int .i64 (lo:Nat),.int .i64 (hi:Nat),.int .i64 (f:Nat)] K (pt g (kA kd pre xs post) (sf kd 29 3)::hs)
   (fun v K' hs'=>K'=K/\∃ ys,hs'=pt g (kA kd pre ys post) (sf kd 29 3)::hs/\SegP (f+lo) (f+hi) xs ys/\HpX f lo hi (fun _=>False) ys):=by
 cases kd
 let kd:Bool:=false
 rewrite [show sf false=sf kd from rfl]
 try rewrite [show kA false=kA kd from rfl]
 refine enter Tryz.func263 qk I I I ?_
 rotate_left
 let kd:Bool:=true
 rewrite [show sf true=sf kd from rfl]
 try rewrite [show kA true=kA kd from rfl]
 refine enter Tryz.func270 qk I I I ?_
 rotate_left
 all_goals
  refine sq<|rg (fin 2 I<|th (bk ?_))
  refine loop (σ:=Nat×List Nat) (fun s=>[(0,.slice (some ⟨g,pre.length,none⟩) xs.length cap),(2,.int .i64 (hi:Nat)),(3,.int .i64 (f:Nat)),(8,.int .i64 s.1)]) (fun _=>K) (fun s=>pt g (kA kd pre s.2 post) (sf kd 29 3)::hs)
   (fun s=>lo<=s.1/\s.1<=hi/\SegP (f+lo) (f+hi) xs s.2/\SftI f lo hi s.1 s.2) (fun s=>hi-s.1) (lo,xs) ⟨Nat.le_refl _,hlo,SegP.refl _ _ _,SftI.start hp⟩ ⟨rfl,rfl,rfl,rfl,trivial⟩ rfl rfl ?_
  rintro ⟨r,ys⟩ ⟨hr1,hr2,hP,hS⟩;dsimp only at *;have hyl:ys.length=xs.length:=hP.len;refine bk (sq (rg (ar 1 I (i64w (x:=((2*r:Nat):Int)) qo) (ar 0 I (i64w (x:=((2*r+1:Nat):Int)) qo) (fin 1 I (th (sq (sq (rg (cmpS 2 I fun b16 h16=>fin 0 I (th (ifP h16 I (fun e2=>?_) (fun e2=>?_)))))))))))))
  ·exact ex<|xt (xn I<|xt (xb<|end0 I ⟨I,ys,I,hP,hS.leaf qo⟩))
  ·have hch:2*r+1<hi:=by omega
   refine sk<|th ?_
   refine jn (σ:=Nat) (fun k=>[(0,.slice (some ⟨g,pre.length,none⟩) xs.length cap),(2,.int .i64 (hi:Nat)),(3,.int .i64 (f:Nat)),(8,.int .i64 (r:Nat)),(9,.int .i64 (k:Nat))]) (fun _=>pt g (kA kd pre ys post) (sf kd 29 3)::hs)
    (fun k=>(k=2*r+1\/k=2*r+2)/\k<hi/\∀ c,(c=2*r+1\/c=2*r+2)->c<hi->ys.getD (f+c) 0<=ys.getD (f+k) 0) ?_ ?_
   ·refine sq (rga [pt g (kA kd pre ys post) (sf kd 29 3)] 20 [0,2,4,6,8,10,12,14,16,18,20,22,24,26,28,30,32,34,37,38] (by simp) qk qk (dar qk 1 I (i64w (x:=((2*r+1+1:Nat):Int)) qo) (dcmp qk 1 (2*r+1+1<hi) I (by simp;omega) (fun h3=>?_) (fun h3=>?_))))
    ·refine dar qk 4 I (i64w (x:=((f+(2*r+1):Nat):Int)) qo) (dixs qk 0 (f+(2*r+1)) I I qo ?_);simp only[add_mk,Nat.mul_one];refine dldp qk 0 0 I I (kA_get qo) (dar qk 3 I (i64w (x:=((f+(2*r+1):Nat):Int)) qo) (dar qk 0 I (i64w (x:=((f+(2*r+1)+1:Nat):Int)) qo) (dixs qk 0 (f+(2*r+1)+1) I I qo ?_)));simp only[add_mk,Nat.mul_one];refine dldp qk 0 0 I I (kA_get qo) (dact qk 0 I (cl 0 I (lessC kd (ys.getD (f+(2*r+1)) 0) (ys.getD (f+(2*r+1)+1) 0)) ?_));rintro v35 K35 hs35 ⟨rfl,rfl,rfl⟩;refine dnx (by simp) I ?_
     by_cases hlt:ys.getD (f+(2*r+1)) 0<ys.getD (f+(2*r+1)+1) 0
     ·rw[decide_eq_true hlt];refine dend qk 1 I (th (ifT I (rg (ar 1 I (i64w (x:=((2*r+1+1:Nat):Int)) qo) (fin 1 I (jx (2*r+1+1) ⟨.inr I,h3,fun c h4 h5=>?_⟩ ⟨I,I,I,I,I,trivial⟩ I I))))));rcases h4 with rfl|rfl
      ·exact Nat.le_of_lt hlt
      ·exact Nat.le_refl _
     ·rw[decide_eq_false hlt];refine dend qk 1 I (th (ifF I (sk (jx (2*r+1) ⟨.inl I,hch,fun c h4 h5=>?_⟩ ⟨I,I,I,I,I,trivial⟩ I I))));rcases h4 with rfl|rfl
      ·exact Nat.le_refl _
      ·exact Nat.le_of_not_lt hlt
    ·refine dact qk 14 I (WL.pures 1 I (dnx (by simp) I (dend qk 1 I (th (ifF I (sk (jx (2*r+1) ⟨.inl I,hch,fun c h4 h5=>?_⟩ ⟨I,I,I,I,I,trivial⟩ I I)))))));have:c=2*r+1:=by omega
     rw[this];exact Nat.le_refl _
   ·rintro k ⟨hk1,hk2,hk3⟩;have hrl:f+r<ys.length:=by omega
    have hkl:f+k<ys.length:=by omega
    have hgr:(kA kd pre ys post)[pre.length+(f+r)]?=some (.int (kI kd) ((ys.getD (f+r) 0:Nat):Int)):=kA_get hrl;have hgk:(kA kd pre ys post)[pre.length+(f+k)]?=some (.int (kI kd) ((ys.getD (f+k) 0:Nat):Int)):=kA_get hkl;have hgk2:(kA kd pre (ys.set (f+r) (ys.getD (f+k) 0)) post)[pre.length+(f+k)]?=some (.int (kI kd) (((ys.set (f+r) (ys.getD (f+k) 0)).getD (f+k) 0:Nat):Int)):=kA_get (by rw[List.length_set];exact hkl);refine sq (sq (rga [pt g (kA kd pre ys post) (sf kd 29 3)] 14 [0,2,4,6,8,10,12,14,16,18,20,22,25,26] (by simp) qk qk (dar qk 3 I (i64w (x:=((f+r:Nat):Int)) qo) (dixs qk 0 (f+r) I I qo ?_))));simp only[add_mk,Nat.mul_one];refine dldp qk 0 0 I I hgr (dar qk 3 I (i64w (x:=((f+k:Nat):Int)) qo) (dixs qk 0 (f+k) I I qo ?_));simp only[add_mk,Nat.mul_one];refine dldp qk 0 0 I I hgk (dact qk 0 I (cl 0 I (lessC kd (ys.getD (f+r) 0) (ys.getD (f+k) 0)) ?_))
    rintro v51 K51 hs51 ⟨rfl,rfl,rfl⟩;refine dnx (by simp) I ?_
    by_cases hlt:ys.getD (f+r) 0<ys.getD (f+k) 0
    ·rw[decide_eq_true hlt];refine dend qk 1 I (th (ifF I (sk (th (sq (rga [pt g (kA kd pre ys post) (sf kd 29 3)] 21 [0,2,4,6,8,10,12,14,16,18,20,22,24,26,28,30,32,34,36,38,40,43,44,47] (by simp) qk qk (dar qk 3 I (i64w (x:=((f+r:Nat):Int)) qo) (dar qk 3 I (i64w (x:=((f+k:Nat):Int)) qo) (dar qk 3 I (i64w (x:=((f+k:Nat):Int)) qo) (dixs qk 0 (f+k) I I qo ?_))))))))));simp only[add_mk,Nat.mul_one];refine dldpw qk 0 0 I qk I hgk (dar qk 3 I (i64w (x:=((f+r:Nat):Int)) qo) (dixs qk 0 (f+r) I I qo ?_));simp only[add_mk,Nat.mul_one];refine dldpw qk 0 0 I qk I hgr (dixs qk 0 (f+r) I I qo ?_);simp only[add_mk,Nat.mul_one];refine dact qk 0 I (stp 0 0 I I hgr I (dnext (.inl qk) (dixs qk 0 (f+k) I I qo ?_)))
     simp only[add_mk,Nat.mul_one];refine dact qk 0 I ?_;refine WL.hs (pt g (kA kd pre (ys.set (f+r) (ys.getD (f+k) 0)) post) (sf kd 29 3)::hs) (congrArg (fun z=>pt g z (sf kd 29 3)::hs) (kA_set hrl)) (stp 0 0 I I hgk2 I (dnext (.inl qk) (dend qk 0 I (th (rg (fin 2 I (bl ?_)))))));exact again (x:=(r,ys)) (k,swp (f+r) (f+k) ys) ⟨I,I,I,I,trivial⟩ I (congrArg (fun z=>pt g z (sf kd 29 3)::hs) (kA_set (by rw[List.length_set];exact hkl))) ⟨by dsimp only;omega,by dsimp only;omega,hP.trans (SegP.swp ⟨by omega,by omega⟩ ⟨by omega,by omega⟩ qo),hS.sink hr1 hk1 hk2 qo hk3 hlt⟩ (by dsimp only;omega)
    ·rw[decide_eq_false hlt];exact dend qk 1 I (th (ifT I (rt (rT (rB (rT (rB (ret0 I ⟨I,ys,I,hP,hS.stop hk3 qo⟩))))))))
end
section
theorem HpX.max{f n:Nat}{xs:List Nat}(h:HpX f 0 n (fun _=>False) xs):∀ c,c<n->xs.getD (f+c) 0<=xs.getD (f+0) 0
 | 0,_=>Nat.le_refl _
 | c+1,hc=>by
  have hp:c / 2<c+1:=by omega
  have h1:=h (c / 2) (c+1) (Nat.zero_le _) (by simp) qo hc;have h2:=HpX.max h (c / 2) qo;exact Nat.le_trans h1 h2
theorem HpX.none{f lo hi:Nat}{xs:List Nat}(h:hi<=2*lo+1):HpX f lo hi (fun _=>False) xs:=fun i c h1 _ h3 h4=>by omega
theorem split3{a b:Nat}(xs:List Nat)(hab:a<=b):xs=xs.take a++((xs.drop a).take (b-a)++xs.drop b):=by
 have h1:xs.drop b=(xs.drop a).drop (b-a):=by rw[List.drop_drop];congr 1;omega
 grind [List.take_append_drop]
theorem SegP.seg{a b:Nat}{xs ys:List Nat}(h:SegP a b xs ys)(hab:a<=b):((ys.drop a).take (b-a)).Perm ((xs.drop a).take (b-a)):=by
 have e1:ys.take a=xs.take a:=by
  apply List.ext_getElem?
  intro i
  by_cases hi:i<a
  ·rw[List.getElem?_take_of_lt hi,List.getElem?_take_of_lt hi,h.out i (.inl hi)]
  grind
 have e2:ys.drop b=xs.drop b:=by
  apply List.ext_getElem?
  intro i;rw[List.getElem?_drop,List.getElem?_drop,h.out (b+i) (.inr qo)]
 have hp:=h.perm
 grind [split3,List.perm_append_right_iff,List.perm_append_left_iff]
theorem SegP.mem{a b:Nat}{xs ys:List Nat}(h:SegP a b xs ys)(hb:b<=xs.length){p:Nat}(h1:a<=p)(h2:p<b):∃ q,a<=q/\q<b/\ys.getD p 0=xs.getD q 0:=by
 have hs:=h.seg qo;have hyl:=h.len
 have hm:ys.getD p 0∈(ys.drop a).take (b-a):=by
  rw[List.mem_iff_getElem?];refine ⟨p-a,?_⟩
  grind
 obtain ⟨i,hi⟩:=List.mem_iff_getElem?.1 (hs.mem_iff.1 hm);have hil:=(List.getElem?_eq_some_iff.1 hi).1;simp only[List.length_take,List.length_drop] at hil;rw[List.getElem?_take_of_lt qo,List.getElem?_drop] at hi;exact ⟨a+i,by omega,by omega,by simp_all⟩
def HsI(f n hi:Nat)(xs:List Nat):Prop:=HpX f 0 n (fun _=>False) xs/\∀ p q,n<=q->q<hi->p<q->xs.getD (f+p) 0<=xs.getD (f+q) 0
theorem HsI.swap{f i hi:Nat}{xs:List Nat}(h:HsI f (i+1) hi xs)(hh:i<hi)(hl:f+hi<=xs.length):HpX f (0+1) i (fun _=>False) (swp f (f+i) xs):=fun j c h1 h2 h3 h4=>by
 rw[swp_getD qo qo,swp_getD qo qo,if_neg qo,if_neg qo,if_neg qo,if_neg qo];exact h.1 j c (Nat.zero_le _) (by simp) h3 qo
theorem HsI.step{f i hi:Nat}{xs zs:List Nat}(h:HsI f (i+1) hi xs)(hh:i<hi)(hl:f+hi<=xs.length)(hP:SegP (f+0) (f+i) (swp f (f+i) xs) zs)(hz:HpX f 0 i (fun _=>False) zs):HsI f i hi zs:=by
 refine ⟨hz,fun p q h1 h2 h3=>?_⟩;have hsl:=swp_len f (f+i) xs
 have hz1:∀ z,i<=z->z<hi->zs.getD (f+z) 0=(swp f (f+i) xs).getD (f+z) 0:=fun z g1 g2=>by
  rw[List.getD_eq_getElem?_getD,hP.out (f+z) (.inr qo),List.getD_eq_getElem?_getD]
 have hs:∀ z,z<hi->(swp f (f+i) xs).getD (f+z) 0=if z=i then xs.getD f 0 else if z=0 then xs.getD (f+i) 0 else xs.getD (f+z) 0:=fun z g=>by
  rw[swp_getD qo qo]
  simp
 have hlow:∀ z,z<i->∃ y,y<=i/\zs.getD (f+z) 0=xs.getD (f+y) 0:=fun z g=>by
  obtain ⟨w,w1,w2,w3⟩:=hP.mem qo (p:=f+z) qo qo;rw[w3,show w=f+(w-f) from by omega,hs (w-f) qo]
  grind
 have hmax:∀ y,y<=i->xs.getD (f+y) 0<=xs.getD f 0:=fun y g=>h.1.max y qo;have hbig:∀ y q,y<=i->i<q->q<hi->xs.getD (f+y) 0<=xs.getD (f+q) 0:=fun y q g1 g2 g3=>h.2 y q qo g3 qo;rw[hz1 q h1 h2,hs q h2]
 by_cases e:q=i
 ·grind
 ·rw[if_neg e,if_neg qo]
  by_cases e1:p<i
  ·obtain ⟨y,g1,g2⟩:=hlow p e1;rw[g2];exact hbig y q g1 qo h2
  ·rw[hz1 p qo qo,hs p qo]
   by_cases e2:p=i
   ·rw[if_pos e2];exact hbig 0 q (Nat.zero_le _) qo h2
   ·rw[if_neg e2,if_neg qo];exact h.2 p q qo h2 h3
theorem HsI.start{f hi:Nat}{xs:List Nat}(h:HpX f 0 hi (fun _=>False) xs):HsI f hi hi xs:=⟨h,fun p q h1 h2=>by omega⟩
theorem HsI.done{a b:Nat}{xs:List Nat}(h:HsI a 0 (b-a) xs):Srt a b xs:=fun i j h1 h2 h3=>by
 have:=h.2 (i-a) (j-a) (Nat.zero_le _) qo qo
 grind
end
section
attribute [local irreducible] Code.wp wpList Calls
theorem heapC(kd:Bool){w0:World}{K:PH}{hs:List PH}(g cap:Nat)(pre post:List Value)(xs:List Nat)(a b:Nat)(hab:a<b)(hb:b<=xs.length)(hc:xs.length<=cap)(hl:xs.length<=1099511627776):
  Ct Tryz.prog w0 (sf kd 255 217) [.slice (some ⟨g,pre.length,none⟩) xs.length cap,.int .i64 (a:Nat),.int .i64 (b:Nat)] K (pt g (kA kd pre xs post) (sf kd 29 3)::hs)
   (fun v K' hs'=>K'=K/\∃ ys,hs'=pt g (kA kd pre ys post) (sf kd 29 3)::hs/\SegP a b xs ys/\Srt a b ys):=by
 cases kd
 let kd:Bool:=false
 rewrite [show sf false=sf kd from rfl]
 try rewrite [show kA false=kA kd from rfl]
 rotate_left
 let kd:Bool:=true
 rewrite [show sf true=sf kd from rfl]
 try rewrite [show kA true=kA kd from rfl]
 rotate_left
 all_goals
  obtain ⟨hi,hhi⟩:∃ hi,hi=b-a:=⟨_,rfl⟩
 refine enter Tryz.func217 qk I I I ?_
 rotate_left
 refine enter Tryz.func255 qk I I I ?_
 rotate_left
 all_goals
  refine sq (rg (fin 2 I (th (sq (rg (fin 1 I (th (sq (rg (ar 2 I (v':=.int .i64 (hi:Nat)) (by rw[show ((b:Nat):Int)-((a:Nat):Int)=((hi:Nat):Int) from by omega];exact i64w qo) (fin 1 I (th (sq (sq (rg (ar 1 I (v':=.int .i64 (hi-1:Nat)) (by rw[show ((hi:Nat):Int)-1=((hi-1:Nat):Int) from by omega];exact i64w qo) (ar 0 I (v':=.int .i64 ((((hi-1) / 2+1:Nat):Int)-1)) (by rw[show ((((hi-1) / 2+1:Nat):Int)-1)=(((hi-1) / 2:Nat):Int) from by omega];exact quoN (hi-1) 2 qo) (fin 1 I (th (bk ?_))))))))))))))))))))
  refine loop (σ:=Nat×List Nat) (fun s=>[(0,.slice (some ⟨g,pre.length,none⟩) xs.length cap),(6,.int .i64 (a:Nat)),(7,.int .i64 0),(8,.int .i64 (hi:Nat)),(9,.int .i64 (((s.1:Nat):Int)-1))]) (fun _=>K) (fun s=>pt g (kA kd pre s.2 post) (sf kd 29 3)::hs)
   (fun s=>s.1<=hi/\SegP a b xs s.2/\HpX a s.1 hi (fun _=>False) s.2) (fun s=>s.1) ((hi-1) / 2+1,xs) ⟨by dsimp only;omega,SegP.refl _ _ _,HpX.none qo⟩ ⟨rfl,rfl,rfl,rfl,rfl,trivial⟩ rfl rfl ?_
  rintro ⟨n,ys⟩ ⟨hn,hP,hH⟩;dsimp only at *;have hyl:ys.length=xs.length:=hP.len;refine sq (sq (rg (cmpS 1 I fun b19 h19=>fin 0 I (th (ifP h19 I (fun e2=>?_) (fun e2=>?_))))))
  ·obtain ⟨k,rfl⟩:∃ k,n=k+1:=⟨n-1,by omega⟩;rw[show ((k+1:Nat):Int)-1=((k:Nat):Int) from by omega];refine sk (th (sq (bk (rg ?_))));have hs1:=siftC kd (w0:=w0) (K:=K) (hs:=hs) g cap pre post ys k hi a qo qo qo qo hH;rw[hyl] at hs1;refine cl 4 I hs1 ?_;rintro v26 K26 hs26 ⟨rfl,zs,rfl,hQ,hH2⟩;exact fin 0 I (bl (th (rg (ar 1 I (i64w qo) (fin 1 I (again (x:=(k+1,ys)) (k,zs) ⟨I,I,I,I,I,trivial⟩ I I ⟨by dsimp only;omega,hP.trans (hQ.wide qo qo),hH2⟩ (by dsimp only;omega)))))))
  ·obtain rfl:n=0:=by omega
   refine ex<|xt (xt<|xb (th<|sq (rg<|ar 1 I (i64w qo) (fin 1 I<|th (bk ?_)))))
   refine loop (σ:=Nat×List Nat) (fun s=>[(0,.slice (some ⟨g,pre.length,none⟩) xs.length cap),(6,.int .i64 (a:Nat)),(7,.int .i64 0),(10,.int .i64 (((s.1:Nat):Int)-1))]) (fun _=>K) (fun s=>pt g (kA kd pre s.2 post) (sf kd 29 3)::hs)
    (fun s=>s.1<=hi/\SegP a b xs s.2/\HsI a s.1 hi s.2) (fun s=>s.1) (hi,ys) ⟨Nat.le_refl _,hP,HsI.start hH⟩ ⟨rfl,rfl,rfl,rfl,trivial⟩ rfl rfl ?_
   rintro ⟨n,zs⟩ ⟨hn2,hQ,hI⟩;dsimp only at *;have hzl:zs.length=xs.length:=hQ.len;refine sq (sq (rg (cmpS 1 I fun b30 h30=>fin 0 I (th (ifP h30 I (fun e4=>?_) (fun e4=>?_))))))
   ·obtain ⟨k,rfl⟩:∃ k,n=k+1:=⟨n-1,by omega⟩;rw[show ((k+1:Nat):Int)-1=((k:Nat):Int) from by omega];have hg0:(kA kd pre zs post)[pre.length+a]?=some (.int (kI kd) ((zs.getD a 0:Nat):Int)):=kA_get qo;have hgk:(kA kd pre zs post)[pre.length+(a+k)]?=some (.int (kI kd) ((zs.getD (a+k) 0:Nat):Int)):=kA_get qo;have hgk2:(kA kd pre (zs.set a (zs.getD (a+k) 0)) post)[pre.length+(a+k)]?=some (.int (kI kd) (((zs.set a (zs.getD (a+k) 0)).getD (a+k) 0:Nat):Int)):=kA_get (by rw[List.length_set];omega);refine sk (th (sq (bk (sq (rga [pt g (kA kd pre zs post) (sf kd 29 3)] 17 [0,2,4,6,8,10,12,14,16,18,20,22,24,26,28,30,32,35,36,39] (by simp) qk qk (dar qk 5 I (i64w (x:=((a+k:Nat):Int)) qo) (dar qk 3 I (i64w (x:=((a+k:Nat):Int)) qo) (dixs qk 0 (a+k) I I qo ?_))))))));simp only[add_mk,Nat.mul_one]
    refine dldpw qk 0 0 I qk I hgk (dixs qk 2 a I I qo ?_);simp only[add_mk,Nat.mul_one];refine dldpw qk 0 0 I qk I hg0 (dixs qk 0 a I I qo ?_);simp only[add_mk,Nat.mul_one];refine dact qk 0 I (stp 0 0 I I hg0 I (dnext (.inl qk) (dixs qk 0 (a+k) I I qo ?_)));simp only[add_mk,Nat.mul_one];refine dact qk 0 I ?_;refine WL.hs (pt g (kA kd pre (zs.set a (zs.getD (a+k) 0)) post) (sf kd 29 3)::hs) (congrArg (fun z=>pt g z (sf kd 29 3)::hs) (kA_set qo)) (stp 0 0 I I hgk2 I ?_);refine WL.hs (pt g (kA kd pre (swp a (a+k) zs) post) (sf kd 29 3)::hs) (congrArg (fun z=>pt g z (sf kd 29 3)::hs) (kA_set (by rw[List.length_set];omega))) (dnext (.inl qk) (dend qk 0 rfl (th (rg ?_))));have hs1:=siftC kd (w0:=w0) (K:=K) (hs:=hs) g cap pre post (swp a (a+k) zs) 0 k a (by rw[swp_len];omega) (by rw[swp_len];omega) (by rw[swp_len];omega) (Nat.zero_le _) (hI.swap qo qo)
    rw[swp_len,hzl] at hs1;refine cl 4 I hs1 ?_;rintro v55 K55 hs55 ⟨rfl,us,rfl,hU,hH2⟩;exact fin 0 I (bl (th (rg (ar 1 I (i64w qo) (fin 1 I (again (x:=(k+1,zs)) (k,us) ⟨I,I,I,I,trivial⟩ I I ⟨by dsimp only;omega,(hQ.trans (SegP.swp ⟨by omega,by omega⟩ ⟨by omega,by omega⟩ qo)).trans (hU.wide qo qo),hI.step qo qo hU hH2⟩ (by dsimp only;omega)))))))
   ·obtain rfl:n=0:=by omega
    refine ex (xt (xt (xb ?_)));subst hhi;exact end0 I ⟨I,zs,I,hQ,hI.done⟩
end
section
structure PrtI (P Q:Nat->Nat->Prop) (a b i j:Nat) (xs:List Nat):Prop where
 i1:a+1<=i
 ij:i<=j+1
 jb:j+1<=b
 lo:∀ p,a+1<=p->p<i->P (xs.getD p 0) (xs.getD a 0)
 hi:∀ p,j<p->p<b->Q (xs.getD p 0) (xs.getD a 0)
theorem PrtI.start(P Q:Nat->Nat->Prop){a b:Nat}{xs:List Nat}(h:a<b):PrtI P Q a b (a+1) (b-1) xs:=
 ⟨Nat.le_refl _,by omega,by omega,fun p h1 h2=>by omega,fun p h1 h2=>by omega⟩
theorem PrtI.up{P Q:Nat->Nat->Prop}{a b i j:Nat}{xs:List Nat}(h:PrtI P Q a b i j xs)(hij:i<=j)(hp:P (xs.getD i 0) (xs.getD a 0)):PrtI P Q a b (i+1) j xs:=
 ⟨by have:=h.i1;omega,by omega,h.jb,fun p h1 h2=>by
  by_cases e:p=i
  ·rw[e];exact hp
  ·exact h.lo p h1 qo,h.hi⟩
theorem PrtI.down{P Q:Nat->Nat->Prop}{a b i j:Nat}{xs:List Nat}(h:PrtI P Q a b i j xs)(hij:i<=j)(hq:Q (xs.getD j 0) (xs.getD a 0)):PrtI P Q a b i (j-1) xs:=
 ⟨h.i1,by omega,by have:=h.jb;omega,h.lo,fun p h1 h2=>by
  by_cases e:p=j
  ·rw[e];exact hq
  ·exact h.hi p qo h2⟩
theorem PrtI.swap{P Q:Nat->Nat->Prop}{a b i j:Nat}{xs:List Nat}(h:PrtI P Q a b i j xs)(hij:i<j)(hl:b<=xs.length)(hp:P (xs.getD j 0) (xs.getD a 0))(hq:Q (xs.getD i 0) (xs.getD a 0)):PrtI P Q a b (i+1) (j-1) (swp i j xs):=by
 have h1:=h.i1;have h2:=h.jb;have hg:∀ k,(swp i j xs).getD k 0=if k=j then xs.getD i 0 else if k=i then xs.getD j 0 else xs.getD k 0:=swp_getD qo qo;have ha:(swp i j xs).getD a 0=xs.getD a 0:=by grind
 refine ⟨by omega,by omega,by omega,fun p h3 h4=>?_,fun p h3 h4=>?_⟩
 ·rw[ha,hg,if_neg qo]
  by_cases e:p=i
  ·rw[if_pos e];exact hp
  ·rw[if_neg e];exact h.lo p h3 qo
 ·rw[ha,hg]
  by_cases e:p=j
  ·rw[if_pos e];exact hq
  ·rw[if_neg e,if_neg qo];exact h.hi p qo h4
theorem PrtI.last{P Q:Nat->Nat->Prop}{a b j:Nat}{xs:List Nat}(h:PrtI P Q a b (j+1) j xs)(hl:b<=xs.length):
  (∀ p,a<=p->p<j->P ((swp j a xs).getD p 0) ((swp j a xs).getD j 0))/\∀ p,j<p->p<b->Q ((swp j a xs).getD p 0) ((swp j a xs).getD j 0):=by
 have h1:=h.i1;have h2:=h.jb;have hg:∀ k,(swp j a xs).getD k 0=if k=a then xs.getD j 0 else if k=j then xs.getD a 0 else xs.getD k 0:=swp_getD qo qo
 have hj:(swp j a xs).getD j 0=xs.getD a 0:=by
  simp_all
 refine ⟨fun p h3 h4=>?_,fun p h3 h4=>?_⟩
 ·rw[hj,hg]
  by_cases e:p=a
  ·rw[if_pos e];exact h.lo j qo qo
  ·rw[if_neg e,if_neg qo];exact h.lo p qo qo
 ·rw[hj,hg,if_neg qo,if_neg qo];exact h.hi p h3 h4
theorem Srt.join{a b m:Nat}{xs:List Nat}(h1:Srt a m xs)(h2:Srt (m+1) b xs)(hlo:∀ p,a<=p->p<m->xs.getD p 0<=xs.getD m 0)(hhi:∀ p,m<p->p<b->xs.getD m 0<=xs.getD p 0):Srt a b xs:=fun i j g1 g2 g3=>by
 by_cases e1:j<m
 ·exact h1 i j g1 g2 e1
 ·by_cases e2:j=m
  ·subst e2;exact hlo i g1 g2
  ·by_cases e3:i=m
   ·subst e3;exact hhi j qo g3
   ·by_cases e4:i<m
    ·grind
    ·exact h2 i j qo g2 g3
end
section
attribute [local irreducible] Code.wp wpList Calls
theorem parEC(kd:Bool){w0:World}{K:PH}{hs:List PH}(g cap:Nat)(pre post:List Value)(xs:List Nat)(a b pv:Nat)(hab:a<b)(hpv:a<=pv/\pv<b)(hb:b<=xs.length)(hc:xs.length<=cap)(hl:xs.length<=1099511627776):
  Ct Tryz.prog w0 (sf kd 261 223) [.slice (some ⟨g,pre.length,none⟩) xs.length cap,.int .i64 (a:Nat),.int .i64 (b:Nat),.int .i64 (pv:Nat)] K (pt g (kA kd pre xs post) (sf kd 29 3)::hs)
   (fun v K' hs'=>K'=K/\∃ ys,∃ i:Nat,hs'=pt g (kA kd pre ys post) (sf kd 29 3)::hs/\v=.int .i64 (i:Nat)/\SegP a b xs ys/\a+1<=i/\i<=b/\(∀ p,a+1<=p->p<i->ys.getD p 0<=ys.getD a 0)/\(∀ p,i<=p->p<b->ys.getD a 0<ys.getD p 0)/\ys.getD a 0=xs.getD pv 0):=by
 cases kd
 let kd:Bool:=false
 rewrite [show sf false=sf kd from rfl]
 try rewrite [show kA false=kA kd from rfl]
 refine enter Tryz.func223 qk I I I ?_
 rotate_left
 let kd:Bool:=true
 rewrite [show sf true=sf kd from rfl]
 try rewrite [show kA true=kA kd from rfl]
 refine enter Tryz.func261 qk I I I ?_
 rotate_left
 all_goals
  refine sq (rg ?_);have hgi:(kA kd pre xs post)[pre.length+a]?=some (.int (kI kd) ((xs.getD a 0:Nat):Int)):=kA_get qo;have hgj:(kA kd pre xs post)[pre.length+pv]?=some (.int (kI kd) ((xs.getD pv 0:Nat):Int)):=kA_get qo;have hgj2:(kA kd pre (xs.set a (xs.getD pv 0)) post)[pre.length+pv]?=some (.int (kI kd) (((xs.set a (xs.getD pv 0)).getD pv 0:Nat):Int)):=kA_get (by rw[List.length_set];omega);refine fin 1 I (th (sq (rga [pt g (kA kd pre xs post) (sf kd 29 3)] 13 [0,2,4,6,8,10,12,14,16,18,20,22,24,27,28,31] (by simp) qk qk (dixs qk 6 pv I I qo ?_))));simp only[add_mk,Nat.mul_one];refine dldpw qk 0 0 I qk I hgj (dixs qk 2 a I I qo ?_);simp only[add_mk,Nat.mul_one];refine dldpw qk 0 0 I qk I hgi (dixs qk 0 a I I qo ?_);simp only[add_mk,Nat.mul_one];refine dact qk 0 I (stp 0 0 I I hgi I (dnext (.inl qk) (dixs qk 0 pv I I qo ?_)))
  simp only[add_mk,Nat.mul_one];refine dact qk 0 I ?_;refine WL.hs (pt g (kA kd pre (xs.set a (xs.getD pv 0)) post) (sf kd 29 3)::hs) (congrArg (fun z=>pt g z (sf kd 29 3)::hs) (kA_set qo)) (stp 0 0 I I hgj2 I ?_);refine WL.hs (pt g (kA kd pre (swp a pv xs) post) (sf kd 29 3)::hs) (congrArg (fun z=>pt g z (sf kd 29 3)::hs) (kA_set (by rw[List.length_set];omega))) (dnext (.inl qk) (dend qk 0 rfl (th (sq (rg ?_)))));have hswl:=swp_len a pv xs
  have hva:(swp a pv xs).getD a 0=xs.getD pv 0:=by
   rw[swp_getD qo qo]
   by_cases e:a=pv
   ·rw[if_pos e,e]
   ·rw[if_neg e,if_pos rfl]
  refine ar 1 I (i64w (x:=((a+1:Nat):Int)) qo) (ar 1 I (v':=.int .i64 (b-1:Nat)) (by rw[show ((b:Nat):Int)-1=((b-1:Nat):Int) from by omega];exact i64w qo) (fin 2 I (th (sq (bk ?_)))))
  refine loop (σ:=Nat×Nat×List Nat) (fun s=>[(0,.slice (some ⟨g,pre.length,none⟩) xs.length cap),(1,.int .i64 (a:Nat)),(9,.int .i64 s.1),(10,.int .i64 s.2.1)]) (fun _=>K) (fun s=>pt g (kA kd pre s.2.2 post) (sf kd 29 3)::hs)
   (fun s=>SegP a b xs s.2.2/\PrtI (fun x y=>x<=y) (fun x y=>y<x) a b s.1 s.2.1 s.2.2/\s.2.2.getD a 0=xs.getD pv 0) (fun s=>s.2.1+1-s.1) (a+1,b-1,swp a pv xs) ⟨SegP.swp ⟨by omega,by omega⟩ ⟨by omega,by omega⟩ hb,PrtI.start _ _ hab,hva⟩ ⟨rfl,rfl,rfl,rfl,trivial⟩ rfl rfl ?_
  rintro ⟨i0,j0,ys⟩ ⟨hP,hI0,hv0⟩;dsimp only at *;have hyl:ys.length=xs.length:=hP.len;refine bk (jn (σ:=Nat) (fun i=>[(0,.slice (some ⟨g,pre.length,none⟩) xs.length cap),(1,.int .i64 (a:Nat)),(9,.int .i64 (i:Nat)),(10,.int .i64 (j0:Nat))]) (fun _=>pt g (kA kd pre ys post) (sf kd 29 3)::hs) (fun i=>i0<=i/\PrtI (fun x y=>x<=y) (fun x y=>y<x) a b i j0 ys/\(i<=j0->ys.getD a 0<ys.getD i 0)) ?_ ?_)
  ·refine bk (loop (σ:=Nat) (fun i=>[(0,.slice (some ⟨g,pre.length,none⟩) xs.length cap),(1,.int .i64 (a:Nat)),(9,.int .i64 (i:Nat)),(10,.int .i64 (j0:Nat))]) (fun _=>K) (fun _=>pt g (kA kd pre ys post) (sf kd 29 3)::hs) (fun i=>i0<=i/\PrtI (fun x y=>x<=y) (fun x y=>y<x) a b i j0 ys) (fun i=>j0+1-i) i0 ⟨Nat.le_refl _,hI0⟩ ⟨I,I,I,I,trivial⟩ I I ?_);rintro i ⟨hi0,hI⟩;have q1:=hI.i1;have q2:=hI.ij;have q3:=hI.jb;refine sq (sq (rga [pt g (kA kd pre ys post) (sf kd 29 3)] 15 [0,2,4,6,8,10,12,14,16,18,20,22,25,26,28] (by simp) qk qk (dcmp qk 2 (i<=j0) I (by simp) (fun h1=>?_) (fun h1=>?_))))
   ·refine dixs qk 3 a I I qo ?_;simp only[add_mk,Nat.mul_one];refine dldp qk 0 0 I I (kA_get qo) (dixs qk 2 i I I qo ?_);simp only[add_mk,Nat.mul_one];refine dldp qk 0 0 I I (kA_get qo) (dact qk 0 I (cl 0 I (lessC kd (ys.getD a 0) (ys.getD i 0)) ?_));rintro v41 K41 hs41 ⟨rfl,rfl,rfl⟩;refine dnx (by simp) I ?_
    by_cases hlt:ys.getD a 0<ys.getD i 0
    ·rw[decide_eq_true hlt];exact dend qk 2 I (th (ifF I (ex (xt (xt (xb (jx i ⟨hi0,hI,fun _=>hlt⟩ ⟨I,I,I,I,trivial⟩ I I)))))))
    ·rw[decide_eq_false hlt];exact dend qk 2 I (th (ifT I (sk (th (bk (rg (ar 1 I (i64w (x:=((i+1:Nat):Int)) qo) (fin 1 I (bl (again (x:=i) (i+1) ⟨I,I,I,I,trivial⟩ I I ⟨by omega,hI.up h1 (Nat.le_of_not_lt hlt)⟩ qo))))))))))
   ·exact dact qk 9 I<|WL.pures 1 I (dnx (by simp) I<|dend qk 2 I (th<|ifF I (ex<|xt (xt<|xb (jx i ⟨hi0,hI,fun h=>absurd h h1⟩ ⟨I,I,I,I,trivial⟩ I I)))))
  ·rintro i ⟨hi0,hI,hq⟩;refine jn (σ:=Nat) (fun j=>[(0,.slice (some ⟨g,pre.length,none⟩) xs.length cap),(1,.int .i64 (a:Nat)),(9,.int .i64 (i:Nat)),(10,.int .i64 (j:Nat))]) (fun _=>pt g (kA kd pre ys post) (sf kd 29 3)::hs) (fun j=>j<=j0/\PrtI (fun x y=>x<=y) (fun x y=>y<x) a b i j ys/\(i<=j->ys.getD a 0<ys.getD i 0)/\(i<=j->ys.getD j 0<=ys.getD a 0)) ?_ ?_
   ·refine bk (loop (σ:=Nat) (fun j=>[(0,.slice (some ⟨g,pre.length,none⟩) xs.length cap),(1,.int .i64 (a:Nat)),(9,.int .i64 (i:Nat)),(10,.int .i64 (j:Nat))]) (fun _=>K) (fun _=>pt g (kA kd pre ys post) (sf kd 29 3)::hs) (fun j=>j<=j0/\PrtI (fun x y=>x<=y) (fun x y=>y<x) a b i j ys) (fun j=>j+1-i) j0 ⟨Nat.le_refl _,hI⟩ ⟨I,I,I,I,trivial⟩ I I ?_);rintro j ⟨hj0,hJ⟩;have q1:=hJ.i1;have q2:=hJ.ij;have q3:=hJ.jb;refine sq (sq (rga [pt g (kA kd pre ys post) (sf kd 29 3)] 14 [0,2,4,6,8,10,12,14,16,18,20,22,25,26] (by simp) qk qk (dcmp qk 2 (i<=j) I (by simp) (fun h1=>?_) (fun h1=>?_))))
    ·refine dixs qk 3 a I I qo ?_;simp only[add_mk,Nat.mul_one];refine dldp qk 0 0 I I (kA_get qo) (dixs qk 2 j I I qo ?_);simp only[add_mk,Nat.mul_one];refine dldp qk 0 0 I I (kA_get qo) (dact qk 0 I (cl 0 I (lessC kd (ys.getD a 0) (ys.getD j 0)) ?_));rintro v58 K58 hs58 ⟨rfl,rfl,rfl⟩;refine dnx (by simp) I ?_
     by_cases hlt:ys.getD a 0<ys.getD j 0
     ·rw[decide_eq_true hlt];exact dend qk 1 I (th (ifT I (sk (th (bk (rg (ar 1 I (v':=.int .i64 (j-1:Nat)) (by rw[show ((j:Nat):Int)-1=((j-1:Nat):Int) from by omega];exact i64w qo) (fin 1 I (bl (again (x:=j) (j-1) ⟨I,I,I,I,trivial⟩ I I ⟨by omega,hJ.down h1 hlt⟩ qo))))))))))
     ·rw[decide_eq_false hlt];exact dend qk 1 I (th (ifF I (ex (xt (xt (xb (jx j ⟨hj0,hJ,fun h=>hq qo,fun _=>Nat.le_of_not_lt hlt⟩ ⟨I,I,I,I,trivial⟩ I I)))))))
    ·exact dact qk 9 I<|WL.pures 1 I (dnx (by simp) I<|dend qk 1 I (th<|ifF I (ex<|xt (xt<|xb (jx j ⟨hj0,hJ,fun h=>absurd h h1,fun h=>absurd h h1⟩ ⟨I,I,I,I,trivial⟩ I I)))))
   ·rintro j ⟨hj0,hJ,hqi,hqj⟩;have q1:=hJ.i1;have q2:=hJ.ij;have q3:=hJ.jb;refine sq (sq (rg (cmpS 2 I fun b64 h64=>fin 0 I (th (ifP h64 I (fun e6=>?_) (fun e6=>?_))))))
    ·obtain rfl:i=j+1:=by omega
     exact ex<|xt (xn I<|xt (xb<|th (sq<|rg (fin 2 I<|th (rt<|ret1 I I ⟨I,ys,j+1,I,I,hP,by omega,by omega,hJ.lo,fun p g1 g2=>hJ.hi p qo g2,hv0⟩)))))
    ·have hij:i<j:=by
      rcases Nat.lt_or_ge i j with h|h
      ·exact h
      ·have h1:=hqi qo;have h2:=hqj qo;have:i=j:=by omega
       subst this;omega
     have hgi:(kA kd pre ys post)[pre.length+i]?=some (.int (kI kd) ((ys.getD i 0:Nat):Int)):=kA_get qo;have hgj:(kA kd pre ys post)[pre.length+j]?=some (.int (kI kd) ((ys.getD j 0:Nat):Int)):=kA_get qo;have hgj2:(kA kd pre (ys.set i (ys.getD j 0)) post)[pre.length+j]?=some (.int (kI kd) (((ys.set i (ys.getD j 0)).getD j 0:Nat):Int)):=kA_get (by rw[List.length_set];omega);refine sk (th (sq (rga [pt g (kA kd pre ys post) (sf kd 29 3)] 13 [0,2,4,6,8,10,12,14,16,18,20,22,24,27,28,31] (by simp) qk qk (dixs qk 6 j I I qo ?_))));simp only[add_mk,Nat.mul_one];refine dldpw qk 0 0 I qk I hgj (dixs qk 2 i I I qo ?_);simp only[add_mk,Nat.mul_one];refine dldpw qk 0 0 I qk I hgi (dixs qk 0 i I I qo ?_);simp only[add_mk,Nat.mul_one];refine dact qk 0 I (stp 0 0 I I hgi I (dnext (.inl qk) (dixs qk 0 j I I qo ?_)))
     simp only[add_mk,Nat.mul_one];refine dact qk 0 I ?_;refine WL.hs (pt g (kA kd pre (ys.set i (ys.getD j 0)) post) (sf kd 29 3)::hs) (congrArg (fun z=>pt g z (sf kd 29 3)::hs) (kA_set qo)) (stp 0 0 I I hgj2 I ?_);refine WL.hs (pt g (kA kd pre (swp i j ys) post) (sf kd 29 3)::hs) (congrArg (fun z=>pt g z (sf kd 29 3)::hs) (kA_set (by rw[List.length_set];omega))) (dnext (.inl qk) (dend qk 0 rfl (th (sq (rg (ar 1 rfl (i64w (x:=((i+1:Nat):Int)) qo) (fin 1 rfl (th (rg (ar 1 rfl (v':=.int .i64 (j-1:Nat)) (by rw[show ((j:Nat):Int)-1=((j-1:Nat):Int) from by omega];exact i64w qo) (fin 1 I (bl ?_))))))))))));exact again (x:=(i0,j0,ys)) (i+1,j-1,swp i j ys) ⟨I,I,I,I,trivial⟩ I I ⟨hP.trans (SegP.swp ⟨by omega,by omega⟩ ⟨by omega,by omega⟩ qo),hJ.swap hij qo (hqj qo) (hqi qo),by rw[swp_getD qo qo,if_neg qo,if_neg qo];exact hv0⟩ (by dsimp only;omega)
end
section
def LoB(a b:Nat)(xs:List Nat):Prop:=∀ p q,p<a->a<=q->q<b->xs.getD p 0<=xs.getD q 0
theorem SegP.outD{a b:Nat}{xs ys:List Nat}(h:SegP a b xs ys){i:Nat}(hi:i<a\/b<=i):ys.getD i 0=xs.getD i 0:=by
 rw[List.getD_eq_getElem?_getD,h.out i hi,List.getD_eq_getElem?_getD]
theorem LoB.zero(b:Nat)(xs:List Nat):LoB 0 b xs:=fun p q h=>by omega
theorem LoB.perm{a b:Nat}{xs ys:List Nat}(h:LoB a b xs)(hP:SegP a b xs ys)(hb:b<=xs.length):LoB a b ys:=fun p q h1 h2 h3=>by
 obtain ⟨r,r1,r2,r3⟩:=hP.mem hb h2 h3;rw[hP.outD (.inl h1),r3];exact h p r h1 r1 r2
theorem LoB.cut{a b m:Nat}{xs:List Nat}(h:LoB a b xs)(hm:m<=b):LoB a m xs:=fun p q h1 h2 h3=>h p q h1 h2 qo
theorem Srt.same{a b:Nat}{xs ys:List Nat}(h:Srt a b xs)(he:∀ p,a<=p->p<b->ys.getD p 0=xs.getD p 0):Srt a b ys:=fun i j h1 h2 h3=>by
 rw[he i h1 qo,he j qo h3];exact h i j h1 h2 h3
def Rst(a b c d:Nat)(xs:List Nat):Prop:=∀ zs,SegP c d xs zs->Srt c d zs->Srt a b zs
theorem Rst.self(a b:Nat)(xs:List Nat):Rst a b a b xs:=fun _ _ h=>h
theorem Rst.step{a b c d:Nat}{xs ys:List Nat}(h:Rst a b c d xs)(hP:SegP c d xs ys):Rst a b c d ys:=fun zs h1 h2=>h zs (hP.trans h1) h2
structure PtA (c d m:Nat) (ys:List Nat):Prop where
 m1:c<=m
 m2:m<d
 lo:∀ p,c<=p->p<m->ys.getD p 0<=ys.getD m 0
 hi:∀ p,m<p->p<d->ys.getD m 0<=ys.getD p 0
theorem PtA.left{c d m:Nat}{ys zs:List Nat}(h:PtA c d m ys)(hP:SegP c m ys zs)(hd:d<=ys.length):PtA c d m zs:=by
 have h2:=h.m2;refine ⟨h.m1,h.m2,fun p p1 p2=>?_,fun p p1 p2=>?_⟩
 ·obtain ⟨q,q1,q2,q3⟩:=hP.mem qo p1 p2;rw[q3,hP.outD (.inr (Nat.le_refl _))];exact h.lo q q1 q2
 ·rw[hP.outD (.inr (Nat.le_refl _)),hP.outD (i:=p) (.inr qo)];exact h.hi p p1 p2
theorem PtA.right{c d m:Nat}{ys zs:List Nat}(h:PtA c d m ys)(hP:SegP (m+1) d ys zs)(hd:d<=ys.length):PtA c d m zs:=by
 have h2:=h.m2;refine ⟨h.m1,h.m2,fun p p1 p2=>?_,fun p p1 p2=>?_⟩
 ·rw[hP.outD (i:=p) (.inl qo),hP.outD (.inl (Nat.lt_succ_self _))];exact h.lo p p1 p2
 ·obtain ⟨q,q1,q2,q3⟩:=hP.mem hd qo p2;rw[q3,hP.outD (.inl (Nat.lt_succ_self _))];exact h.hi q qo q2
theorem PtA.loB{c d m:Nat}{ys:List Nat}(h:PtA c d m ys)(hl:LoB c d ys):LoB (m+1) d ys:=fun p q h1 h2 h3=>by
 have g1:=h.m1
 by_cases e:p<c
 ·exact hl p q e qo h3
 ·by_cases e2:p=m
  ·rw[e2];exact h.hi q qo h3
  ·exact Nat.le_trans (h.lo p qo qo)<|h.hi q qo h3
theorem Rst.left{a b c d m:Nat}{ys zs:List Nat}(h:Rst a b c d ys)(hA:PtA c d m ys)(hd:d<=ys.length)(hP:SegP c m ys zs)(hS:Srt c m zs):Rst a b (m+1) d zs:=fun us h1 h2=>by
 have g1:=hA.m1;have g2:=hA.m2;have hA2:=(hA.left hP hd).right h1 (by rw[hP.len];exact hd);refine h us ((hP.wide (Nat.le_refl _) qo).trans (h1.wide qo (Nat.le_refl _))) (Srt.join (m:=m) (hS.same fun p p1 p2=>h1.outD (.inl qo)) h2 hA2.lo hA2.hi)
theorem Rst.right{a b c d m:Nat}{ys zs:List Nat}(h:Rst a b c d ys)(hA:PtA c d m ys)(hd:d<=ys.length)(hP:SegP (m+1) d ys zs)(hS:Srt (m+1) d zs):Rst a b c m zs:=fun us h1 h2=>by
 have g1:=hA.m1;have g2:=hA.m2;have hA2:=(hA.right hP hd).left h1 (by rw[hP.len];exact hd);refine h us ((hP.wide qo (Nat.le_refl _)).trans (h1.wide (Nat.le_refl _) qo)) (Srt.join (m:=m) h2 (hS.same fun p p1 p2=>h1.outD (.inr qo)) hA2.lo hA2.hi)
theorem Rst.equal{a b c d i:Nat}{ys:List Nat}(h:Rst a b c d ys)(hc:0<c)(hci:c+1<=i)(hid:i<=d)(hd:d<=ys.length)(hl:LoB c d ys)(hle:ys.getD c 0<=ys.getD (c-1) 0)(h1:∀ p,c+1<=p->p<i->ys.getD p 0<=ys.getD c 0)(h2:∀ p,i<=p->p<d->ys.getD c 0<ys.getD p 0):
  Rst a b i d ys/\LoB i d ys:=by
 have heq:∀ p,c<=p->p<i->ys.getD p 0=ys.getD c 0:=fun p p1 p2=>by
  by_cases e:p=c
  ·rw[e]
  ·have:=h1 p qo p2;have:=hl (c-1) p qo p1 qo;omega
 refine ⟨fun us g1 g2=>h us (g1.wide qo<|Nat.le_refl _) fun p q q1 q2 q3=>?_,fun p q q1 q2 q3=>?_⟩
 ·by_cases e1:q<i
  ·rw[g1.outD (i:=p) (.inl qo),g1.outD (i:=q) (.inl qo),heq p q1 qo,heq q qo e1];omega
  ·by_cases e2:p<i
   ·obtain ⟨r,r1,r2,r3⟩:=g1.mem hd (by omega:i<=q) q3;rw[g1.outD (i:=p) (.inl e2),heq p q1 e2,r3];exact Nat.le_of_lt (h2 r r1 r2)
   ·exact g2 p q qo q2 q3
 ·by_cases e:p<c
  ·exact hl p q e qo q3
  grind
theorem Srt.one{a b:Nat}{xs:List Nat}(h:b<=a+1):Srt a b xs:=fun i j h1 h2 h3=>by omega
theorem Srt.snoc{a b:Nat}{xs:List Nat}(h:Srt a b xs)(hab:a<b)(hle:xs.getD (b-1) 0<=xs.getD b 0):Srt a (b+1) xs:=fun i j h1 h2 h3=>by
 by_cases e:j=b
 ·rw[e]
  by_cases e2:i=b-1
  ·rw[e2];exact hle
  ·exact Nat.le_trans (h i (b-1) h1 qo qo) hle
 ·exact h i j h1 h2 qo
end
section
attribute [local irreducible] Code.wp wpList Calls
theorem parC(kd:Bool){w0:World}{K:PH}{hs:List PH}(g cap:Nat)(pre post:List Value)(xs:List Nat)(a b pv:Nat)(hab:a<b)(hpv:a<=pv/\pv<b)(hb:b<=xs.length)(hc:xs.length<=cap)(hl:xs.length<=1099511627776):
  Ct Tryz.prog w0 (sf kd 262 224) [.slice (some ⟨g,pre.length,none⟩) xs.length cap,.int .i64 (a:Nat),.int .i64 (b:Nat),.int .i64 (pv:Nat)] K (pt g (kA kd pre xs post) (sf kd 29 3)::hs)
   (fun v K' hs'=>K'=K/\∃ ys,∃ m:Nat,∃ t:Bool,hs'=pt g (kA kd pre ys post) (sf kd 29 3)::hs/\v=.tuple #[.int .i64 (m:Nat),.bool t]/\SegP a b xs ys/\PtA a b m ys):=by
 cases kd
 let kd:Bool:=false
 rewrite [show sf false=sf kd from rfl]
 try rewrite [show kA false=kA kd from rfl]
 refine enter Tryz.func224 qk I I I ?_
 rotate_left
 let kd:Bool:=true
 rewrite [show sf true=sf kd from rfl]
 try rewrite [show kA true=kA kd from rfl]
 refine enter Tryz.func262 qk I I I ?_
 rotate_left
 all_goals
  refine sq (rg (fin 2 I (th (sq ?_))));have hgi:(kA kd pre xs post)[pre.length+a]?=some (.int (kI kd) ((xs.getD a 0:Nat):Int)):=kA_get qo;have hgj:(kA kd pre xs post)[pre.length+pv]?=some (.int (kI kd) ((xs.getD pv 0:Nat):Int)):=kA_get qo;have hgj2:(kA kd pre (xs.set a (xs.getD pv 0)) post)[pre.length+pv]?=some (.int (kI kd) (((xs.set a (xs.getD pv 0)).getD pv 0:Nat):Int)):=kA_get (by rw[List.length_set];omega);refine rga [pt g (kA kd pre xs post) (sf kd 29 3)] 13 [0,2,4,6,8,10,12,14,16,18,20,22,24,27,28,31] (by simp) qk qk (dixs qk 6 pv I I qo ?_);simp only[add_mk,Nat.mul_one];refine dldpw qk 0 0 I qk I hgj (dixs qk 2 a I I qo ?_);simp only[add_mk,Nat.mul_one];refine dldpw qk 0 0 I qk I hgi (dixs qk 0 a I I qo ?_);simp only[add_mk,Nat.mul_one];refine dact qk 0 I (stp 0 0 I I hgi I (dnext (.inl qk) (dixs qk 0 pv I I qo ?_)))
  simp only[add_mk,Nat.mul_one];refine dact qk 0 I ?_;refine WL.hs (pt g (kA kd pre (xs.set a (xs.getD pv 0)) post) (sf kd 29 3)::hs) (congrArg (fun z=>pt g z (sf kd 29 3)::hs) (kA_set qo)) (stp 0 0 I I hgj2 I ?_);refine WL.hs (pt g (kA kd pre (swp a pv xs) post) (sf kd 29 3)::hs) (congrArg (fun z=>pt g z (sf kd 29 3)::hs) (kA_set (by rw[List.length_set];omega))) (dnext (.inl qk) (dend qk 0 rfl (th (sq (rg ?_)))));have hswl:=swp_len a pv xs;have hP0:SegP a b xs (swp a pv xs):=SegP.swp ⟨by omega,by omega⟩ ⟨by omega,by omega⟩ hb;refine ar 1 I (i64w (x:=((a+1:Nat):Int)) qo) (ar 1 I (v':=.int .i64 (b-1:Nat)) (by rw[show ((b:Nat):Int)-1=((b-1:Nat):Int) from by omega];exact i64w qo) ?_);obtain ⟨ys,hys⟩:∃ ys,ys=swp a pv xs:=⟨_,rfl⟩;rw[<-hys] at hswl hP0 ⊢;clear hys;have hyl:ys.length=xs.length:=hswl;refine fin 2 I (th (jn (σ:=Nat) (fun i=>[(0,.slice (some ⟨g,pre.length,none⟩) xs.length cap),(1,.int .i64 (a:Nat)),(10,.int .i64 (i:Nat)),(11,.int .i64 (((b-1):Nat):Int))]) (fun _=>pt g (kA kd pre ys post) (sf kd 29 3)::hs) (fun i=>(a+1)<=i/\PrtI (fun x y=>x<y) (fun x y=>y<=x) a b i (b-1) ys/\(i<=(b-1)->ys.getD a 0<=ys.getD i 0)) ?_ ?_))
  ·refine bk (loop (σ:=Nat) (fun i=>[(0,.slice (some ⟨g,pre.length,none⟩) xs.length cap),(1,.int .i64 (a:Nat)),(10,.int .i64 (i:Nat)),(11,.int .i64 (((b-1):Nat):Int))]) (fun _=>K) (fun _=>pt g (kA kd pre ys post) (sf kd 29 3)::hs) (fun i=>(a+1)<=i/\PrtI (fun x y=>x<y) (fun x y=>y<=x) a b i (b-1) ys) (fun i=>(b-1)+1-i) (a+1) ⟨Nat.le_refl _,PrtI.start _ _ hab⟩ ⟨I,I,I,I,trivial⟩ I I ?_);rintro i ⟨hi0,hI⟩;have q1:=hI.i1;have q2:=hI.ij;have q3:=hI.jb;refine sq (sq (rga [pt g (kA kd pre ys post) (sf kd 29 3)] 14 [0,2,4,6,8,10,12,14,16,18,20,22,25,26] (by simp) qk qk (dcmp qk 2 (i<=(b-1)) I (by simp) (fun h1=>?_) (fun h1=>?_))))
   ·refine dixs qk 3 i I I qo ?_;simp only[add_mk,Nat.mul_one];refine dldp qk 0 0 I I (kA_get qo) (dixs qk 2 a I I qo ?_);simp only[add_mk,Nat.mul_one];refine dldp qk 0 0 I I (kA_get qo) (dact qk 0 I (cl 0 I (lessC kd (ys.getD i 0) (ys.getD a 0)) ?_));rintro v41 K41 hs41 ⟨rfl,rfl,rfl⟩;refine dnx (by simp) I ?_
    by_cases hlt:ys.getD i 0<ys.getD a 0
    ·rw[decide_eq_true hlt];exact dend qk 1 I (th (ifT I (sk (th (bk (rg (ar 1 I (i64w (x:=((i+1:Nat):Int)) qo) (fin 1 I (bl (again (x:=i) (i+1) ⟨I,I,I,I,trivial⟩ I I ⟨by omega,hI.up h1 hlt⟩ qo))))))))))
    ·rw[decide_eq_false hlt];exact dend qk 1 I (th (ifF I (ex (xt (xt (xb (jx i ⟨hi0,hI,fun _=>Nat.le_of_not_lt hlt⟩ ⟨I,I,I,I,trivial⟩ I I)))))))
   ·exact dact qk 9 I<|WL.pures 1 I (dnx (by simp) I<|dend qk 1 I (th<|ifF I (ex<|xt (xt<|xb (jx i ⟨hi0,hI,fun h=>absurd h h1⟩ ⟨I,I,I,I,trivial⟩ I I)))))
  ·rintro i ⟨hi0,hI,hq⟩;refine jn (σ:=Nat) (fun j=>[(0,.slice (some ⟨g,pre.length,none⟩) xs.length cap),(1,.int .i64 (a:Nat)),(10,.int .i64 (i:Nat)),(11,.int .i64 (j:Nat))]) (fun _=>pt g (kA kd pre ys post) (sf kd 29 3)::hs) (fun j=>j<=(b-1)/\PrtI (fun x y=>x<y) (fun x y=>y<=x) a b i j ys/\(i<=j->ys.getD a 0<=ys.getD i 0)/\(i<=j->ys.getD j 0<ys.getD a 0)) ?_ ?_
   ·refine bk (loop (σ:=Nat) (fun j=>[(0,.slice (some ⟨g,pre.length,none⟩) xs.length cap),(1,.int .i64 (a:Nat)),(10,.int .i64 (i:Nat)),(11,.int .i64 (j:Nat))]) (fun _=>K) (fun _=>pt g (kA kd pre ys post) (sf kd 29 3)::hs) (fun j=>j<=(b-1)/\PrtI (fun x y=>x<y) (fun x y=>y<=x) a b i j ys) (fun j=>j+1-i) ((b-1)) ⟨Nat.le_refl _,hI⟩ ⟨I,I,I,I,trivial⟩ I I ?_);rintro j ⟨hj0,hJ⟩;have q1:=hJ.i1;have q2:=hJ.ij;have q3:=hJ.jb;refine sq (sq (rga [pt g (kA kd pre ys post) (sf kd 29 3)] 15 [0,2,4,6,8,10,12,14,16,18,20,22,25,26,28] (by simp) qk qk (dcmp qk 2 (i<=j) I (by simp) (fun h1=>?_) (fun h1=>?_))))
    ·refine dixs qk 3 j I I qo ?_;simp only[add_mk,Nat.mul_one];refine dldp qk 0 0 I I (kA_get qo) (dixs qk 2 a I I qo ?_);simp only[add_mk,Nat.mul_one];refine dldp qk 0 0 I I (kA_get qo) (dact qk 0 I (cl 0 I (lessC kd (ys.getD j 0) (ys.getD a 0)) ?_));rintro v58 K58 hs58 ⟨rfl,rfl,rfl⟩;refine dnx (by simp) I ?_
     by_cases hlt:ys.getD j 0<ys.getD a 0
     ·rw[decide_eq_true hlt];exact dend qk 2 I (th (ifF I (ex (xt (xt (xb (jx j ⟨hj0,hJ,fun h=>hq qo,fun _=>hlt⟩ ⟨I,I,I,I,trivial⟩ I I)))))))
     ·rw[decide_eq_false hlt];exact dend qk 2 I (th (ifT I (sk (th (bk (rg (ar 1 I (v':=.int .i64 (j-1:Nat)) (by rw[show ((j:Nat):Int)-1=((j-1:Nat):Int) from by omega];exact i64w qo) (fin 1 I (bl (again (x:=j) (j-1) ⟨I,I,I,I,trivial⟩ I I ⟨by omega,hJ.down h1 (Nat.le_of_not_lt hlt)⟩ qo))))))))))
    ·exact dact qk 9 I<|WL.pures 1 I (dnx (by simp) I<|dend qk 2 I (th<|ifF I (ex<|xt (xt<|xb (jx j ⟨hj0,hJ,fun h=>absurd h h1,fun h=>absurd h h1⟩ ⟨I,I,I,I,trivial⟩ I I)))))
   ·rintro j ⟨hj0,hJ,hqi,hqj⟩;have q1:=hJ.i1;have q2:=hJ.ij;have q3:=hJ.jb;refine sq (sq (rg (cmpS 2 I fun b65 h65=>fin 0 I (th (ifP h65 I (fun e6=>?_) (fun e6=>?_))))))
    ·obtain rfl:i=j+1:=by omega
     have hgi:(kA kd pre ys post)[pre.length+j]?=some (.int (kI kd) ((ys.getD j 0:Nat):Int)):=kA_get qo;have hgj:(kA kd pre ys post)[pre.length+a]?=some (.int (kI kd) ((ys.getD a 0:Nat):Int)):=kA_get qo;have hgj2:(kA kd pre (ys.set j (ys.getD a 0)) post)[pre.length+a]?=some (.int (kI kd) (((ys.set j (ys.getD a 0)).getD a 0:Nat):Int)):=kA_get (by rw[List.length_set];omega);refine sq (rga [pt g (kA kd pre ys post) (sf kd 29 3)] 13 [0,2,4,6,8,10,12,14,16,18,20,22,24,27,28,31] (by simp) qk qk (dixs qk 6 a I I qo ?_));simp only[add_mk,Nat.mul_one];refine dldpw qk 0 0 I qk I hgj (dixs qk 2 j I I qo ?_);simp only[add_mk,Nat.mul_one];refine dldpw qk 0 0 I qk I hgi (dixs qk 0 j I I qo ?_);simp only[add_mk,Nat.mul_one];refine dact qk 0 I (stp 0 0 I I hgi I (dnext (.inl qk) (dixs qk 0 a I I qo ?_)))
     simp only[add_mk,Nat.mul_one];refine dact qk 0 I ?_;refine WL.hs (pt g (kA kd pre (ys.set j (ys.getD a 0)) post) (sf kd 29 3)::hs) (congrArg (fun z=>pt g z (sf kd 29 3)::hs) (kA_set qo)) (stp 0 0 I I hgj2 I ?_);refine WL.hs (pt g (kA kd pre (swp j a ys) post) (sf kd 29 3)::hs) (congrArg (fun z=>pt g z (sf kd 29 3)::hs) (kA_set (by rw[List.length_set];omega))) (dnext (.inl qk) (dend qk 0 rfl (th (sq (rg (fin 3 rfl (th (rt ?_))))))));have hA:=hJ.last qo;exact ret2 I I I ⟨I,swp j a ys,j,true,I,I,hP0.trans (SegP.swp ⟨by omega,by omega⟩ ⟨by omega,by omega⟩ qo),⟨by omega,by omega,fun p p1 p2=>Nat.le_of_lt (hA.1 p p1 p2),hA.2⟩⟩
    ·have hij:i<j:=by
      rcases Nat.lt_or_ge i j with h|h
      ·exact h
      ·have h1:=hqi qo;have h2:=hqj qo;have:i=j:=by omega
       subst this;omega
     have hgi:(kA kd pre ys post)[pre.length+i]?=some (.int (kI kd) ((ys.getD i 0:Nat):Int)):=kA_get qo;have hgj:(kA kd pre ys post)[pre.length+j]?=some (.int (kI kd) ((ys.getD j 0:Nat):Int)):=kA_get qo;have hgj2:(kA kd pre (ys.set i (ys.getD j 0)) post)[pre.length+j]?=some (.int (kI kd) (((ys.set i (ys.getD j 0)).getD j 0:Nat):Int)):=kA_get (by rw[List.length_set];omega);refine sk (th (sq (rga [pt g (kA kd pre ys post) (sf kd 29 3)] 13 [0,2,4,6,8,10,12,14,16,18,20,22,24,27,28,31] (by simp) qk qk (dixs qk 6 j I I qo ?_))));simp only[add_mk,Nat.mul_one];refine dldpw qk 0 0 I qk I hgj (dixs qk 2 i I I qo ?_);simp only[add_mk,Nat.mul_one];refine dldpw qk 0 0 I qk I hgi (dixs qk 0 i I I qo ?_);simp only[add_mk,Nat.mul_one];refine dact qk 0 I (stp 0 0 I I hgi I (dnext (.inl qk) (dixs qk 0 j I I qo ?_)))
     simp only[add_mk,Nat.mul_one];refine dact qk 0 I ?_;refine WL.hs (pt g (kA kd pre (ys.set i (ys.getD j 0)) post) (sf kd 29 3)::hs) (congrArg (fun z=>pt g z (sf kd 29 3)::hs) (kA_set qo)) (stp 0 0 I I hgj2 I ?_);refine WL.hs (pt g (kA kd pre (swp i j ys) post) (sf kd 29 3)::hs) (congrArg (fun z=>pt g z (sf kd 29 3)::hs) (kA_set (by rw[List.length_set];omega))) (dnext (.inl qk) (dend qk 0 rfl (th (sq (rg (ar 1 rfl (i64w (x:=((i+1:Nat):Int)) qo) (fin 1 rfl (th (sq (rg (ar 1 rfl (v':=.int .i64 (j-1:Nat)) (by rw[show ((j:Nat):Int)-1=((j-1:Nat):Int) from by omega];exact i64w qo) ?_)))))))))));have hJ2:=hJ.swap hij qo (hqj qo) (hqi qo);have hP2:SegP a b xs (swp i j ys):=hP0.trans (SegP.swp ⟨by omega,by omega⟩ ⟨by omega,by omega⟩ qo);refine fin 1 I (th (jn (σ:=Nat×List Nat) (fun s=>[(0,.slice (some ⟨g,pre.length,none⟩) xs.length cap),(1,.int .i64 (a:Nat)),(10,.int .i64 (s.1+1:Nat)),(11,.int .i64 s.1)]) (fun s=>pt g (kA kd pre s.2 post) (sf kd 29 3)::hs) (fun s=>SegP a b xs s.2/\PrtI (fun x y=>x<y) (fun x y=>y<=x) a b (s.1+1) s.1 s.2) ?_ ?_))
     ·refine bk ?_
      refine loop (σ:=Nat×Nat×List Nat) (fun s=>[(0,.slice (some ⟨g,pre.length,none⟩) xs.length cap),(1,.int .i64 (a:Nat)),(10,.int .i64 s.1),(11,.int .i64 s.2.1)]) (fun _=>K) (fun s=>pt g (kA kd pre s.2.2 post) (sf kd 29 3)::hs)
       (fun s=>SegP a b xs s.2.2/\PrtI (fun x y=>x<y) (fun x y=>y<=x) a b s.1 s.2.1 s.2.2) (fun s=>s.2.1+1-s.1) (i+1,j-1,swp i j ys) ⟨hP2,hJ2⟩ ⟨rfl,rfl,rfl,rfl,trivial⟩ rfl rfl ?_
      clear hJ2 hP2 hij hgj2 hgj hgi e6 hqj hqi q3 q2 q1 hJ hj0 hq hI hi0;clear h65 b65 j i hyl hP0 hswl ys;rintro ⟨i0,j0,ys⟩ ⟨hP,hI0⟩;dsimp only at *;have hyl:ys.length=xs.length:=hP.len;refine bk (jn (σ:=Nat) (fun i=>[(0,.slice (some ⟨g,pre.length,none⟩) xs.length cap),(1,.int .i64 (a:Nat)),(10,.int .i64 (i:Nat)),(11,.int .i64 (j0:Nat))]) (fun _=>pt g (kA kd pre ys post) (sf kd 29 3)::hs) (fun i=>i0<=i/\PrtI (fun x y=>x<y) (fun x y=>y<=x) a b i j0 ys/\(i<=j0->ys.getD a 0<=ys.getD i 0)) ?_ ?_)
      ·refine bk (loop (σ:=Nat) (fun i=>[(0,.slice (some ⟨g,pre.length,none⟩) xs.length cap),(1,.int .i64 (a:Nat)),(10,.int .i64 (i:Nat)),(11,.int .i64 (j0:Nat))]) (fun _=>K) (fun _=>pt g (kA kd pre ys post) (sf kd 29 3)::hs) (fun i=>i0<=i/\PrtI (fun x y=>x<y) (fun x y=>y<=x) a b i j0 ys) (fun i=>j0+1-i) i0 ⟨Nat.le_refl _,hI0⟩ ⟨I,I,I,I,trivial⟩ I I ?_);rintro i ⟨hi0,hI⟩;have q1:=hI.i1;have q2:=hI.ij;have q3:=hI.jb;refine sq (sq (rga [pt g (kA kd pre ys post) (sf kd 29 3)] 14 [0,2,4,6,8,10,12,14,16,18,20,22,25,26] (by simp) qk qk (dcmp qk 2 (i<=j0) I (by simp) (fun h1=>?_) (fun h1=>?_))))
       ·refine dixs qk 3 i I I qo ?_;simp only[add_mk,Nat.mul_one];refine dldp qk 0 0 I I (kA_get qo) (dixs qk 2 a I I qo ?_);simp only[add_mk,Nat.mul_one];refine dldp qk 0 0 I I (kA_get qo) (dact qk 0 I (cl 0 I (lessC kd (ys.getD i 0) (ys.getD a 0)) ?_));rintro v41 K41 hs41 ⟨rfl,rfl,rfl⟩;refine dnx (by simp) I ?_
        by_cases hlt:ys.getD i 0<ys.getD a 0
        ·rw[decide_eq_true hlt];exact dend qk 1 I (th (ifT I (sk (th (bk (rg (ar 1 I (i64w (x:=((i+1:Nat):Int)) qo) (fin 1 I (bl (again (x:=i) (i+1) ⟨I,I,I,I,trivial⟩ I I ⟨by omega,hI.up h1 hlt⟩ qo))))))))))
        ·rw[decide_eq_false hlt];exact dend qk 1 I (th (ifF I (ex (xt (xt (xb (jx i ⟨hi0,hI,fun _=>Nat.le_of_not_lt hlt⟩ ⟨I,I,I,I,trivial⟩ I I)))))))
       ·exact dact qk 9 I<|WL.pures 1 I (dnx (by simp) I<|dend qk 1 I (th<|ifF I (ex<|xt (xt<|xb (jx i ⟨hi0,hI,fun h=>absurd h h1⟩ ⟨I,I,I,I,trivial⟩ I I)))))
      ·rintro i ⟨hi0,hI,hq⟩;refine jn (σ:=Nat) (fun j=>[(0,.slice (some ⟨g,pre.length,none⟩) xs.length cap),(1,.int .i64 (a:Nat)),(10,.int .i64 (i:Nat)),(11,.int .i64 (j:Nat))]) (fun _=>pt g (kA kd pre ys post) (sf kd 29 3)::hs) (fun j=>j<=j0/\PrtI (fun x y=>x<y) (fun x y=>y<=x) a b i j ys/\(i<=j->ys.getD a 0<=ys.getD i 0)/\(i<=j->ys.getD j 0<ys.getD a 0)) ?_ ?_
       ·refine bk (loop (σ:=Nat) (fun j=>[(0,.slice (some ⟨g,pre.length,none⟩) xs.length cap),(1,.int .i64 (a:Nat)),(10,.int .i64 (i:Nat)),(11,.int .i64 (j:Nat))]) (fun _=>K) (fun _=>pt g (kA kd pre ys post) (sf kd 29 3)::hs) (fun j=>j<=j0/\PrtI (fun x y=>x<y) (fun x y=>y<=x) a b i j ys) (fun j=>j+1-i) (j0) ⟨Nat.le_refl _,hI⟩ ⟨I,I,I,I,trivial⟩ I I ?_);rintro j ⟨hj0,hJ⟩;have q1:=hJ.i1;have q2:=hJ.ij;have q3:=hJ.jb;refine sq (sq (rga [pt g (kA kd pre ys post) (sf kd 29 3)] 15 [0,2,4,6,8,10,12,14,16,18,20,22,25,26,28] (by simp) qk qk (dcmp qk 2 (i<=j) I (by simp) (fun h1=>?_) (fun h1=>?_))))
        ·refine dixs qk 3 j I I qo ?_;simp only[add_mk,Nat.mul_one];refine dldp qk 0 0 I I (kA_get qo) (dixs qk 2 a I I qo ?_);simp only[add_mk,Nat.mul_one];refine dldp qk 0 0 I I (kA_get qo) (dact qk 0 I (cl 0 I (lessC kd (ys.getD j 0) (ys.getD a 0)) ?_));rintro v58 K58 hs58 ⟨rfl,rfl,rfl⟩;refine dnx (by simp) I ?_
         by_cases hlt:ys.getD j 0<ys.getD a 0
         ·rw[decide_eq_true hlt];exact dend qk 2 I (th (ifF I (ex (xt (xt (xb (jx j ⟨hj0,hJ,fun h=>hq qo,fun _=>hlt⟩ ⟨I,I,I,I,trivial⟩ I I)))))))
         ·rw[decide_eq_false hlt];exact dend qk 2 I (th (ifT I (sk (th (bk (rg (ar 1 I (v':=.int .i64 (j-1:Nat)) (by rw[show ((j:Nat):Int)-1=((j-1:Nat):Int) from by omega];exact i64w qo) (fin 1 I (bl (again (x:=j) (j-1) ⟨I,I,I,I,trivial⟩ I I ⟨by omega,hJ.down h1 (Nat.le_of_not_lt hlt)⟩ qo))))))))))
        ·exact dact qk 9 I<|WL.pures 1 I (dnx (by simp) I<|dend qk 2 I (th<|ifF I (ex<|xt (xt<|xb (jx j ⟨hj0,hJ,fun h=>absurd h h1,fun h=>absurd h h1⟩ ⟨I,I,I,I,trivial⟩ I I)))))
       ·rintro j ⟨hj0,hJ,hqi,hqj⟩;have q1:=hJ.i1;have q2:=hJ.ij;have q3:=hJ.jb;refine sq (sq (rg (cmpS 2 I fun b134 h134=>fin 0 I (th (ifP h134 I (fun e6=>?_) (fun e6=>?_))))))
        ·obtain rfl:i=j+1:=by omega
         exact ex<|xt (xn I<|xt (xb<|jx (j,ys) ⟨hP,hJ⟩ ⟨I,I,I,I,trivial⟩ I I))
        ·have hij:i<j:=by
          rcases Nat.lt_or_ge i j with h|h
          ·exact h
          ·have h1:=hqi qo;have h2:=hqj qo;have:i=j:=by omega
           subst this;omega
         have hgi:(kA kd pre ys post)[pre.length+i]?=some (.int (kI kd) ((ys.getD i 0:Nat):Int)):=kA_get qo;have hgj:(kA kd pre ys post)[pre.length+j]?=some (.int (kI kd) ((ys.getD j 0:Nat):Int)):=kA_get qo;have hgj2:(kA kd pre (ys.set i (ys.getD j 0)) post)[pre.length+j]?=some (.int (kI kd) (((ys.set i (ys.getD j 0)).getD j 0:Nat):Int)):=kA_get (by rw[List.length_set];omega);refine sk (th (sq (rga [pt g (kA kd pre ys post) (sf kd 29 3)] 13 [0,2,4,6,8,10,12,14,16,18,20,22,24,27,28,31] (by simp) qk qk (dixs qk 6 j I I qo ?_))));simp only[add_mk,Nat.mul_one];refine dldpw qk 0 0 I qk I hgj (dixs qk 2 i I I qo ?_);simp only[add_mk,Nat.mul_one];refine dldpw qk 0 0 I qk I hgi (dixs qk 0 i I I qo ?_);simp only[add_mk,Nat.mul_one];refine dact qk 0 I (stp 0 0 I I hgi I (dnext (.inl qk) (dixs qk 0 j I I qo ?_)))
         simp only[add_mk,Nat.mul_one];refine dact qk 0 I ?_;refine WL.hs (pt g (kA kd pre (ys.set i (ys.getD j 0)) post) (sf kd 29 3)::hs) (congrArg (fun z=>pt g z (sf kd 29 3)::hs) (kA_set qo)) (stp 0 0 I I hgj2 I ?_);exact WL.hs (pt g (kA kd pre (swp i j ys) post) (sf kd 29 3)::hs) (congrArg (fun z=>pt g z (sf kd 29 3)::hs) (kA_set (by rw[List.length_set];omega))) (dnext (.inl qk) (dend qk 0 rfl (th (sq (rg (ar 1 rfl (i64w (x:=((i+1:Nat):Int)) qo) (fin 1 rfl (th (rg (ar 1 rfl (v':=.int .i64 (j-1:Nat)) (by rw[show ((j:Nat):Int)-1=((j-1:Nat):Int) from by omega];exact i64w qo) (fin 1 I (bl (again (x:=(i0,j0,ys)) (i+1,j-1,swp i j ys) ⟨I,I,I,I,trivial⟩ I I ⟨hP.trans (SegP.swp ⟨by omega,by omega⟩ ⟨by omega,by omega⟩ qo),hJ.swap hij qo (hqj qo) (hqi qo)⟩ (by dsimp only;omega))))))))))))))
     ·rintro ⟨j,ys⟩ ⟨hP,hJ⟩;dsimp only at *;have hyl:ys.length=xs.length:=hP.len;have q1:=hJ.i1;have q2:=hJ.ij;have q3:=hJ.jb;have hgi:(kA kd pre ys post)[pre.length+j]?=some (.int (kI kd) ((ys.getD j 0:Nat):Int)):=kA_get qo;have hgj:(kA kd pre ys post)[pre.length+a]?=some (.int (kI kd) ((ys.getD a 0:Nat):Int)):=kA_get qo;have hgj2:(kA kd pre (ys.set j (ys.getD a 0)) post)[pre.length+a]?=some (.int (kI kd) (((ys.set j (ys.getD a 0)).getD a 0:Nat):Int)):=kA_get (by rw[List.length_set];omega);refine sq (rga [pt g (kA kd pre ys post) (sf kd 29 3)] 13 [0,2,4,6,8,10,12,14,16,18,20,22,24,27,28,31] (by simp) qk qk (dixs qk 6 a I I qo ?_));simp only[add_mk,Nat.mul_one];refine dldpw qk 0 0 I qk I hgj (dixs qk 2 j I I qo ?_);simp only[add_mk,Nat.mul_one];refine dldpw qk 0 0 I qk I hgi (dixs qk 0 j I I qo ?_)
      simp only[add_mk,Nat.mul_one];refine dact qk 0 I (stp 0 0 I I hgi I (dnext (.inl qk) (dixs qk 0 a I I qo ?_)));simp only[add_mk,Nat.mul_one];refine dact qk 0 I ?_;refine WL.hs (pt g (kA kd pre (ys.set j (ys.getD a 0)) post) (sf kd 29 3)::hs) (congrArg (fun z=>pt g z (sf kd 29 3)::hs) (kA_set qo)) (stp 0 0 I I hgj2 I ?_);refine WL.hs (pt g (kA kd pre (swp j a ys) post) (sf kd 29 3)::hs) (congrArg (fun z=>pt g z (sf kd 29 3)::hs) (kA_set (by rw[List.length_set];omega))) (dnext (.inl qk) (dend qk 0 rfl (th (sq (rg (fin 3 rfl (th (rt ?_))))))));have hA:=hJ.last qo;exact ret2 I I I ⟨I,swp j a ys,j,false,I,I,hP.trans (SegP.swp ⟨by omega,by omega⟩ ⟨by omega,by omega⟩ qo),⟨by omega,by omega,fun p p1 p2=>Nat.le_of_lt (hA.1 p p1 p2),hA.2⟩⟩
end
section
attribute [local irreducible] Code.wp wpList Calls
theorem pisC(kd:Bool){w0:World}{K:PH}{hs:List PH}(g cap:Nat)(pre post:List Value)(xs:List Nat)(a b:Nat)(hab:a<b)(hb:b<=xs.length)(hc:xs.length<=cap)(hl:xs.length<=1099511627776)(hlo:LoB a b xs):
  Ct Tryz.prog w0 (sf kd 259 221) [.slice (some ⟨g,pre.length,none⟩) xs.length cap,.int .i64 (a:Nat),.int .i64 (b:Nat)] K (pt g (kA kd pre xs post) (sf kd 29 3)::hs)
   (fun v K' hs'=>K'=K/\∃ ys,∃ t:Bool,hs'=pt g (kA kd pre ys post) (sf kd 29 3)::hs/\v=.bool t/\SegP a b xs ys/\(t=true->Srt a b ys)):=by
 cases kd
 let kd:Bool:=false
 rewrite [show sf false=sf kd from rfl]
 try rewrite [show kA false=kA kd from rfl]
 refine enter Tryz.func221 qk I I I ?_
 rotate_left
 let kd:Bool:=true
 rewrite [show sf true=sf kd from rfl]
 try rewrite [show kA true=kA kd from rfl]
 refine enter Tryz.func259 qk I I I ?_
 rotate_left
 all_goals
  refine sq<|rg (fin 1 I<|th (sq<|rg (ar 1 I (i64w (x:=((a+1:Nat):Int)) qo)<|fin 1 I (th<|sq (sq<|rg (fin 1 I<|th (bk ?_)))))))
  refine loop (σ:=Nat×Nat×List Nat) (fun s=>[(0,.slice (some ⟨g,pre.length,none⟩) xs.length cap),(1,.int .i64 (a:Nat)),(2,.int .i64 (b:Nat)),(7,.int .i64 s.2.1),(8,.int .i64 s.1)]) (fun _=>K) (fun s=>pt g (kA kd pre s.2.2 post) (sf kd 29 3)::hs)
   (fun s=>s.1<=5/\a+1<=s.2.1/\s.2.1<=b/\SegP a b xs s.2.2/\Srt a s.2.1 s.2.2) (fun s=>5-s.1) (0,a+1,xs) ⟨by omega,Nat.le_refl _,by dsimp only;omega,SegP.refl _ _ _,Srt.zero _ _⟩ ⟨rfl,rfl,rfl,rfl,rfl,trivial⟩ rfl rfl ?_
  rintro ⟨k,i0,ys⟩ ⟨hk,hi0,hi0b,hP,hS0⟩;dsimp only at *;have hyl:ys.length=xs.length:=hP.len;refine sq (sq (rg (cmpS 1 I fun b14 h14=>fin 0 I (th (ifP h14 I (fun e2=>?_) (fun e2=>?_))))))
  ·refine sk<|th (sq<|bk (jn (σ:=Nat) (fun i=>[(0,.slice (some ⟨g,pre.length,none⟩) xs.length cap),(1,.int .i64 (a:Nat)),(2,.int .i64 (b:Nat)),(7,.int .i64 (i:Nat)),(8,.int .i64 (k:Nat))]) (fun _=>pt g (kA kd pre ys post) (sf kd 29 3)::hs) (fun i=>a+1<=i/\i<=b/\Srt a i ys) ?_ ?_))
   ·refine bk (loop (σ:=Nat) (fun i=>[(0,.slice (some ⟨g,pre.length,none⟩) xs.length cap),(1,.int .i64 (a:Nat)),(2,.int .i64 (b:Nat)),(7,.int .i64 (i:Nat)),(8,.int .i64 (k:Nat))]) (fun _=>K) (fun _=>pt g (kA kd pre ys post) (sf kd 29 3)::hs) (fun i=>a+1<=i/\i<=b/\Srt a i ys) (fun i=>b-i) i0 ⟨hi0,hi0b,hS0⟩ ⟨I,I,I,I,I,trivial⟩ I I ?_);rintro i ⟨hi1,hi2,hS⟩;refine sq (sq (rga [pt g (kA kd pre ys post) (sf kd 29 3)] 16 [0,2,4,6,8,10,12,14,16,18,20,22,24,27,28,30] (by simp) qk qk (dcmp qk 2 (i<b) I (by simp) (fun h3=>?_) (fun h3=>?_))))
    ·refine dixs qk 3 i I I qo ?_;simp only[add_mk,Nat.mul_one];refine dldp qk 0 0 I I (kA_get qo) (dar qk 2 I (v':=.int .i64 (i-1:Nat)) (by rw[show ((i:Nat):Int)-1=((i-1:Nat):Int) from by omega];exact i64w qo) (dixs qk 0 (i-1) I I qo ?_));simp only[add_mk,Nat.mul_one];refine dldp qk 0 0 I I (kA_get qo) (dact qk 0 I (cl 0 I (lessC kd (ys.getD i 0) (ys.getD (i-1) 0)) ?_));rintro v30 K30 hs30 ⟨rfl,rfl,rfl⟩;refine dnx (by simp) I ?_
     by_cases hlt:ys.getD i 0<ys.getD (i-1) 0
     ·rw[decide_eq_true hlt];exact dend qk 2 I (th (ifF I (ex (xt (xt (xb (jx i ⟨hi1,hi2,hS⟩ ⟨I,I,I,I,I,trivial⟩ I I)))))))
     ·rw[decide_eq_false hlt];exact dend qk 2 I (th (ifT I (sk (th (bk (rg (ar 1 I (i64w (x:=((i+1:Nat):Int)) qo) (fin 1 I (bl (again (x:=i) (i+1) ⟨I,I,I,I,I,trivial⟩ I I ⟨by omega,by omega,hS.snoc qo (Nat.le_of_not_lt hlt)⟩ qo))))))))))
    ·exact dact qk 10 I<|WL.pures 1 I (dnx (by simp) I<|dend qk 2 I (th<|ifF I (ex<|xt (xt<|xb (jx i ⟨hi1,hi2,hS⟩ ⟨I,I,I,I,I,trivial⟩ I I)))))
   ·rintro i ⟨hi1,hi2,hS⟩;refine sq (sq (rg (cmpS 2 I fun b37 h37=>fin 0 I (th (ifP h37 I (fun e6=>?_) (fun e6=>?_))))))
    ·obtain rfl:i=b:=by omega
     exact sq<|rg (fin 1 I<|th (rt<|rT (rB<|rT (rT<|rB (rT<|ret1 I I ⟨I,ys,true,I,I,hP,fun _=>hS⟩)))))
    ·refine sk<|th (sq<|sq (rg<|ar 2 I (i64w qo) (cmpS 0 I fun b41 h41=>fin 0 I<|th (ifP h41 I (fun e8=>?_) (fun e8=>?_)))))
     ·exact sq<|rg (fin 1 I<|th (rt<|rT (rB<|rT (rT<|rB (rT<|ret1 I I ⟨I,ys,false,I,I,hP,fun h=>by cases h⟩)))))
     ·have hib:i<b:=by omega
      have hgj:(kA kd pre ys post)[pre.length+i]?=some (.int (kI kd) ((ys.getD i 0:Nat):Int)):=kA_get qo;have hgj1:(kA kd pre ys post)[pre.length+(i-1)]?=some (.int (kI kd) ((ys.getD (i-1) 0:Nat):Int)):=kA_get qo;have hgj2:(kA kd pre (ys.set i (ys.getD (i-1) 0)) post)[pre.length+(i-1)]?=some (.int (kI kd) (((ys.set i (ys.getD (i-1) 0)).getD (i-1) 0:Nat):Int)):=kA_get (by rw[List.length_set];omega);refine sk (th (sq (rga [pt g (kA kd pre ys post) (sf kd 29 3)] 15 [0,2,4,6,8,10,12,14,16,18,20,22,24,26,28,31,32,35] (by simp) qk qk (dar qk 4 I (v':=.int .i64 (i-1:Nat)) (by rw[show ((i:Nat):Int)-1=((i-1:Nat):Int) from by omega];exact i64w qo) (dar qk 2 I (v':=.int .i64 (i-1:Nat)) (by rw[show ((i:Nat):Int)-1=((i-1:Nat):Int) from by omega];exact i64w qo) (dixs qk 0 (i-1) I I qo ?_))))))
      simp only[add_mk,Nat.mul_one];refine dldpw qk 0 0 I qk I hgj1 (dixs qk 2 i I I qo ?_);simp only[add_mk,Nat.mul_one];refine dldpw qk 0 0 I qk I hgj (dixs qk 0 i I I qo ?_);simp only[add_mk,Nat.mul_one];refine dact qk 0 I (stp 0 0 I I hgj I (dnext (.inl qk) (dixs qk 0 (i-1) I I qo ?_)));simp only[add_mk,Nat.mul_one];refine dact qk 0 I ?_;refine WL.hs (pt g (kA kd pre (ys.set i (ys.getD (i-1) 0)) post) (sf kd 29 3)::hs) (congrArg (fun z=>pt g z (sf kd 29 3)::hs) (kA_set qo)) (stp 0 0 I I hgj2 I ?_);refine WL.hs (pt g (kA kd pre (swp i (i-1) ys) post) (sf kd 29 3)::hs) (congrArg (fun z=>pt g z (sf kd 29 3)::hs) (kA_set (by rw[List.length_set];omega))) (dnext (.inl qk) ?_);have hP1:SegP a b xs (swp i (i-1) ys):=hP.trans (SegP.swp ⟨by omega,by omega⟩ ⟨by omega,by omega⟩ qo)
      have hS1:Srt a (i-1) (swp i (i-1) ys):=Srt.same (xs:=ys) (fun p q p1 p2 p3=>hS p q p1 p2 qo) fun p p1 p2=>by rw[swp_getD qo qo,if_neg qo,if_neg qo]
      refine dend qk 0 I<|th (jn (σ:=List Nat) (fun _=>[(0,.slice (some ⟨g,pre.length,none⟩) xs.length cap),(1,.int .i64 (a:Nat)),(2,.int .i64 (b:Nat)),(7,.int .i64 (i:Nat)),(8,.int .i64 (k:Nat))]) (fun zs=>pt g (kA kd pre zs post) (sf kd 29 3)::hs) (fun zs=>SegP a b xs zs/\Srt a i zs) ?_ ?_)
      ·refine sq<|rg (ar 2 I (i64w qo) (cmpS 0 I fun b61 h61=>fin 0 I<|th (ifP h61 I (fun e10=>?_) (fun e10=>?_))))
       ·refine sq (rg (ar 1 I (v':=.int .i64 (i-1:Nat)) (by rw[show ((i:Nat):Int)-1=((i-1:Nat):Int) from by omega];exact i64w qo) (fin 1 I (th (bk ?_)))))
        refine loop (σ:=Nat×List Nat) (fun s=>[(0,.slice (some ⟨g,pre.length,none⟩) xs.length cap),(1,.int .i64 (a:Nat)),(2,.int .i64 (b:Nat)),(7,.int .i64 (i:Nat)),(8,.int .i64 (k:Nat)),(9,.int .i64 s.1)]) (fun _=>K) (fun s=>pt g (kA kd pre s.2 post) (sf kd 29 3)::hs)
         (fun s=>a<=s.1/\s.1<=i-1/\SegP a b xs s.2/\InvI a (i-1) s.1 s.2) (fun s=>s.1) (i-1,swp i (i-1) ys) ⟨by dsimp only;omega,Nat.le_refl _,hP1,InvI.start hS1⟩ ⟨rfl,rfl,rfl,rfl,rfl,rfl,trivial⟩ rfl rfl ?_
        rintro ⟨j,zs⟩ ⟨hj1,hj2,hQ,hV⟩;dsimp only at *;have hzl:zs.length=xs.length:=hQ.len;have hlz:=hlo.perm hQ hb;refine sq (sq (rg (cmpS 1 I fun b65 h65=>fin 0 I (th (ifP h65 I (fun e12=>?_) (fun e12=>?_))))))
        ·refine sk (th (sq (bk (sq (sq (rga [pt g (kA kd pre zs post) (sf kd 29 3)] 11 [0,2,4,6,8,10,12,14,16,19,20] (by simp) qk qk (dixs qk 2 j I I qo ?_)))))));simp only[add_mk,Nat.mul_one];refine dldp qk 0 0 I I (kA_get qo) (dar qk 2 I (v':=.int .i64 (j-1:Nat)) (by rw[show ((j:Nat):Int)-1=((j-1:Nat):Int) from by omega];exact i64w qo) (dixs qk 0 (j-1) I I qo ?_));simp only[add_mk,Nat.mul_one];refine dldp qk 0 0 I I (kA_get qo) (dact qk 0 I (cl 0 I (lessC kd (zs.getD j 0) (zs.getD (j-1) 0)) ?_));rintro v30 K30 hs30 ⟨rfl,rfl,rfl⟩;refine dnx (by simp) I ?_
         by_cases hlt:zs.getD j 0<zs.getD (j-1) 0
         ·have hja:a<j:=by
           rcases Nat.lt_or_ge a j with h|h
           ·exact h
           ·obtain rfl:j=a:=by omega
            have:=hlz (j-1) j qo (Nat.le_refl _) qo;omega
          rw[decide_eq_true hlt];refine dend qk 1 I (th (ifF I ?_));have hgj:(kA kd pre zs post)[pre.length+j]?=some (.int (kI kd) ((zs.getD j 0:Nat):Int)):=kA_get qo;have hgj1:(kA kd pre zs post)[pre.length+(j-1)]?=some (.int (kI kd) ((zs.getD (j-1) 0:Nat):Int)):=kA_get qo;have hgj2:(kA kd pre (zs.set j (zs.getD (j-1) 0)) post)[pre.length+(j-1)]?=some (.int (kI kd) (((zs.set j (zs.getD (j-1) 0)).getD (j-1) 0:Nat):Int)):=kA_get (by rw[List.length_set];omega);refine sk (th (rga [pt g (kA kd pre zs post) (sf kd 29 3)] 15 [0,2,4,6,8,10,12,14,16,18,20,22,24,26,28,31,32,35] (by simp) qk qk (dar qk 4 I (v':=.int .i64 (j-1:Nat)) (by rw[show ((j:Nat):Int)-1=((j-1:Nat):Int) from by omega];exact i64w qo) (dar qk 2 I (v':=.int .i64 (j-1:Nat)) (by rw[show ((j:Nat):Int)-1=((j-1:Nat):Int) from by omega];exact i64w qo) (dixs qk 0 (j-1) I I qo ?_)))))
          simp only[add_mk,Nat.mul_one];refine dldpw qk 0 0 I qk I hgj1 (dixs qk 2 j I I qo ?_);simp only[add_mk,Nat.mul_one];refine dldpw qk 0 0 I qk I hgj (dixs qk 0 j I I qo ?_);simp only[add_mk,Nat.mul_one];refine dact qk 0 I (stp 0 0 I I hgj I (dnext (.inl qk) (dixs qk 0 (j-1) I I qo ?_)));simp only[add_mk,Nat.mul_one];refine dact qk 0 I ?_;refine WL.hs (pt g (kA kd pre (zs.set j (zs.getD (j-1) 0)) post) (sf kd 29 3)::hs) (congrArg (fun z=>pt g z (sf kd 29 3)::hs) (kA_set qo)) (stp 0 0 I I hgj2 I ?_);exact WL.hs (pt g (kA kd pre (swp j (j-1) zs) post) (sf kd 29 3)::hs) (congrArg (fun z=>pt g z (sf kd 29 3)::hs) (kA_set (by rw[List.length_set];omega))) (dnext (.inl qk) (dend qk 0 rfl (bl (th (rg (ar 1 rfl (v':=.int .i64 (j-1:Nat)) (by rw[show ((j:Nat):Int)-1=((j-1:Nat):Int) from by omega];exact i64w qo) (fin 1 I (again (x:=(j,zs)) (j-1,swp j (j-1) zs) ⟨I,I,I,I,I,I,trivial⟩ I I ⟨by dsimp only;omega,by dsimp only;omega,hQ.trans (SegP.swp ⟨by omega,by omega⟩ ⟨by omega,by omega⟩ qo),hV.swap hja hj2 qo hlt⟩ (by dsimp only;omega)))))))))
         ·have hdone:Srt a i zs:=by
           rw[show i=i-1+1 from by omega];rcases Nat.lt_or_ge a j with h|h
           ·exact hV.stop h qo
           ·obtain rfl:j=a:=by omega
            exact hV.done
          rw[decide_eq_false hlt];exact dend qk 1 I (th (ifT I (ex (xt (xn I (xt (xt (xb (jx zs ⟨hQ,hdone⟩ ⟨I,I,I,I,I,trivial⟩ I I)))))))))
        ·have hdone:Srt a i zs:=by
          rw[show i=i-1+1 from by omega];obtain rfl:j=a:=by omega
          exact hV.done
         exact ex<|xt (xt<|xb (jx zs ⟨hQ,hdone⟩ ⟨I,I,I,I,I,trivial⟩ I I))
       ·exact sk<|jx _ ⟨hP1,Srt.one qo⟩ ⟨I,I,I,I,I,trivial⟩ I I
      ·rintro zs ⟨hQ,hSz⟩;have hzl0:zs.length=xs.length:=hQ.len;clear hS1 hP1 hgj2 hgj1 hgj hS hS0 hP hyl;refine sq (rg (ar 2 I (i64w qo) (cmpS 0 I fun b98 h98=>fin 0 I (th (ifP h98 I (fun e15=>?_) (fun e15=>?_))))))
       ·refine sq<|rg (ar 1 I (i64w (x:=((i+1:Nat):Int)) qo)<|fin 1 I (th<|bk ?_))
        refine loop (σ:=Nat×List Nat) (fun s=>[(0,.slice (some ⟨g,pre.length,none⟩) xs.length cap),(1,.int .i64 (a:Nat)),(2,.int .i64 (b:Nat)),(7,.int .i64 (i:Nat)),(8,.int .i64 (k:Nat)),(10,.int .i64 s.1)]) (fun _=>K) (fun s=>pt g (kA kd pre s.2 post) (sf kd 29 3)::hs)
         (fun s=>i+1<=s.1/\s.1<=b/\SegP a b xs s.2/\Srt a i s.2) (fun s=>b-s.1) (i+1,zs) ⟨Nat.le_refl _,by dsimp only;omega,hQ,hSz⟩ ⟨rfl,rfl,rfl,rfl,rfl,rfl,trivial⟩ rfl rfl ?_
        clear hQ hSz hzl0;rintro ⟨j,us⟩ ⟨hj1,hj2,hQ,hSz⟩;dsimp only at *;have hul:us.length=xs.length:=hQ.len;refine sq (sq (rg (cmpS 2 I fun b103 h103=>fin 0 I (th (ifP h103 I (fun e17=>?_) (fun e17=>?_))))))
        ·refine sk (th (sq (bk (sq (sq (rga [pt g (kA kd pre us post) (sf kd 29 3)] 11 [0,2,4,6,8,10,12,14,16,19,20] (by simp) qk qk (dixs qk 2 j I I qo ?_)))))));simp only[add_mk,Nat.mul_one];refine dldp qk 0 0 I I (kA_get qo) (dar qk 2 I (v':=.int .i64 (j-1:Nat)) (by rw[show ((j:Nat):Int)-1=((j-1:Nat):Int) from by omega];exact i64w qo) (dixs qk 0 (j-1) I I qo ?_));simp only[add_mk,Nat.mul_one];refine dldp qk 0 0 I I (kA_get qo) (dact qk 0 I (cl 0 I (lessC kd (us.getD j 0) (us.getD (j-1) 0)) ?_));rintro v30 K30 hs30 ⟨rfl,rfl,rfl⟩;refine dnx (by simp) I ?_
         by_cases hlt:us.getD j 0<us.getD (j-1) 0
         ·rw[decide_eq_true hlt];refine dend qk 1 I (th (ifF I ?_));have hgj:(kA kd pre us post)[pre.length+j]?=some (.int (kI kd) ((us.getD j 0:Nat):Int)):=kA_get qo;have hgj1:(kA kd pre us post)[pre.length+(j-1)]?=some (.int (kI kd) ((us.getD (j-1) 0:Nat):Int)):=kA_get qo;have hgj2:(kA kd pre (us.set j (us.getD (j-1) 0)) post)[pre.length+(j-1)]?=some (.int (kI kd) (((us.set j (us.getD (j-1) 0)).getD (j-1) 0:Nat):Int)):=kA_get (by rw[List.length_set];omega);refine sk (th (rga [pt g (kA kd pre us post) (sf kd 29 3)] 15 [0,2,4,6,8,10,12,14,16,18,20,22,24,26,28,31,32,35] (by simp) qk qk (dar qk 4 I (v':=.int .i64 (j-1:Nat)) (by rw[show ((j:Nat):Int)-1=((j-1:Nat):Int) from by omega];exact i64w qo) (dar qk 2 I (v':=.int .i64 (j-1:Nat)) (by rw[show ((j:Nat):Int)-1=((j-1:Nat):Int) from by omega];exact i64w qo) (dixs qk 0 (j-1) I I qo ?_)))))
          simp only[add_mk,Nat.mul_one];refine dldpw qk 0 0 I qk I hgj1 (dixs qk 2 j I I qo ?_);simp only[add_mk,Nat.mul_one];refine dldpw qk 0 0 I qk I hgj (dixs qk 0 j I I qo ?_);simp only[add_mk,Nat.mul_one];refine dact qk 0 I (stp 0 0 I I hgj I (dnext (.inl qk) (dixs qk 0 (j-1) I I qo ?_)));simp only[add_mk,Nat.mul_one];refine dact qk 0 I ?_;refine WL.hs (pt g (kA kd pre (us.set j (us.getD (j-1) 0)) post) (sf kd 29 3)::hs) (congrArg (fun z=>pt g z (sf kd 29 3)::hs) (kA_set qo)) (stp 0 0 I I hgj2 I ?_);refine WL.hs (pt g (kA kd pre (swp j (j-1) us) post) (sf kd 29 3)::hs) (congrArg (fun z=>pt g z (sf kd 29 3)::hs) (kA_set (by rw[List.length_set];omega))) (dnext (.inl qk) (dend qk 0 rfl (bl (th (rg (ar 1 rfl (i64w (x:=((j+1:Nat):Int)) qo) (fin 1 rfl ?_)))))))
          exact again (x:=(j,us)) (j+1,swp j (j-1) us) ⟨I,I,I,I,I,I,trivial⟩ I I ⟨by dsimp only;omega,by dsimp only;omega,hQ.trans (SegP.swp ⟨by omega,by omega⟩ ⟨by omega,by omega⟩ qo),hSz.same fun p p1 p2=>by rw[swp_getD qo qo,if_neg qo,if_neg qo]⟩ (by dsimp only;omega)
         ·rw[decide_eq_false hlt];exact dend qk 1 I (th (ifT I (ex (xt (xn I (xt (xt (xb (bl (th (rg (ar 1 I (i64w (x:=((k+1:Nat):Int)) qo) (fin 1 I (again (x:=(k,i0,ys)) (k+1,i,us) ⟨I,I,I,I,I,trivial⟩ I I ⟨by dsimp only;omega,hi1,hi2,hQ,hSz⟩ (by dsimp only;omega)))))))))))))))
        ·exact ex (xt (xt (xb (bl (th (rg (ar 1 I (i64w (x:=((k+1:Nat):Int)) qo) (fin 1 I (again (x:=(k,i0,ys)) (k+1,i,us) ⟨I,I,I,I,I,trivial⟩ I I ⟨by dsimp only;omega,hi1,hi2,hQ,hSz⟩ (by dsimp only;omega))))))))))
       ·exact sk (bl (th (rg (ar 1 I (i64w (x:=((k+1:Nat):Int)) qo) (fin 1 I (again (x:=(k,i0,ys)) (k+1,i,zs) ⟨I,I,I,I,I,trivial⟩ I I ⟨by dsimp only;omega,hi1,hi2,hQ,hSz⟩ (by dsimp only;omega)))))))
  ·exact ex<|xt (xt<|xb (th<|sq (rg<|fin 1 I (th<|rt (ret1 I I ⟨I,ys,false,I,I,hP,fun h=>by cases h⟩)))))
end
section
theorem u64shr(m:Nat)(b:Int)(k:Nat)(hb:b=((k:Nat):Int))(hk:k<=64):Value.int .u64 (((m:Nat):Int).fdiv (2 ^ (min b.toNat IntKind.u64.bits)))=.int .u64 (m / 2 ^ k:Nat):=by
 have e:min b.toNat IntKind.u64.bits=k:=by
  have:IntKind.u64.bits=64:=rfl;omega
 grind
theorem u64any(x:Int):∃ m:Nat,m<18446744073709551616/\Value.int .u64 (IntKind.u64.wrap x)=.int .u64 (m:Nat):=by
 have e:IntKind.u64.wrap x=x % 18446744073709551616:=by rfl
 refine ⟨(x % 18446744073709551616).toNat,by omega,?_⟩;rw[e,Int.toNat_of_nonneg qo]
theorem u64andM(m n:Nat)(hm:m<18446744073709551616)(hn:n<=63):
  Value.int .u64 (IntKind.u64.wrap (BitVec.ofInt 64 ((m:Nat):Int) &&& BitVec.ofInt 64 ((2 ^ n-1:Nat):Int)).toNat)=.int .u64 (m % 2 ^ n:Nat):=by
 have hp:2 ^ n<18446744073709551616:=Nat.lt_of_le_of_lt (Nat.pow_le_pow_right (by decide) hn) (by decide);have h1:m % 2 ^ n<=m:=Nat.mod_le _ _;rw[BitVec.toNat_and,BitVec.ofInt_natCast,BitVec.ofInt_natCast,BitVec.toNat_ofNat,BitVec.toNat_ofNat,Nat.mod_eq_of_lt (a:=m) qo,Nat.mod_eq_of_lt (a:=2 ^ n-1) qo,Nat.and_two_pow_sub_one_eq_mod,u64m,Nat.mod_eq_of_lt qo]
def L8:List UInt8:=(List.range 256).map fun b=>if b=0 then 0 else UInt8.ofNat (Nat.log2 b+1)
theorem L8_get(b:Nat)(h:b<256):∃ c:UInt8,L8[b]?=some c/\c.toNat<=8/\b<2 ^ c.toNat/\(0<b->2 ^ c.toNat<=2*b):=by
 have hd:∀ b:Fin 256,((L8[b.1]?).map fun c=>decide (c.toNat<=8/\b.1<2 ^ c.toNat/\(0<b.1->2 ^ c.toNat<=2*b.1)))=some true:=by decide +kernel
 have:=hd ⟨b,h⟩
 grind
def LenI(x n y:Nat):Prop:=y*2 ^ n<=x/\x<(y+1)*2 ^ n/\(0<x->0<y)
theorem LenI.start(x:Nat):LenI x 0 x:=⟨by simp,by simp,id⟩
theorem LenI.up{x n y k:Nat}(h:LenI x n y)(hy:2 ^ k<=y):LenI x (n+k) (y / 2 ^ k):=by
 have hp:0<2 ^ k:=Nat.pow_pos (by decide);obtain ⟨h1,h2,h3⟩:=h;have e:2 ^ (n+k)=2 ^ k*2 ^ n:=by rw[Nat.pow_add,Nat.mul_comm]
 refine ⟨?_,?_,fun _=>Nat.div_pos hy hp⟩
 ·rw[e,<-Nat.mul_assoc];exact Nat.le_trans (Nat.mul_le_mul_right _ (Nat.div_mul_le_self y _)) h1
 ·rw[e,<-Nat.mul_assoc];refine Nat.lt_of_lt_of_le h2 (Nat.mul_le_mul_right _ ?_);have:=Nat.lt_div_mul_add (a:=y) hp;rw[Nat.add_mul,Nat.one_mul];omega
theorem LenI.done{x n y c:Nat}(h:LenI x n y)(h1:y<2 ^ c)(h2:0<y->2 ^ c<=2*y):x<2 ^ (n+c)/\(0<x->2 ^ (n+c)<=2*x):=by
 obtain ⟨g1,g2,g3⟩:=h;have e:2 ^ (n+c)=2 ^ c*2 ^ n:=by rw[Nat.pow_add,Nat.mul_comm]
 refine ⟨?_,fun hx=>?_⟩
 ·rw[e];exact Nat.lt_of_lt_of_le g2 (Nat.mul_le_mul_right _ h1)
 ·rw[e];refine Nat.le_trans (Nat.mul_le_mul_right _ (h2 (g3 hx))) ?_
  grind
attribute [local irreducible] Code.wp wpList Calls
theorem len64C{w0:World}{K:PH}{hs:List PH}(x:Nat)(hx:x<18446744073709551616):Ct Tryz.prog w0 226 [.int .u64 (x:Nat)] K hs
  (fun v K' hs'=>K'=K/\hs'=hs/\∃ n:Nat,v=.int .i64 (n:Nat)/\n<=64/\x<2 ^ n/\(0<x->2 ^ n<=2*x)):=by
 refine ent Tryz.func226 ?_;refine sq (rg (fin 1 I (th (jn (σ:=Nat×Nat) (fun s=>[(0,.int .u64 s.1),(2,.int .i64 s.2)]) (fun _=>hs) (fun s=>LenI x s.2 s.1/\s.1<4294967296/\s.2<=32) ?_ ?_))))
 ·refine sq<|rg (cmpS 1 I fun b4 h4=>fin 0 I<|th (ifP h4 I (fun e2=>?_) (fun e2=>?_)))
  ·exact sq<|rg (ar 1 I (u64shr x _ 32 I qo)<|fin 1 I (th<|rg (fin 1 I<|jx (x / 2 ^ 32,32) ⟨by simpa using (LenI.start x).up (k:=32) qo,by omega,Nat.le_refl _⟩ ⟨I,I,trivial⟩ I I)))
  ·exact sk (jx (x,0) ⟨LenI.start x,by dsimp only;omega,by omega⟩ ⟨rfl,rfl,trivial⟩ rfl rfl)
 ·rintro ⟨y,n⟩ ⟨hL,hy,hn⟩;dsimp only at *;refine jn (σ:=Nat×Nat) (fun s=>[(0,.int .u64 s.1),(2,.int .i64 s.2)]) (fun _=>hs) (fun s=>LenI x s.2 s.1/\s.1<65536/\s.2<=48) ?_ ?_
  ·refine sq<|rg (cmpS 1 I fun b8 h8=>fin 0 I<|th (ifP h8 I (fun e4=>?_) (fun e4=>?_)))
   ·refine sq (rg (ar 1 I (u64shr y _ 16 I qo) (au ?_)));exact ar 1 I (i64w (x:=((n+16:Nat):Int)) qo) (fin 1 I (jx (y / 2 ^ 16,n+16) ⟨hL.up qo,by omega,by dsimp only;omega⟩ ⟨rfl,rfl,trivial⟩ rfl rfl))
   ·exact sk (jx (y,n) ⟨hL,by dsimp only;omega,by omega⟩ ⟨rfl,rfl,trivial⟩ rfl rfl)
  ·clear hL hy hn;rintro ⟨y,n⟩ ⟨hL,hy,hn⟩;dsimp only at *;refine jn (σ:=Nat×Nat) (fun s=>[(0,.int .u64 s.1),(2,.int .i64 s.2)]) (fun _=>hs) (fun s=>LenI x s.2 s.1/\s.1<256/\s.2<=56) ?_ ?_
   ·refine sq<|rg (cmpS 1 I fun b14 h14=>fin 0 I<|th (ifP h14 I (fun e6=>?_) (fun e6=>?_)))
    ·refine sq (rg (ar 1 I (u64shr y _ 8 I qo) (au ?_)));exact ar 1 I (i64w (x:=((n+8:Nat):Int)) qo) (fin 1 I (jx (y / 2 ^ 8,n+8) ⟨hL.up qo,by omega,by dsimp only;omega⟩ ⟨rfl,rfl,trivial⟩ rfl rfl))
    ·exact sk (jx (y,n) ⟨hL,by omega,by dsimp only;omega⟩ ⟨rfl,rfl,trivial⟩ rfl rfl)
   ·clear hL hy hn;rintro ⟨y,n⟩ ⟨hL,hy,hn⟩;dsimp only at *;obtain ⟨c,hc,hc8,hc1,hc2⟩:=L8_get y hy;refine sq (rg (ar 2 I (u8w qo) (six 0 L8 y I qk I hc (ar 0 I (i64w qo) (ar 0 I (i64w (x:=((n+c.toNat:Nat):Int)) qo) (au ?_))))));exact ret1 I I ⟨I,I,n+c.toNat,I,by omega,hL.done hc1 hc2⟩
theorem lenC{w0:World}{K:PH}{hs:List PH}(x:Nat)(hx:x<18446744073709551616):Ct Tryz.prog w0 167 [.int .u64 (x:Nat)] K hs
  (fun v K' hs'=>K'=K/\hs'=hs/\∃ n:Nat,v=.int .i64 (n:Nat)/\n<=64/\x<2 ^ n/\(0<x->2 ^ n<=2*x)):=by
 refine entA Tryz.func167 ?_;refine cl 1 I (len64C x hx) ?_;rintro v7 K7 hs7 ⟨rfl,rfl,n,rfl,h1,h2,h3⟩;refine au ?_;exact ret1 I I ⟨I,I,n,I,h1,h2,h3⟩
theorem npC{w0:World}{K:PH}{hs:List PH}(x:Nat)(hx:0<x/\x<=1099511627776):Ct Tryz.prog w0 264 [.int .i64 (x:Nat)] K hs
  (fun v K' hs'=>K'=K/\hs'=hs/\∃ n:Nat,v=.int .u64 (2 ^ n:Nat)/\n<=41/\2 ^ n<=2*x):=by
 refine entA Tryz.func264 ?_;refine ar 1 I (u64w qo) (cl 0 I (lenC x qo) ?_);rintro v5 K5 hs5 ⟨rfl,rfl,n,rfl,h1,h2,h3⟩;have h4:=h3 hx.1
 have h5:n<=41:=by
  rcases Nat.lt_or_ge 41 n with h|h
  ·have:2 ^ 42<=2 ^ n:=Nat.pow_le_pow_right (by decide) h;omega
  ·exact h
 refine shf 0 I qo (.inl ⟨I,(show Value.int .u64 (IntKind.u64.wrap ((1:Int)*2 ^ (min ((n:Nat):Int).toNat IntKind.u64.bits)))=.int .u64 (2 ^ n:Nat) from by
  have e:min ((n:Nat):Int).toNat IntKind.u64.bits=n:=by
   have:IntKind.u64.bits=64:=rfl;omega
  rw[e,Int.one_mul,show ((2:Int) ^ n)=((2 ^ n:Nat):Int) from by rfl];exact u64w qo)⟩) ?_
 refine au ?_;exact ret1 I I ⟨I,I,n,I,h5,h4⟩
theorem xorC{w0:World}{K:PH}{hs:List PH}(r:Nat)(x:Int):Ct Tryz.prog w0 265 [.pointer (some ⟨r,0,none⟩)] K (pt r #[.int .u64 x] 310::hs)
  (fun v K' hs'=>K'=K/\∃ m:Nat,m<18446744073709551616/\hs'=pt r #[.int .u64 (m:Nat)] 310::hs/\v=.int .u64 (m:Nat)):=by
 refine entA Tryz.func265 ?_;refine rga [pt r #[.int .u64 x] 310] 9 [0,2,4,6,8,10,12,14,16,19] (by simp) qk qk (au ?_);refine dar qk 0 I I (dar qk 0 I I (dact qk 1 I (stp 0 0 I I I I (dnext (.inl qk) ?_))));obtain ⟨x1,hx1⟩:∃ x1,x1=(IntKind.u64.wrap (BitVec.ofInt 64 x ^^^ BitVec.ofInt 64 (IntKind.u64.wrap (x*2 ^ (min (13:Int).toNat IntKind.u64.bits)))).toNat:Int):=⟨_,rfl⟩;refine dend qk 0 I (th (sq (WC.perm (hs':=pt r #[.int .u64 x1] 310::hs) (by rw[hx1];rfl) (rga [pt r #[.int .u64 x1] 310] 9 [0,2,4,6,8,10,12,14,16,19] (by simp) qk qk (au ?_)))));refine dar qk 0 I I (dar qk 0 I I (dact qk 1 I (stp 0 0 I I I I (dnext (.inl qk) ?_))));obtain ⟨x2,hx2⟩:∃ x2,x2=(IntKind.u64.wrap (BitVec.ofInt 64 x1 ^^^ BitVec.ofInt 64 (x1.fdiv (2 ^ (min (7:Int).toNat IntKind.u64.bits)))).toNat:Int):=⟨_,rfl⟩
 refine dend qk 0 I (th (sq (WC.perm (hs':=pt r #[.int .u64 x2] 310::hs) (by rw[hx2];rfl) (rga [pt r #[.int .u64 x2] 310] 9 [0,2,4,6,8,10,12,14,16,19] (by simp) qk qk (au ?_)))));refine dar qk 0 I I ?_;obtain ⟨m,hm,he⟩:=u64any (BitVec.ofInt 64 x2 ^^^ BitVec.ofInt 64 (IntKind.u64.wrap (x2*2 ^ (min (17:Int).toNat IntKind.u64.bits)))).toNat;refine dar qk 0 I he (au ?_);exact ret1 I I ⟨I,m,hm,I,I⟩
end
section
attribute [local irreducible] Code.wp wpList Calls
theorem brkC(kd:Bool){w0:World}{K:PH}{hs:List PH}(g cap:Nat)(pre post:List Value)(xs:List Nat)(a b:Nat)(hab:a+8<=b)(hb:b<=xs.length)(hc:xs.length<=cap)(hl:xs.length<=1099511627776):
  Ct Tryz.prog w0 (sf kd 256 218) [.slice (some ⟨g,pre.length,none⟩) xs.length cap,.int .i64 (a:Nat),.int .i64 (b:Nat)] K (pt g (kA kd pre xs post) (sf kd 29 3)::hs)
   (fun v K' hs'=>K'=K/\∃ ys,hs'=pt g (kA kd pre ys post) (sf kd 29 3)::hs/\SegP a b xs ys):=by
 cases kd
 let kd:Bool:=false
 rewrite [show sf false=sf kd from rfl]
 try rewrite [show kA false=kA kd from rfl]
 rotate_left
 let kd:Bool:=true
 rewrite [show sf true=sf kd from rfl]
 try rewrite [show kA true=kA kd from rfl]
 rotate_left
 all_goals
  obtain ⟨n,hn⟩:∃ n,n=b-a:=⟨_,rfl⟩
 refine enter Tryz.func218 qk I I I ?_
 rotate_left
 refine enter Tryz.func256 qk I I I ?_
 rotate_left
 all_goals
  refine sq (rg (ar 2 I (v':=.int .i64 (n:Nat)) (by rw[show ((b:Nat):Int)-((a:Nat):Int)=((n:Nat):Int) from by omega];exact i64w qo) (fin 1 I (th (sq (rg (cmpS 1 I fun b15 h15=>fin 0 I (th (ifPT h15 qo I (sq (rg (ar 1 I (u64w qo) (al 0 (.int .u64 0) I qk fun r=>stp 0 0 I I I I (fin 0 I (th (sq (rg (cl 1 I (npC n qo) ?_))))))))))))))))));rintro v19 K19 hs19 ⟨rfl,rfl,w,rfl,hw,hw2⟩;have hq1:n / 4*2+1<n:=by omega
  have hq2:2<=n / 4:=by omega
  refine fin 1 I (th (sq (rg (ar 2 I (quoN n 4 qo) (ar 0 I (i64w (x:=((n / 4*2:Nat):Int)) qo) (ar 0 I (i64w (x:=((a+n / 4*2:Nat):Int)) qo) (ar 0 I (v':=.int .i64 (a+n / 4*2-1:Nat)) (by rw[show ((a+n / 4*2:Nat):Int)-1=((a+n / 4*2-1:Nat):Int) from by omega];exact i64w qo) (fin 1 I (th (bk ?_))))))))))
  refine loop (σ:=Nat×Nat×List Nat) (fun s=>[(0,.slice (some ⟨g,pre.length,none⟩) xs.length cap),(1,.int .i64 (a:Nat)),(6,.int .i64 (n:Nat)),(7,.pointer (some ⟨r,0,none⟩)),(8,.int .u64 (2 ^ w:Nat)),(9,.int .i64 s.1)]) (fun _=>K19) (fun s=>pt r #[.int .u64 s.2.1] 310::pt g (kA kd pre s.2.2 post) (sf kd 29 3)::hs)
   (fun s=>a<=s.1/\s.1<=a+n / 4*2+2/\SegP a b xs s.2.2) (fun s=>b-s.1) (a+n / 4*2-1,n,xs) ⟨by dsimp only;omega,by dsimp only;omega,SegP.refl _ _ _⟩ ⟨rfl,rfl,rfl,rfl,rfl,rfl,trivial⟩ rfl rfl ?_
  rintro ⟨i,m0,ys⟩ ⟨hi1,hi2,hP⟩;dsimp only at *;have hyl:ys.length=xs.length:=hP.len;refine sq (sq (rg (ar 3 I (quoN n 4 qo) (ar 0 I (i64w (x:=((n / 4*2:Nat):Int)) qo) (ar 0 I (i64w (x:=((a+n / 4*2:Nat):Int)) qo) (ar 0 I (i64w (x:=((a+n / 4*2+1:Nat):Int)) qo) (cmpS 0 I fun b33 h33=>fin 0 I (th (ifP h33 I (fun e4=>?_) (fun e4=>?_))))))))))
  ·refine sk (th (sq (bk (sq (rg (cl 0 I (xorC r ((m0:Nat):Int)) ?_))))));rintro v36 K36 hs36 ⟨rfl,m,hm,rfl,rfl⟩;have hwp:0<2 ^ w:=Nat.pow_pos (by decide);refine ar 1 I (v':=.int .u64 (2 ^ w-1:Nat)) (by rw[show ((2 ^ w:Nat):Int)-1=((2 ^ w-1:Nat):Int) from by omega];exact u64w qo) (ar 0 I (u64andM m w hm qo) ?_);have hmm:m % 2 ^ w<2 ^ w:=Nat.mod_lt _ hwp;obtain ⟨o,ho⟩:∃ o,o=m % 2 ^ w:=⟨_,rfl⟩;rw[<-ho] at hmm ⊢;refine ar 0 I (i64w (x:=((o:Nat):Int)) qo) (fin 1 I (th (jn (σ:=Nat) (fun o=>[(0,.slice (some ⟨g,pre.length,none⟩) xs.length cap),(1,.int .i64 (a:Nat)),(6,.int .i64 (n:Nat)),(7,.pointer (some ⟨r,0,none⟩)),(8,.int .u64 (2 ^ w:Nat)),(9,.int .i64 (i:Nat)),(10,.int .i64 (o:Nat))]) (fun _=>pt r #[.int .u64 (m:Nat)] 310::pt g (kA kd pre ys post) (sf kd 29 3)::hs) (fun o=>o<n) ?_ ?_)))
   ·refine sq<|rg (cmpS 2 I fun b43 h43=>fin 0 I<|th (ifP h43 I (fun e6=>?_) (fun e6=>?_)))
    ·exact rg (ar 2 I (v':=.int .i64 (o-n:Nat)) (by rw[show ((o:Nat):Int)-((n:Nat):Int)=((o-n:Nat):Int) from by omega];exact i64w qo) (fin 1 I (jx (o-n) qo ⟨I,I,I,I,I,I,I,trivial⟩ I I)))
    ·exact sk<|jx o qo ⟨I,I,I,I,I,I,I,trivial⟩ I I
   ·clear ho hmm o;intro o ho;have hgi:(kA kd pre ys post)[pre.length+i]?=some (.int (kI kd) ((ys.getD i 0:Nat):Int)):=kA_get qo;have hgo:(kA kd pre ys post)[pre.length+(a+o)]?=some (.int (kI kd) ((ys.getD (a+o) 0:Nat):Int)):=kA_get qo;have hgo2:(kA kd pre (ys.set i (ys.getD (a+o) 0)) post)[pre.length+(a+o)]?=some (.int (kI kd) (((ys.set i (ys.getD (a+o) 0)).getD (a+o) 0:Nat):Int)):=kA_get (by rw[List.length_set];omega);refine rga [pt g (kA kd pre ys post) (sf kd 29 3)] 17 [0,2,4,6,8,10,12,14,16,18,20,22,24,26,28,30,32,35,36,39] (by simp) qk qk (dar qk 5 I (i64w (x:=((a+o:Nat):Int)) qo) (dar qk 3 I (i64w (x:=((a+o:Nat):Int)) qo) (dixs qk 0 (a+o) I I qo ?_)));simp only[add_mk,Nat.mul_one];refine dldpw qk 0 0 I qk I hgo (dixs qk 2 i I I qo ?_)
    simp only[add_mk,Nat.mul_one];refine dldpw qk 0 0 I qk I hgi (dixs qk 0 i I I qo ?_);simp only[add_mk,Nat.mul_one];refine dact qk 0 I (stp 0 1 I I hgi I (dnext (.inl qk) (dixs qk 0 (a+o) I I qo ?_)));simp only[add_mk,Nat.mul_one];refine dact qk 0 I ?_;refine WL.hs (pt r #[.int .u64 (m:Nat)] 310::pt g (kA kd pre (ys.set i (ys.getD (a+o) 0)) post) (sf kd 29 3)::hs) (congrArg (fun z=>pt r #[.int .u64 (m:Nat)] 310::pt g z (sf kd 29 3)::hs) (kA_set qo)) (stp 0 1 I I hgo2 I ?_);exact WL.hs (pt r #[.int .u64 (m:Nat)] 310::pt g (kA kd pre (swp i (a+o) ys) post) (sf kd 29 3)::hs) (congrArg (fun z=>pt r #[.int .u64 (m:Nat)] 310::pt g z (sf kd 29 3)::hs) (kA_set (by rw[List.length_set];omega))) (dnext (.inl qk) (dend qk 0 rfl (bl (th (rg (ar 1 rfl (i64w (x:=((i+1:Nat):Int)) qo) (fin 1 rfl (again (x:=(i,m0,ys)) (i+1,m,swp i (a+o) ys) ⟨rfl,rfl,rfl,rfl,rfl,rfl,trivial⟩ rfl rfl ⟨by dsimp only;omega,by dsimp only;omega,hP.trans (SegP.swp ⟨by omega,by omega⟩ ⟨by omega,by omega⟩ qo)⟩ (by dsimp only;omega)))))))))
  ·exact ex<|xt (xt<|xb (WQ.drop<|end0 I ⟨I,ys,I,hP⟩))
end
section
attribute [local irreducible] Code.wp wpList Calls
theorem pdqC(kd:Bool)(n:Nat):∀ {w0:World} {K:PH} {hs:List PH} (g cap:Nat) (pre post:List Value) (xs:List Nat) (a b lim:Nat) (hab:a<=b) (hb:b<=xs.length) (hc:xs.length<=cap) (hl:xs.length<=1099511627776) (hlim:lim<=64) (hlo:LoB a b xs) (hn:b-a<=n),
  Ct Tryz.prog w0 (sf kd 215 166) [.slice (some ⟨g,pre.length,none⟩) xs.length cap,.int .i64 (a:Nat),.int .i64 (b:Nat),.int .i64 (lim:Nat)] K (pt g (kA kd pre xs post) (sf kd 29 3)::hs)
   (fun v K' hs'=>K'=K/\∃ ys,hs'=pt g (kA kd pre ys post) (sf kd 29 3)::hs/\SegP a b xs ys/\Srt a b ys):=by
 cases kd
 let kd:Bool:=false
 rewrite [show sf false=sf kd from rfl]
 try rewrite [show kA false=kA kd from rfl]
 rotate_left
 let kd:Bool:=true
 rewrite [show sf true=sf kd from rfl]
 try rewrite [show kA true=kA kd from rfl]
 rotate_left
 all_goals
  induction n using Nat.strongRecOn
  rename_i n ih;intro w0 K hs g cap pre post xs a b lim hab hb hc hl hlim hlo hn
 refine enter Tryz.func166 qk I I I ?_
 rotate_left
 refine enter Tryz.func215 qk I I I ?_
 rotate_left
 all_goals
  refine sq<|rg (fin 1 I<|th (sq<|rg (fin 1 I<|th (bk ?_))))
  refine loop (σ:=(Nat×Nat×Nat)×(Bool×Bool)×List Nat) (fun s=>[(0,.slice (some ⟨g,pre.length,none⟩) xs.length cap),(1,.int .i64 s.1.1),(2,.int .i64 s.1.2.1),(3,.int .i64 s.1.2.2),(8,.bool s.2.1.1),(9,.bool s.2.1.2)]) (fun _=>K) (fun s=>pt g (kA kd pre s.2.2 post) (sf kd 29 3)::hs)
   (fun s=>s.1.2.2<=64/\a<=s.1.1/\s.1.2.1<=b/\s.1.1<=s.1.2.1/\SegP a b xs s.2.2/\Rst a b s.1.1 s.1.2.1 s.2.2/\LoB s.1.1 s.1.2.1 s.2.2) (fun s=>s.1.2.1-s.1.1) ((a,b,lim),(true,true),xs) ⟨hlim,Nat.le_refl _,Nat.le_refl _,hab,SegP.refl _ _ _,Rst.self _ _ _,hlo⟩ ⟨rfl,rfl,rfl,rfl,rfl,rfl,trivial⟩ rfl rfl ?_
  rintro ⟨⟨c,d,lm⟩,⟨wb,wp⟩,ys⟩ ⟨hlm,hac,hdb,hcd,hP,hR,hL⟩;dsimp only at *;have hyl:ys.length=xs.length:=hP.len;obtain ⟨n1,hn1⟩:∃ n1,n1=d-c:=⟨_,rfl⟩;refine bk (sq (rg (ar 2 I (v':=.int .i64 (n1:Nat)) (by rw[show ((d:Nat):Int)-((c:Nat):Int)=((n1:Nat):Int) from by omega];exact i64w qo) (fin 1 I (th (sq (sq (rg (cmpS 1 I fun b23 h23=>fin 0 I (th (ifP h23 I (fun e2=>?_) (fun e2=>?_))))))))))))
  ·refine sq (rg ?_);have hs1:=insC kd (w0:=w0) (K:=K) (hs:=hs) g cap pre post ys c d hcd qo qo qo;rw[hyl] at hs1;refine cl 3 I hs1 ?_;rintro v27 K27 hs27 ⟨rfl,zs,rfl,hQ,hS⟩;exact fin 0 I (th (rt (rT (rB (rT (rB (ret0 I ⟨I,zs,I,hP.trans (hQ.wide hac hdb),hR zs hQ hS⟩)))))))
  ·refine sk<|th (sq<|sq (rg (cmpS 1 I fun b29 h29=>fin 0 I<|th (ifP h29 I (fun e4=>?_) (fun e4=>?_)))))
   ·refine sq (rg ?_);have hs1:=heapC kd (w0:=w0) (K:=K) (hs:=hs) g cap pre post ys c d qo qo qo qo;rw[hyl] at hs1;refine cl 3 I hs1 ?_;rintro v33 K33 hs33 ⟨rfl,zs,rfl,hQ,hS⟩;exact fin 0 I (th (rt (rT (rB (rT (rB (ret0 I ⟨I,zs,I,hP.trans (hQ.wide hac hdb),hR zs hQ hS⟩)))))))
   ·refine sk<|th (jn (σ:=Nat×List Nat) (fun s=>[(0,.slice (some ⟨g,pre.length,none⟩) xs.length cap),(1,.int .i64 (c:Nat)),(2,.int .i64 (d:Nat)),(3,.int .i64 s.1),(8,.bool wb),(9,.bool wp),(10,.int .i64 (n1:Nat))]) (fun s=>pt g (kA kd pre s.2 post) (sf kd 29 3)::hs) (fun s=>s.1<=64/\a<=c/\d<=b/\c<=d/\SegP a b xs s.2/\Rst a b c d s.2/\LoB c d s.2) ?_ ?_)
    ·refine sq (rg ?_);cases wb with
     | false=>
      refine fin 2 I (th (ifT I (sq (rg ?_))));have hs1:=brkC kd (w0:=w0) (K:=K) (hs:=hs) g cap pre post ys c d qo qo qo qo;rw[hyl] at hs1;refine cl 3 I hs1 ?_;rintro v39 K39 hs39 ⟨rfl,zs,rfl,hQ⟩;exact fin 0 I (th (rg (ar 1 I (v':=.int .i64 (lm-1:Nat)) (by rw[show ((lm:Nat):Int)-1=((lm-1:Nat):Int) from by omega];exact i64w qo) (fin 1 I (jx (lm-1,zs) ⟨by dsimp only;omega,hac,hdb,hcd,hP.trans (hQ.wide hac hdb),hR.step hQ,hL.perm hQ qo⟩ ⟨rfl,rfl,rfl,rfl,rfl,rfl,rfl,trivial⟩ rfl rfl)))))
     | true=>
      exact fin 2 I<|th (ifF I<|sk (jx (lm,ys) ⟨hlm,hac,hdb,hcd,hP,hR,hL⟩ ⟨I,I,I,I,I,I,I,trivial⟩ I I))
    ·clear hP hR hL hyl;clear ys hlm e4 h29 b29;clear lm;rintro ⟨lm,ys⟩ ⟨hlm,-,-,-,hP,hR,hL⟩;dsimp only at *;have hyl:ys.length=xs.length:=hP.len;refine sq (rg ?_);have hs1:=pivC kd (w0:=w0) (K:=K) (hs:=hs) g cap pre post ys c d qo qo qo qo;rw[hyl] at hs1;refine cl 3 I hs1 ?_;rintro v46 K46 hs46 ⟨rfl,rfl,pv,h,rfl,hpv,hh⟩;refine fin 5 I (th (jn (σ:=(Nat×Nat)×List Nat) (fun s=>[(0,.slice (some ⟨g,pre.length,none⟩) xs.length cap),(1,.int .i64 (c:Nat)),(2,.int .i64 (d:Nat)),(3,.int .i64 (lm:Nat)),(8,.bool wb),(9,.bool wp),(10,.int .i64 (n1:Nat)),(11,.int .i64 s.1.1),(12,.int .i64 s.1.2)]) (fun s=>pt g (kA kd pre s.2 post) (sf kd 29 3)::hs) (fun s=>(c<=s.1.1/\s.1.1<d)/\a<=c/\d<=b/\c<=d/\SegP a b xs s.2/\Rst a b c d s.2/\LoB c d s.2) ?_ ?_))
     ·refine sq<|rg (cmpS 1 I fun b50 h50=>fin 0 I<|th (ifP h50 I (fun e7=>?_) (fun e7=>?_)))
      ·refine sq (rg ?_);have hs1:=revRC kd (w0:=w0) (K:=K46) (hs:=hs) g cap pre post ys c d qo qo qo qo;rw[hyl] at hs1;refine cl 3 I hs1 ?_;rintro v54 K54 hs54 ⟨rfl,zs,rfl,hQ⟩;exact fin 0 I (th (sq (rg (ar 1 I (i64w qo) (ar 2 I (i64w qo) (ar 0 I (v':=.int .i64 ((d-1-(pv-c):Nat):Int)) (by rw[show ((d:Nat):Int)-1-(((pv:Nat):Int)-((c:Nat):Int))=((d-1-(pv-c):Nat):Int) from by omega];exact i64w qo) (fin 1 I (th (rg (fin 1 I (jx ((d-1-(pv-c),1),zs) ⟨by dsimp only;omega,hac,hdb,hcd,hP.trans (hQ.wide hac hdb),hR.step hQ,hL.perm hQ qo⟩ ⟨rfl,rfl,rfl,rfl,rfl,rfl,rfl,rfl,rfl,trivial⟩ rfl rfl)))))))))))
      ·exact sk<|jx ((pv,h),ys) ⟨hpv,hac,hdb,hcd,hP,hR,hL⟩ ⟨I,I,I,I,I,I,I,I,I,trivial⟩ I I
     ·clear hs1 hP hR hL hyl hpv hh;clear ys;clear pv h;rintro ⟨⟨pv,h⟩,ys⟩ ⟨hpv,-,-,-,hP,hR,hL⟩;dsimp only at *;have hyl:ys.length=xs.length:=hP.len;refine jn (σ:=List Nat) (fun s=>[(0,.slice (some ⟨g,pre.length,none⟩) xs.length cap),(1,.int .i64 (c:Nat)),(2,.int .i64 (d:Nat)),(3,.int .i64 (lm:Nat)),(8,.bool wb),(9,.bool wp),(10,.int .i64 (n1:Nat)),(11,.int .i64 (pv:Nat))]) (fun s=>pt g (kA kd pre s post) (sf kd 29 3)::hs) (fun s=>a<=c/\d<=b/\c<=d/\SegP a b xs s/\Rst a b c d s/\LoB c d s) ?_ ?_
      ·refine sq (rg ?_);cases wb with
       | false=>
        exact fin 8 I<|th (ifF I<|sk (jx ys ⟨hac,hdb,hcd,hP,hR,hL⟩ ⟨I,I,I,I,I,I,I,I,trivial⟩ I I))
       | true=>
       cases wp with
       | false=>
        exact fin 8 I<|th (ifF I<|sk (jx ys ⟨hac,hdb,hcd,hP,hR,hL⟩ ⟨I,I,I,I,I,I,I,I,trivial⟩ I I))
       | true=>
        refine cmpS 6 I fun b67 h67=>fin 1 I<|th (ifP h67 I (fun h9=>?_) (fun h9=>?_))
        ·refine sq (rg ?_);have hs1:=pisC kd (w0:=w0) (K:=K46) (hs:=hs) g cap pre post ys c d qo qo qo qo hL;rw[hyl] at hs1;refine cl 3 I hs1 ?_;rintro v72 K72 hs72 ⟨rfl,zs,t,rfl,rfl,hQ,hS⟩;refine fin 0 I (th (ifB I (fun e10=>?_) (fun e10=>?_)))
         ·exact rt<|jr (rB<|rT (rB<|ret0 I ⟨I,zs,I,hP.trans (hQ.wide hac hdb),hR zs hQ (hS e10)⟩))
         ·exact sk<|jx zs ⟨hac,hdb,hcd,hP.trans (hQ.wide hac hdb),hR.step hQ,hL.perm hQ qo⟩ ⟨I,I,I,I,I,I,I,I,trivial⟩ I I
        ·exact sk<|jx ys ⟨hac,hdb,hcd,hP,hR,hL⟩ ⟨I,I,I,I,I,I,I,I,trivial⟩ I I
      ·clear hP hR hL hyl;clear ys;rintro ys ⟨-,-,-,hP,hR,hL⟩;have hyl:ys.length=xs.length:=hP.len;refine jn (σ:=Unit) (fun _=>[(0,.slice (some ⟨g,pre.length,none⟩) xs.length cap),(1,.int .i64 (c:Nat)),(2,.int .i64 (d:Nat)),(3,.int .i64 (lm:Nat)),(8,.bool wb),(9,.bool wp),(10,.int .i64 (n1:Nat)),(11,.int .i64 (pv:Nat))]) (fun _=>pt g (kA kd pre ys post) (sf kd 29 3)::hs) (fun _=>True) ?_ ?_
       ·refine sq<|rga [pt g (kA kd pre ys post) (sf kd 29 3)] 15 [0,2,4,6,8,10,12,14,16,18,20,22,25,26,28] (by simp) qk qk (dcmp qk 1 (0<c) I (by simp) (fun h11=>?_) (fun h11=>?_))
        ·refine dar qk 3 I (v':=.int .i64 (c-1:Nat)) (by rw[show ((c:Nat):Int)-1=((c-1:Nat):Int) from by omega];exact i64w qo) (dixs qk 0 (c-1) I I qo ?_);simp only[add_mk,Nat.mul_one];refine dldp qk 0 0 I I (kA_get qo) (dixs qk 2 pv I I qo ?_);simp only[add_mk,Nat.mul_one];refine dldp qk 0 0 I I (kA_get qo) (dact qk 0 I (cl 0 I (lessC kd (ys.getD (c-1) 0) (ys.getD pv 0)) ?_));rintro v85 K85 hs85 ⟨rfl,rfl,rfl⟩;refine dnx (by simp) I ?_
         by_cases hlt:ys.getD (c-1) 0<ys.getD pv 0
         ·rw[decide_eq_true hlt];exact dend qk 2 I (th (ifF I (sk (jx () trivial ⟨I,I,I,I,I,I,I,I,trivial⟩ I I))))
         ·rw[decide_eq_false hlt];refine dend qk 2 I (th (ifT I (sq (rg ?_))));have hs1:=parEC kd (w0:=w0) (K:=K85) (hs:=hs) g cap pre post ys c d pv qo hpv qo qo qo;rw[hyl] at hs1;refine cl 4 I hs1 ?_;rintro v92 K92 hs92 ⟨rfl,zs,i,rfl,rfl,hQ,hi1,hi2,hz1,hz2,hz3⟩;have hzl:zs.length=ys.length:=hQ.len;obtain ⟨hR2,hL2⟩:=(hR.step hQ).equal h11 hi1 hi2 qo (hL.perm hQ qo) (by rw[hQ.outD (i:=c-1) (.inl qo),hz3];exact Nat.le_of_not_lt hlt) hz1 hz2;exact fin 1 I (th (sq (rg (fin 2 I (th (ex (je (xb (again (x:=((c,d,lm),(wb,wp),zs)) ((i,d,lm),(wb,wp),zs) ⟨I,I,I,I,I,I,trivial⟩ I I ⟨hlm,by dsimp only;omega,hdb,hi2,hP.trans (hQ.wide hac hdb),hR2,hL2⟩ (by dsimp only;omega))))))))))
        ·exact dact qk 10 I<|WL.pures 1 I (dnx (by simp) I<|dend qk 2 I (th<|ifF I (sk<|jx () trivial ⟨I,I,I,I,I,I,I,I,trivial⟩ I I)))
       ·rintro - -;refine sq (rg ?_);have hs1:=parC kd (w0:=w0) (K:=K46) (hs:=hs) g cap pre post ys c d pv qo hpv qo qo qo;rw[hyl] at hs1;refine cl 4 I hs1 ?_;rintro v99 K99 hs99 ⟨rfl,zs,m,t,rfl,rfl,hQ,hA⟩;have hm1:=hA.m1;have hm2:=hA.m2;have hzl:zs.length=xs.length:=hQ.len.trans hyl;have hLz:=hL.perm hQ qo;have hPz:=hP.trans (hQ.wide hac hdb);refine fin 5 I (th (sq (rg (fin 2 I (th (sq (rg (ar 2 I (v':=.int .i64 (m-c:Nat)) (by rw[show ((m:Nat):Int)-((c:Nat):Int)=((m-c:Nat):Int) from by omega];exact i64w qo) (ar 2 I (v':=.int .i64 (d-m:Nat)) (by rw[show ((d:Nat):Int)-((m:Nat):Int)=((d-m:Nat):Int) from by omega];exact i64w qo) (fin 2 I (th (sq (rg (ar 1 I (quoN n1 8 qo) (fin 1 I (th (sq (rg (cmpS 2 I fun b113 h113=>fin 0 I (th (ifP h113 I (fun e14=>?_) (fun e14=>?_))))))))))))))))))))))
        ·refine sq (rg (cmpS 2 I fun b116 h116=>fin 1 I (th (sq (rg ?_)))));have hs1:=ih (n-1) qo (w0:=w0) (K:=K99) (hs:=hs) g cap pre post zs c m lm hm1 qo qo qo hlm (hLz.cut qo) qo;rw[hzl] at hs1;refine cl 4 I hs1 ?_;rintro v121 K121 hs121 ⟨rfl,us,rfl,hU,hS⟩;have hul:us.length=xs.length:=hU.len.trans hzl;exact fin 0 I (th (rg (ar 1 I (i64w (x:=((m+1:Nat):Int)) qo) (fin 1 I (bl (again (x:=((c,d,lm),(wb,wp),zs)) ((m+1,d,lm),(b116,t),us) ⟨I,I,I,I,I,I,trivial⟩ I I ⟨hlm,by dsimp only;omega,hdb,hm2,hPz.trans (hU.wide hac qo),(hR.step hQ).left hA qo hU hS,(hA.left hU qo).loB (hLz.perm (hU.wide (Nat.le_refl _) qo) qo)⟩ (by dsimp only;omega)))))))
        ·refine sq (rg (cmpS 2 I fun b126 h126=>fin 1 I (th (sq (rg (ar 2 I (i64w (x:=((m+1:Nat):Int)) qo) ?_))))));have hs1:=ih (n-1) qo (w0:=w0) (K:=K99) (hs:=hs) g cap pre post zs (m+1) d lm hm2 qo qo qo hlm (hA.loB hLz) qo;rw[hzl] at hs1;refine cl 2 I hs1 ?_;rintro v132 K132 hs132 ⟨rfl,us,rfl,hU,hS⟩;have hul:us.length=xs.length:=hU.len.trans hzl;exact fin 0 I (th (rg (fin 2 I (bl (again (x:=((c,d,lm),(wb,wp),zs)) ((c,m,lm),(b126,t),us) ⟨I,I,I,I,I,I,trivial⟩ I I ⟨hlm,hac,by dsimp only;omega,hm1,hPz.trans (hU.wide qo hdb),(hR.step hQ).right hA qo hU hS,(hLz.perm (hU.wide qo (Nat.le_refl _)) qo).cut (by dsimp only;omega)⟩ (by dsimp only;omega))))))
end
section
attribute [local irreducible] Code.wp wpList Calls
def todoL(l:List Int)(ks:List Int):Nat:=(l.filter fun x=>decide (x∉ks)).length
theorem todoL_lt{ks:List Int}{k:Int}(hk:k∉ks):∀ {l:List Int},k∈l->todoL l (ks++[k])<todoL l ks:=by
 have hle:∀ l:List Int,todoL l (ks++[k])<=todoL l ks:=fun l=>by
  unfold todoL;rw[<-List.countP_eq_length_filter,<-List.countP_eq_length_filter];exact List.countP_mono_left fun x _ hx=>by simp at hx ⊢;exact hx.1
 intro l
 induction l with
 | nil=>intro h;simp at h
 | cons x l ih=>
  intro h
  by_cases e:x=k
  ·subst e;have:=hle l;unfold todoL at this ⊢;rw[List.filter_cons_of_neg (by simp),List.filter_cons_of_pos (by simp[hk])];simp only[List.length_cons];omega
  ·have:=ih (by rcases List.mem_cons.1 h with h|h;exact absurd h.symm e;exact h);unfold todoL at this ⊢
   by_cases hx:x∈ks
   ·rw[List.filter_cons_of_neg (by simp[hx]),List.filter_cons_of_neg (by simp[hx])];exact this
   ·rw[List.filter_cons_of_pos (by simp[hx,e]),List.filter_cons_of_pos (by simp[hx])];simp only[List.length_cons];omega
abbrev KsOf{ν:Type}(m:List (Int×ν)):={l:List Int // l.Nodup/\∀ k∈l,k∈m.map (·.1)}
def KsOf.add{ν:Type}{m:List (Int×ν)}(s:KsOf m)(k:Int)(h1:k∈m.map (·.1))(h2:k∉s.1):KsOf m:=⟨s.1++[k],by
 refine List.nodup_append.2 ⟨s.2.1,by simp,?_⟩;intro a ha b hb;simp only[List.mem_singleton] at hb;subst hb;intro e;subst e;exact h2 ha,fun j hj=>by
 rcases List.mem_append.1 hj with hj|hj
 ·exact s.2.2 j hj
 ·simp only[List.mem_singleton] at hj;rw[hj];exact h1⟩
theorem KsOf.len{ν:Type}{m:List (Int×ν)}(s:KsOf m):s.1.length<=m.length:=by
 have h:=s.2.1.length_le_of_subset (l₂:=m.map (·.1)) (fun k hk=>s.2.2 k hk);simpa using h
def stepN{ν:Type}(enc:Int->Value)(m:List (Int×ν))(s:KsOf m)(vs:List Value)(s':KsOf m):Prop:=∃ k h1 h2,vs=[enc k]/\s'=s.add k h1 h2
def KsOf.nil{ν:Type}(m:List (Int×ν)):KsOf m:=⟨[],by simp,by simp⟩
def overN{ν:Type}(m:List (Int×ν))(s:KsOf m):Prop:=∀ k∈m.map (·.1),k∈s.1
def KeyRd(hm:PH)(b1 bo:Nat)(K:PH)(hs:List PH):Prop:=(∃ h,In K hs h/\Cell h ⟨b1,0,none⟩ (.map (some bo)))/\In K hs hm
theorem KsOf.perm{ν:Type}{m:List (Int×ν)}(hnd:(m.map (·.1)).Nodup)(s:KsOf m)(h:overN m s):s.1.Perm (m.map (·.1)):=
 (List.perm_ext_iff_of_nodup s.2.1 hnd).2 fun k=>⟨s.2.2 k,h k⟩
def ivu(ks:List Int):List Value:=ks.map fun k=>Value.int .u64 k
def ivk(kd:Bool)(ks:List Int):List Value:=ks.map fun k=>Value.int (kI kd) k
theorem keyUT(kd:Bool):Tryz.prog.underlying (sf kd 124 129)=some (.map (sf kd 29 3) (sf kd 129 136)):=by
 cases kd
 ·exact Tryz.underlying129
 ·exact Tryz.underlying124
theorem keysC(kd:Bool){w0:World}{K:PH}{hs:List PH}(bo:Nat):Ct Tryz.prog w0 (sf kd 96 50) [.map (some bo)] K hs
  (fun v K' hs'=>K'=K/\∃ b,hs'=pt b #[.map (some bo)] (sf kd 124 129)::hs/\v=.func (.func (sf kd 164 99)) #[] #[.pointer (some ⟨b,0,none⟩)]):=by
 cases kd
 let kd:Bool:=false
 rewrite [show sf false=sf kd from rfl]
 refine enter Tryz.func50 qk I I I ?_
 rotate_left
 let kd:Bool:=true
 rewrite [show sf true=sf kd from rfl]
 refine enter Tryz.func96 qk I I I ?_
 rotate_left
 all_goals
  exact sq<|rg (bx 0 I fun b1=>fin 1 I<|th (sq<|rg (fin 2 I<|th (rt<|ret1 I I ⟨I,b1,I,I⟩))))
theorem keysI(kd:Bool){w0:World}{ν:Type}(encv:ν->Value)(hm:PH)(b1 bo:Nat)(m:List (Int×ν))(hnd:(m.map (·.1)).Nodup)(hO:MpO (encK kd) encv hm bo m):
  ItG Tryz.prog w0 (sf kd 164 99) [.pointer (some ⟨b1,0,none⟩)] (stepN (encK kd) m) (overN m) (KsOf.nil m) (KeyRd hm b1 bo):=by
 cases kd
 let kd:Bool:=false
 rewrite [show sf false=sf kd from rfl]
 try rewrite [show encK false=encK kd from rfl]
 rotate_left
 let kd:Bool:=true
 rewrite [show sf true=sf kd from rfl]
 try rewrite [show encK true=encK kd from rfl]
 rotate_left
 all_goals
  intro L St Sp hRd hY K hs h0
 refine enterX Tryz.func99 qk I I I ?_
 rotate_left
 refine enterX Tryz.func164 qk I I I ?_
 rotate_left
 all_goals
  obtain ⟨⟨h1,m1,c1⟩,m2⟩:=hRd _ K hs h0;refine sqX (rgX (ld 0 I m1 c1 (mrg 0 I (keyUT kd) m2 hO fun r hi hI0=>fin 0 I (nxX (thX (bkX ?_))))))
  refine loopX (σ:=PH×KsOf m×PH×List PH) (fun _=>[(0,.func (.yield L) #[] #[]),(1,.pointer (some ⟨b1,0,none⟩)),(5,.pointer (some ⟨r,0,none⟩))]) (fun s=>s.2.2.1) (fun s=>s.1::s.2.2.2)
   (fun s=>MpI (encK kd) encv hm s.1 bo r m s.2.1.1/\St s.2.1 s.2.2.1 s.2.2.2) (fun s=>todoL (m.map (·.1)) s.2.1.1) (hi,KsOf.nil m,K,hs) ⟨hI0,h0⟩ ⟨rfl,rfl,rfl,trivial⟩ rfl rfl ?_
  rintro ⟨hi,ks,K,hs⟩ ⟨hI,hst⟩;dsimp only at *;obtain ⟨_,m2⟩:=hRd ks K hs hst;refine sqX (rgX (mnx 0 0 I m2.cons I hI hnd (fun k v hi' hmem hnk hS=>?_) (fun hall=>?_)))
  ·have hkm:k∈m.map (·.1):=List.mem_map.2 ⟨_,hmem,rfl⟩;refine fin 1 I (nxX (thX (sqX (ifTX I (skX (thX (bkX (sqX (rgX (men 0 I m2.cons (.inr ⟨0,I⟩) hS (fin 2 I (nxX (thX (sqX (rgI (WLI.cut 2 (fin 2 I (cutX (yld I ((hY ks [(encK kd) k] (ks.add k hkm hnk) K hs [hi'] ⟨k,hkm,hnk,I,I⟩ hst).perm (List.perm_append_singleton hi' hs).symm) ?_)))))))))))))))))));rintro v12 K12 hs12 ⟨hs1,rfl,⟨rfl,hn⟩|⟨rfl,hp⟩⟩
   ·exact WLI.fin<|fin 1 I (nxX<|thX (ifFX I<|skX (blX<|WQX.perm (List.perm_append_singleton hi' hs1) (againX (x:=(hi,ks,K,hs)) (hi',ks.add k hkm hnk,K12,hs1) ⟨I,I,I,trivial⟩ I I ⟨hS.1,hn⟩<|todoL_lt hnk hkm))))
   ·exact WLI.fin<|fin 1 I (nxX<|thX (ifTX I<|rtX (rBX<|rTX (rBX<|WQX.perm (List.perm_append_singleton hi' hs1) (WQX.drop<|ret0X I (.inr hp))))))
  ·exact fin 1 I (nxX (thX (sqX (ifFX I (exX (xtX (xtX (xbX (WQX.drop (end0X I (.inl ⟨ks,fun k hk=>by obtain ⟨x,hx,rfl⟩:=List.mem_map.1 hk;exact hall x hx,hst⟩)))))))))))
theorem appSeqC(kd:Bool){w0:World}{ν:Type}{K:PH}{hs:List PH}(f:Nat)(cap:List Value)(m:List (Int×ν))(Rd:PH->List PH->Prop)(it:ItG Tryz.prog w0 f cap (stepN (encK kd) m) (overN m) (KsOf.nil m) Rd)(hcal:callable Tryz.prog f=true)
  (hl:m.length<=1000000000) (hR:∀ x y fr,Rd K (x::y::(hs++fr))):
  Ct Tryz.prog w0 (sf kd 214 165) [.slice none 0 0,.func (.func f) #[] cap.toArray] K hs
   (fun v K' hs'=>K'=K/\∃ (s:KsOf m) (ao:Option Addr) (c:Nat) (g:PH),overN m s/\hs'=g::hs/\v=.slice ao s.1.length c/\Own g ao s.1.length c (sf kd 29 3) 1 (ivk kd s.1)):=by
 cases kd
 let kd:Bool:=false
 rewrite [show sf false=sf kd from rfl]
 try rewrite [show ivk false=ivk kd from rfl]
 try rewrite [show encK false=encK kd from rfl]
 refine enterX Tryz.func165 qk I I I ?_
 rotate_left
 let kd:Bool:=true
 rewrite [show sf true=sf kd from rfl]
 try rewrite [show ivk true=ivk kd from rfl]
 try rewrite [show encK true=encK kd from rfl]
 refine enterX Tryz.func214 qk I I I ?_
 rotate_left
 all_goals
  refine sqX<|rgX (bx 0 I fun b2=>fin 1 I<|nxX (thX<|sqX (sqX<|rgX (fin 1 I<|nxX (thX<|bkX (WX.em<|WX.perm (List.Perm.swap _ _ _) ?_))))))
  refine rgG cap (stepN (encK kd) m) (overN m) (KsOf.nil m) Rd I it hcal (fun s vs s' h=>by obtain ⟨k,_,_,rfl,_⟩:=h;rfl) rfl
   (fun s K' hs'=>K'=K/\∃ ao c g,hs'=pt b2 #[.slice ao s.1.length c] (sf kd 127 31)::g::hs/\Own g ao s.1.length c (sf kd 29 3) 1 (ivk kd s.1))
   (fun _ _ _=>False) ⟨rfl,none,0,em,rfl,Own.nil _ _⟩ (fun s K' hs' t u h=>by obtain ⟨rfl,ao,c,g,rfl,_⟩:=h;exact hR _ _ _) ?_ ?_ ?_
  ·rintro L s vs s' K' hs' fr t u ⟨k,hk,hnk,rfl,rfl⟩ ⟨rfl,ao,c,g,rfl,o⟩;have hlen:=(s.add k hk hnk).len;have hlen2:(s.add k hk hnk).1.length=s.1.length+1:=by simp[KsOf.add]
   refine rgX (fin 1 I (nxX (asgX (hs':=pt b2 #[.slice ao s.1.length c] (sf kd 127 31)::g::(hs++fr)) (by simp) fun u=>bkX (rgX (ldp 0 0 I I I (lit 1 #[(encK kd) k] I (by decide) qk fun b10=>app 0 2 I I o (.inr ⟨0,I⟩) (Own.ofPt I (by decide)).isS I (by decide) (by simp[encK,Value.oneCell']) (by show (s.1.length+1)*8<=_;omega) (by simp only[maxLen];omega) fun ao11 c11 g11 o11=>stp 0 1 rfl rfl rfl rfl (fin 0 rfl (nxX (blX (WQX.drop (rndX (hs':=pt b2 #[.slice ao11 (s.1.length+1) c11] (sf kd 127 31)::g11::(hs++fr)) rfl (⟨pt b2 #[.slice ao11 (s.1.length+1) c11] (sf kd 127 31)::g11::hs,rfl,rfl,ao11,c11,g11,by rw[hlen2],?_⟩))))))))))));rw[hlen2];have:ivk kd (s.add k hk hnk).1=ivk kd s.1++[(encK kd) k]:=by simp[KsOf.add,ivk,encK]
   rw[this];exact o11
  ·rintro D s K' hs' hov ⟨rfl,ao,c,g,rfl,o⟩;exact id (blX (thX (sqX (rgX (ldp 0 0 I I I (fin 1 I (nxX (thX (rtX (WQX.drop (ret1M D (hs':=g::hs) I I I ⟨I,s,ao,c,g,hov,I,I,o⟩)))))))))))
  ·rintro D c K hs hj;exact hj.elim
end
section
def insI(x:Int):List Int->List Int
 | []=>[x]
 | y::l=>if x<=y then x::y::l else y::insI x l
def srtI:List Int->List Int
 | []=>[]
 | x::l=>insI x (srtI l)
theorem insI_perm(x:Int):∀ l,(insI x l).Perm (x::l)
 | []=>List.Perm.refl _
 | y::l=>by
  unfold insI
  split
  ·exact List.Perm.refl _
  ·exact ((insI_perm x l).cons y).trans<|List.Perm.swap x y l
theorem srtI_perm:∀ l,(srtI l).Perm l
 | []=>List.Perm.refl _
 | x::l=>(insI_perm x _).trans ((srtI_perm l).cons x)
theorem insI_srt(x:Int):∀ {l},l.Pairwise (· <= ·)->(insI x l).Pairwise (· <= ·)
 | [],_=>by simp[insI]
 | y::l,h=>by
  unfold insI;have h1:=List.pairwise_cons.1 h
  split
  ·rename_i hxy;refine List.pairwise_cons.2 ⟨fun z hz=>?_,h⟩;rcases List.mem_cons.1 hz with rfl|hz
   ·exact hxy
   ·exact Int.le_trans hxy<|h1.1 z hz
  ·rename_i hxy;refine List.pairwise_cons.2 ⟨fun z hz=>?_,insI_srt x h1.2⟩;rcases List.mem_cons.1 ((insI_perm x l).mem_iff.1 hz) with rfl|hz
   ·omega
   ·exact h1.1 z hz
theorem srtI_srt:∀ l,(srtI l).Pairwise (· <= ·)
 | []=>List.Pairwise.nil
 | x::l=>insI_srt x (srtI_srt l)
theorem srtI_eq{l ys:List Int}(hp:ys.Perm l)(hs:ys.Pairwise (· <= ·)):ys=srtI l:=
 List.Perm.eq_of_pairwise (le:=(· <= ·)) (fun a b _ _ h1 h2=>Int.le_antisymm h1 h2) hs (srtI_srt l) (hp.trans (srtI_perm l).symm)
theorem Srt.pw{ys:List Nat}(h:Srt 0 ys.length ys):(ys.map fun x=>((x:Nat):Int)).Pairwise (· <= ·):=by
 rw[List.pairwise_map,List.pairwise_iff_getElem];intro i j hi hj hij;have:=h i j (Nat.zero_le _) hij hj;rw[List.getD_eq_getElem?_getD,List.getD_eq_getElem?_getD,List.getElem?_eq_getElem hi,List.getElem?_eq_getElem hj] at this;simp only[Option.getD_some] at this;omega
theorem ivk_nat(kd:Bool)(ks:List Int)(h:∀ k∈ks,0<=k):ivk kd ks=kvv kd (ks.map Int.toNat):=by
 unfold ivk kvv;rw[List.map_map];refine List.map_congr_left fun k hk=>?_;have:=h k hk;simp only[Function.comp_apply];rw[Int.toNat_of_nonneg this]
theorem kvv_ivk(kd:Bool)(ys:List Nat):kvv kd ys=ivk kd (ys.map fun x=>((x:Nat):Int)):=by
 unfold ivk kvv;rw[List.map_map]
 rfl
theorem nat_back(ks:List Int)(h:∀ k∈ks,0<=k):(ks.map Int.toNat).map (fun x=>((x:Nat):Int))=ks:=by
 rw[List.map_map]
 conv=>rhs;rw[<-List.map_id ks]
 refine List.map_congr_left fun k hk=>?_;have:=h k hk;simp only[Function.comp_apply,id];rw[Int.toNat_of_nonneg this]
theorem Own.kA{kd:Bool}{g:PH}{ao:Option Addr}{c e:Nat}{xs:List Nat}(o:Own g ao xs.length c e 1 (kvv kd xs))(hne:ao≠none):∃ b pre post,ao=some ⟨b,pre.length,none⟩/\g=pt b (kA kd pre xs post) e/\xs.length<=c:=by
 obtain ⟨h1,h2,h3,⟨h4,_⟩|⟨b,off,cur,h4,h5,h6,h7⟩⟩:=o
 ·exact absurd h4 hne
 ·have hl:cur.toList.length=cur.size:=Array.length_toList;have hoff:off<=cur.toList.length:=by rw[hl,h6];omega
  refine ⟨b,cur.toList.take off,cur.toList.drop (off+xs.length),?_,?_,h2⟩
  ·rw[h4,List.length_take,Nat.min_eq_left hoff]
  ·rw[h5]
   congr 1
   unfold En.kA;rw[Nat.mul_one] at h7;rw[<-h7,List.append_assoc,<-List.drop_drop,List.take_append_drop,List.take_append_drop]
def areasL(D:Dk):List Int:=srtI (D.areas.map (·.1))
attribute [local irreducible] Code.wp wpList Calls
theorem collectC(kd:Bool){w0:World}{ν:Type}{K:PH}{hs:List PH}(f:Nat)(cap:List Value)(m:List (Int×ν))(Rd:PH->List PH->Prop)(it:ItG Tryz.prog w0 f cap (stepN (encK kd) m) (overN m) (KsOf.nil m) Rd)(hcal:callable Tryz.prog f=true)
  (hl:m.length<=1000000000) (hR:∀ x y fr,Rd K (x::y::(hs++fr))):
  Ct Tryz.prog w0 (sf kd 162 97) [.func (.func f) #[] cap.toArray] K hs
   (fun v K' hs'=>K'=K/\∃ (s:KsOf m) (ao:Option Addr) (c:Nat) (g:PH),overN m s/\hs'=g::hs/\v=.slice ao s.1.length c/\Own g ao s.1.length c (sf kd 29 3) 1 (ivk kd s.1)):=by
 cases kd
 let kd:Bool:=false
 rewrite [show sf false=sf kd from rfl]
 try rewrite [show ivk false=ivk kd from rfl]
 try rewrite [show encK false=encK kd from rfl]
 refine enter Tryz.func97 qk I I I ?_
 rotate_left
 let kd:Bool:=true
 rewrite [show sf true=sf kd from rfl]
 try rewrite [show ivk true=ivk kd from rfl]
 try rewrite [show encK true=encK kd from rfl]
 refine enter Tryz.func162 qk I I I ?_
 rotate_left
 all_goals
  refine sq (rg (fin 1 I (th (sq (rg (cl 1 I (appSeqC kd f cap m Rd it hcal hl hR) ?_))))));rintro v4 K4 hs4 ⟨rfl,s,ao,c,g,h1,rfl,rfl,h4⟩;exact fin 1 I (th (rt (ret1 I I ⟨I,s,ao,c,g,h1,I,I,h4⟩)))
theorem sortC(kd:Bool){w0:World}{K:PH}{hs:List PH}(g cap:Nat)(pre post:List Value)(xs:List Nat)(hc:xs.length<=cap)(hl:xs.length<=1099511627776):
  Ct Tryz.prog w0 (sf kd 163 98) [.slice (some ⟨g,pre.length,none⟩) xs.length cap] K (pt g (kA kd pre xs post) (sf kd 29 3)::hs)
   (fun v K' hs'=>K'=K/\∃ ys,hs'=pt g (kA kd pre ys post) (sf kd 29 3)::hs/\SegP 0 xs.length xs ys/\Srt 0 xs.length ys):=by
 cases kd
 let kd:Bool:=false
 rewrite [show sf false=sf kd from rfl]
 try rewrite [show kA false=kA kd from rfl]
 refine enter Tryz.func98 qk I I I ?_
 rotate_left
 let kd:Bool:=true
 rewrite [show sf true=sf kd from rfl]
 try rewrite [show kA true=kA kd from rfl]
 refine enter Tryz.func163 qk I I I ?_
 rotate_left
 all_goals
  refine sq (rg (fin 3 I (th (rg (ar 3 I (u64w qo) (cl 0 I (lenC xs.length qo) ?_))))));rintro v9 K9 hs9 ⟨rfl,rfl,n,rfl,h1,-⟩;have hs1:=pdqC kd xs.length (w0:=w0) (K:=K9) (hs:=hs) g cap pre post xs 0 xs.length n (Nat.zero_le _) (Nat.le_refl _) hc hl h1 (LoB.zero _ _) qo;refine cl 0 I hs1 ?_;rintro v10 K10 hs10 ⟨rfl,ys,rfl,h2,h3⟩;exact fin 0 I (end0 I ⟨I,ys,I,h2,h3⟩)
theorem insNilC(kd:Bool){w0:World}{K:PH}{hs:List PH}:Ct Tryz.prog w0 (sf kd 254 216) [.slice none 0 0,.int .i64 0,.int .i64 0] K hs (fun v K' hs'=>K'=K/\hs'=hs):=by
 cases kd
 let kd:Bool:=false
 rewrite [show sf false=sf kd from rfl]
 refine enter Tryz.func216 qk I I I ?_
 rotate_left
 let kd:Bool:=true
 rewrite [show sf true=sf kd from rfl]
 refine enter Tryz.func254 qk I I I ?_
 rotate_left
 all_goals
  refine sq (rg (ar 1 I (i64w (x:=1) qo) (fin 1 I (th (bk (loop (σ:=Unit) (fun _=>[(2,.int .i64 0),(6,.int .i64 1)]) (fun _=>K) (fun _=>hs) (fun _=>True) (fun _=>0) () trivial ⟨I,I,trivial⟩ I I ?_))))));rintro - -;exact sq (sq (rg (cmpS 2 I fun b12 h12=>fin 0 I (th (ifPF h12 qo I (ex (xt (xt (xb (end0 I ⟨I,I⟩))))))))))
theorem pdqNilC(kd:Bool){w0:World}{K:PH}{hs:List PH}(n:Nat):Ct Tryz.prog w0 (sf kd 215 166) [.slice none 0 0,.int .i64 0,.int .i64 0,.int .i64 (n:Nat)] K hs (fun v K' hs'=>K'=K/\hs'=hs):=by
 cases kd
 let kd:Bool:=false
 rewrite [show sf false=sf kd from rfl]
 refine enter Tryz.func166 qk I I I ?_
 rotate_left
 let kd:Bool:=true
 rewrite [show sf true=sf kd from rfl]
 refine enter Tryz.func215 qk I I I ?_
 rotate_left
 all_goals
  refine sq (rg (fin 1 I (th (sq (rg (fin 1 I (th (bk (loop (σ:=Unit) (fun _=>[(0,.slice none 0 0),(1,.int .i64 0),(2,.int .i64 0)]) (fun _=>K) (fun _=>hs) (fun _=>True) (fun _=>0) () trivial ⟨I,I,I,trivial⟩ I I ?_)))))))));rintro - -;refine bk (sq (rg (ar 2 I (i64w (x:=0) qo) (fin 1 I (th (sq (sq (rg (cmpS 1 I fun b23 h23=>fin 0 I (th (ifPT h23 qo I (sq (rg (cl 3 I (insNilC kd) ?_))))))))))))));rintro v27 K27 hs27 ⟨rfl,rfl⟩;exact fin 0 I (th (rt (rT (rB (rT (rB (ret0 I ⟨I,I⟩)))))))
theorem sortNilC(kd:Bool){w0:World}{K:PH}{hs:List PH}:Ct Tryz.prog w0 (sf kd 163 98) [.slice none 0 0] K hs (fun v K' hs'=>K'=K/\hs'=hs):=by
 cases kd
 let kd:Bool:=false
 rewrite [show sf false=sf kd from rfl]
 refine enter Tryz.func98 qk I I I ?_
 rotate_left
 let kd:Bool:=true
 rewrite [show sf true=sf kd from rfl]
 refine enter Tryz.func163 qk I I I ?_
 rotate_left
 all_goals
  refine sq (rg (fin 3 I (th (rg (ar 3 I (u64w (x:=0) qo) (cl 0 I (lenC 0 qo) ?_))))));rintro v9 K9 hs9 ⟨rfl,rfl,n,rfl,h1,-⟩;refine cl 0 I (pdqNilC kd n) ?_;rintro v10 K10 hs10 ⟨rfl,rfl⟩;exact fin 0 I (end0 I ⟨I,I⟩)
theorem sortedC(kd:Bool){w0:World}{ν:Type}{K:PH}{hs:List PH}(f:Nat)(cap:List Value)(m:List (Int×ν))(hnd:(m.map (·.1)).Nodup)(h0:∀ k∈m.map (·.1),0<=k)(Rd:PH->List PH->Prop)(it:ItG Tryz.prog w0 f cap (stepN (encK kd) m) (overN m) (KsOf.nil m) Rd)(hcal:callable Tryz.prog f=true)
  (hl:m.length<=1000000000) (hR:∀ x y fr,Rd K (x::y::(hs++fr))):
  Ct Tryz.prog w0 (sf kd 95 49) [.func (.func f) #[] cap.toArray] K hs
   (fun v K' hs'=>Le K K'/\hs'=hs/\∃ ao c,v=.slice ao m.length c/\IsS K' ao m.length c 1 (ivk kd (srtI (m.map (·.1))))):=by
 cases kd
 let kd:Bool:=false
 rewrite [show sf false=sf kd from rfl]
 try rewrite [show ivk false=ivk kd from rfl]
 try rewrite [show encK false=encK kd from rfl]
 refine enter Tryz.func49 qk I I I ?_
 rotate_left
 let kd:Bool:=true
 rewrite [show sf true=sf kd from rfl]
 try rewrite [show ivk true=ivk kd from rfl]
 try rewrite [show encK true=encK kd from rfl]
 refine enter Tryz.func95 qk I I I ?_
 rotate_left
 all_goals
  refine sq (rg (fin 1 I (th (sq (rg (cl 1 I (collectC kd f cap m Rd it hcal hl hR) ?_))))));rintro v5 K5 hs5 ⟨rfl,s,ao,c,g,hov,rfl,rfl,o⟩;have hp:=s.perm hnd hov;have hsl:s.1.length=m.length:=by have:=hp.length_eq;simpa using this
  have hs0:∀ k∈s.1,0<=k:=fun k hk=>h0 k (hp.mem_iff.1 hk);obtain ⟨xs,hxs⟩:∃ xs,xs=s.1.map Int.toNat:=⟨_,rfl⟩;have hxl:xs.length=m.length:=by rw[hxs];simpa using hsl
  rw[hsl,ivk_nat kd s.1 hs0,<-hxs,<-hxl] at o;rw[hsl,<-hxl];refine fin 1 I (th (sq (rg ?_)));cases ao with
  | none=>
   have hcz:xs.length=0/\c=0:=by
    obtain ⟨_,h2,_,⟨_,h4,_⟩|⟨_,_,_,h4,_⟩⟩:=o
    ·omega
    ·cases h4
   obtain ⟨hz,rfl⟩:=hcz;rw[hz];refine cl 1 I (sortNilC kd) ?_;rintro v7 K7 hs7 ⟨rfl,rfl⟩;refine fin 0 I (th (sq (rg (fin 2 I (th (rt (WQ.drop (ret1 I I ⟨Le.refl _,I,none,0,I,?_⟩))))))));have hm0:m=[]:=List.length_eq_zero_iff.1 (hxl.symm.trans hz);subst hm0;exact IsS.nil _ _ _ _
  | some a=>
   obtain ⟨b,pre,post,ha,rfl,hc⟩:=o.kA (by simp);rw[ha];refine cl 1 I (sortC kd b c pre post xs hc qo) ?_;rintro v7 K7 hs7 ⟨rfl,ys,rfl,hQ,hS⟩;refine fin 0 I (th (sq (rg (fin 2 I (th (rt (WQ.frz fun K' le1 le2=>?_)))))));have hyl:=hQ.len
   have hsort:(ys.map fun x=>((x:Nat):Int))=srtI (m.map (·.1)):=by
    refine srtI_eq ?_ ?_
    ·have h1:=hQ.perm.map (fun x:Nat=>((x:Nat):Int));rw[hxs,nat_back s.1 hs0] at h1;exact h1.trans hp
    ·rw[<-hyl] at hS;exact hS.pw
   refine ret1 I I ⟨le1,I,_,c,I,?_⟩;rw[<-hsort,<-kvv_ivk kd,<-hyl];exact (kA_isS qo).le le2
theorem areasC{w0:World}{K:PH}{hs m:List PH}(b:Nat)(D:Dk)(c:Nat)(o:D.Ok c)(hl:D.areas.length<=1000000000)(h0:∀ k∈D.areas.map (·.1),0<=k)(hm:DskM K b D m):
  Ct Tryz.prog w0 48 [.pointer (some ⟨b,0,none⟩)] K (m++hs)
   (fun v K' hs'=>Le K K'/\hs'=m++hs/\∃ ao c,v=.slice ao (areasL D).length c/\IsS K' ao (areasL D).length c 1 (ivu (areasL D))):=by
 obtain ⟨bo,ho,ins,rfl,hO,hI⟩:=hm;have hk:(insO ins).map (·.1)=D.areas.map (·.1):=by rw[insO_keys,insKeys hI]
 have hlen:(insO ins).length=D.areas.length:=by have:=congrArg List.length hk;simpa using this
 refine enter Tryz.func48 qk I I I (sq (rg (fin 1 I (th (sq (rg (ldp 3 0 I I I (cl 0 I (keysC true bo) ?_))))))));rintro v7 K7 hs7 ⟨rfl,b1,rfl,rfl⟩
 refine cl 0 I (sortedC true (m:=insO ins) _ [.pointer (some ⟨b1,0,none⟩)] (by rw[hk];exact o.keys) (by rw[hk];exact h0) (KeyRd ho b1 bo) (keysI true encB ho b1 bo (insO ins) (by rw[hk];exact o.keys) hO) qk qo
  (fun x y fr=>⟨⟨_,.inr ⟨2,rfl⟩,Cell.pt rfl⟩,.inr ⟨4,rfl⟩⟩)) ?_
 rintro v8 K8 hs8 ⟨le,rfl,ao,cc,rfl,hx⟩;refine fin 1 I (th (rt (WQ.drop ?_)));have e:areasL D=srtI ((insO ins).map (·.1)):=by unfold areasL;rw[hk]
 have e2:(areasL D).length=(insO ins).length:=by rw[e,(srtI_perm _).length_eq,List.length_map]
 exact ret1 I I ⟨le,I,ao,cc,by rw[e2],by rw[e2,e];exact hx⟩
end
section
theorem Ct.bun{P:Program}{w0:World}{f:FuncId}{args:List Value}{K:PH}{m hs:List PH}{R R':Value->PH->List PH->Prop}(d:Djs m)(c:Ct P w0 f args K (m++hs) R)
  (h:∀ v K' hs',R v K' hs'->∃ m',hs'=m'++hs/\(Djs m'->R' v K' (uns m'::hs))):Ct P w0 f args K (uns m::hs) R':=
 ⟨c.1,fun w hw=>(c.2 w (hw.split d)).mono fun e w' he=>by
  obtain ⟨v,K',hs',rfl,hR,hS⟩:=he;obtain ⟨m',rfl,h2⟩:=h v K' hs' hR;obtain ⟨d',hS'⟩:=Sat.join m' hS;exact ⟨v,K',_,I,h2 d',hS'⟩⟩
theorem Ct.fix2{P:Program}{w0:World}{f:FuncId}{args:List Value}{K:PH}{hs:List PH}{R R':Value->PH->List PH->Prop}(c:Ct P w0 f args K hs R)
  (h:∀ w v K' hs',Sat w0 w K' hs'->R v K' hs'->∃ K2 hs2,R' v K2 hs2/\Sat w0 w K2 hs2):Ct P w0 f args K hs R':=
 ⟨c.1,fun w hw=>(c.2 w hw).mono fun e w' he=>by
  obtain ⟨v,K',hs',rfl,hR,hS⟩:=he;obtain ⟨K2,hs2,h1,h2⟩:=h w' v K' hs' hS hR;exact ⟨v,K2,hs2,I,h1,h2⟩⟩
def totA(m:List (Int×Ar)):Nat:=(m.map fun x=>x.2.length).sum
theorem totA_mset{a:Int}{l:Ar}:∀ (m:List (Int×Ar)),totA (mset a l m)+((mget a m).getD []).length=totA m+l.length
 | []=>by simp[mset,mget,totA]
 | (k,u)::m=>by
  by_cases e:a=k
  ·grind [mset,mget,totA]
  ·have:=totA_mset (a:=a) (l:=l) m
   grind [mset,mget,totA]
theorem totA_mdel{a:Int}:∀ (m:List (Int×Ar)),(m.map (·.1)).Nodup->totA (mdel a m)+((mget a m).getD []).length=totA m
 | [],_=>by rfl
 | (k,u)::m,h=>by
  simp only[List.map_cons,List.nodup_cons] at h
  by_cases e:a=k
  ·grind [mget,mdel,totA]
  ·have:=totA_mdel (a:=a) m h.2
   grind [mdel,mget,totA]
structure DOk (c:Nat) (D:Dk):Prop where
 ok:D.Ok c
 ar:∀ k∈D.areas.map (·.1),0<=k/\k<=18446744073709551615
 len:D.areas.length<=c
 cap:D.room+(totA D.areas:Int)<=1073741824
theorem DOk.up{c d:Nat}{D:Dk}(o:DOk c D)(h:c<=d):DOk d D:=⟨o.ok.up h,o.ar,by have:=o.len;omega,o.cap⟩
theorem DOk.write{c:Nat}{D:Dk}(o:DOk c D)(a n:Int)(b:List UInt8)(ha:0<=a/\a<=18446744073709551615):DOk (c+1) (D.write a n b).1:=by
 refine ⟨o.ok.write a n b,?_,?_,?_⟩
 ·unfold Dk.write
  split
  ·exact o.ar
  ·split
   ·exact o.ar
   ·split
    ·exact o.ar
    ·intro k hk;obtain ⟨x,hx,rfl⟩:=List.mem_map.1 hk;rcases mset_mem hx with rfl|hx
     ·exact ha
     ·exact o.ar _<|List.mem_map.2 ⟨x,hx,I⟩
 ·have:=o.len;unfold Dk.write
  split
  ·dsimp only;omega
  ·split
   ·dsimp only;omega
   ·split
    ·dsimp only;omega
    ·show (mset a _ D.areas).length<=c+1;rw[mset_length]
     split <;> omega
 ·have hc:=o.cap;unfold Dk.write
  split
  ·exact hc
  ·split
   ·exact hc
   ·split
    ·exact hc
    ·show (D.laid a n b).room+(totA (D.laid a n b).areas:Int)<=_;unfold Dk.laid;dsimp only;have h1:=totA_mset (a:=a) (l:=mset n (secW (D.sec a n) b) (D.ar a)) D.areas;have h2:((mget a D.areas).getD []).length=(D.ar a).length:=rfl;have h3:=mset_length n (secW (D.sec a n) b) (D.ar a);have h4:D.sec a n=mget n (D.ar a):=rfl
     grind
theorem synA_keys(D:Dk)(a:Int):(D.synA a).map (·.1)=D.areas.map (·.1):=by
 grind [mset_keys,Dk.synA]
theorem synA_tot(D:Dk)(a:Int):totA (D.synA a)=totA D.areas:=by
 unfold Dk.synA;cases hg:mget a D.areas with
 | none=>rfl
 | some l=>
  have:=totA_mset (a:=a) (l:=l.map fun x=>(x.1,secS x.2)) D.areas
  simp_all
theorem DOk.sync{c:Nat}{D:Dk}(o:DOk c D)(a:Int):DOk (c+1) (D.sync a).1:=by
 refine ⟨o.ok.sync a,?_,?_,?_⟩
 ·unfold Dk.sync
  split
  ·exact o.ar
  ·split
   ·exact o.ar
   ·show ∀ k∈(D.synA a).map (·.1),_;rw[synA_keys];exact o.ar
 ·have:=o.len;unfold Dk.sync
  split
  ·dsimp only;omega
  ·split
   ·show D.areas.length<=c+1;omega
   ·have h:=congrArg List.length (synA_keys D a)
    grind
 ·have hc:=o.cap;unfold Dk.sync
  split
  ·exact hc
  ·split
   ·exact hc
   ·show D.room+(totA (D.synA a):Int)<=_;rw[synA_tot];exact hc
theorem DOk.arLen{c:Nat}{D:Dk}(o:DOk c D)(a:Int):((D.ar a).length:Int)<=totA D.areas:=by
 have h:=totA_mdel (a:=a) D.areas o.ok.keys;have h2:((mget a D.areas).getD []).length=(D.ar a).length:=rfl;omega
theorem DOk.free{c:Nat}{D:Dk}(o:DOk c D)(a:Int):DOk (c+1) (D.free a).1:=by
 have hs:=mdel_sub (k:=a) D.areas;have hc:=o.cap;refine ⟨o.ok.free a (by have:=o.arLen a;omega),?_,?_,?_⟩
 ·unfold Dk.free
  split
  ·exact o.ar
  ·split
   ·exact o.ar
   ·intro k hk;obtain ⟨x,hx,rfl⟩:=List.mem_map.1 hk;exact o.ar _ (List.mem_map.2 ⟨x,hs.subset hx,I⟩)
 ·have:=o.len;unfold Dk.free
  split
  ·dsimp only;omega
  ·split
   ·show D.areas.length<=c+1;omega
   grind
 ·unfold Dk.free
  split
  ·exact hc
  ·split
   ·exact hc
   ·show D.room+((D.ar a).length:Int)+(totA (mdel a D.areas):Int)<=_;have h:=totA_mdel (a:=a) D.areas o.ok.keys;have h2:((mget a D.areas).getD []).length=(D.ar a).length:=rfl;omega
attribute [local irreducible] Code.wp wpList Calls
def DskH(K:PH)(b:Nat)(D:Dk)(h:PH):Prop:=∃ m,h=uns m/\Djs m/\DskM K b D m
theorem DskH.le{K K':PH}(l:Le K K'){b:Nat}{D:Dk}{h:PH}(x:DskH K b D h):DskH K' b D h:=let ⟨m,h1,h2,h3⟩:=x;⟨m,h1,h2,h3.le l⟩
theorem newH{w0:World}{K:PH}{hs:List PH}(r:Int)(hr:0<=r/\r<=1099511627776):Ct Tryz.prog w0 47 [.int .i64 r] K hs
  (fun v K' hs'=>K'=K/\∃ b h,hs'=h::hs/\DskH K b (dk0 r) h/\v=.pointer (some ⟨b,0,none⟩)):=by
 refine Ct.fix2 (newDC r hr) ?_;rintro w v K' hs' hS ⟨rfl,b,m,rfl,hm,rfl⟩;obtain ⟨d,hS'⟩:=Sat.join m hS;exact ⟨K',_,⟨I,b,uns m,I,⟨m,I,d,hm⟩,I⟩,hS'⟩
theorem deadH{w0:World}{K h:PH}{hs:List PH}(b:Nat)(D:Dk)(hm:DskH K b D h):Ct Tryz.prog w0 100 [.pointer (some ⟨b,0,none⟩)] K (h::hs)
  (fun v K' hs'=>K'=K/\hs'=h::hs/\v=.bool D.dead):=by
 obtain ⟨m,rfl,d,hm⟩:=hm;refine Ct.bun d (deadC b D hm) ?_
 simp
theorem readH{w0:World}{K h:PH}{hs:List PH}(b:Nat)(D:Dk)(c:Nat)(o:D.Ok c)(hc:c<=1099511627)(hm:DskH K b D h)(area n:Int):
  Ct Tryz.prog w0 109 [.pointer (some ⟨b,0,none⟩),.int .u64 area,.int .i64 n] K (h::hs)
   (fun v K' hs'=>∃ h',hs'=h'::hs/\h'=h/\Le K K'/\((D.read area n=none/\v=.tuple #[.slice none 0 0,.bool false]) \/
    ∃ bs ao cap,D.read area n=some bs/\bs.length=64/\v=.tuple #[.slice ao bs.length cap,.bool true]/\IsS K' ao bs.length cap 1 (bv bs))):=by
 obtain ⟨m,rfl,d,hm⟩:=hm;refine Ct.bun d (readDC b D c o hc hm area n) ?_
 simp_all
theorem writeH{w0:World}{K hv h:PH}{hs:List PH}(b:Nat)(D:Dk)(c:Nat)(o:D.Ok c)(hc:c<=1099511627)(hm:DskH K b D h)(area n:Int)(ha:0<=area/\area<=18446744073709551615)(ao:Option Addr)(cap:Nat)(bs:List UInt8)(hin:In K hs hv)(x:IsS hv ao bs.length cap 1 (bv bs)):
  Ct Tryz.prog w0 207 [.pointer (some ⟨b,0,none⟩),.int .u64 area,.int .i64 n,.slice ao bs.length cap] K (h::hs)
   (fun v K' hs'=>∃ h',hs'=h'::hs/\Le K K'/\DskH K' b (D.write area n bs).1 h'/\v=.int .i64 (D.write area n bs).2):=by
 obtain ⟨m,rfl,d,hm⟩:=hm;refine Ct.bun d (writeC b D c o hc hm area n ha ao cap bs hin x) ?_;rintro v K' hs' ⟨le,m',rfl,hm',rfl⟩;exact ⟨m',I,fun d'=>⟨_,I,le,⟨m',I,d',hm'⟩,I⟩⟩
theorem syncH{w0:World}{K h:PH}{hs:List PH}(b:Nat)(D:Dk)(c:Nat)(o:D.Ok c)(hc:c<=1099511627)(hm:DskH K b D h)(area:Int):
  Ct Tryz.prog w0 175 [.pointer (some ⟨b,0,none⟩),.int .u64 area] K (h::hs)
   (fun v K' hs'=>∃ h',hs'=h'::hs/\K'=K/\DskH K b (D.sync area).1 h'/\v=.int .i64 (D.sync area).2):=by
 obtain ⟨m,rfl,d,hm⟩:=hm;refine Ct.bun d (syncC b D c o hc hm area) ?_;rintro v K' hs' ⟨rfl,m',rfl,hm',rfl⟩;exact ⟨m',I,fun d'=>⟨_,I,I,⟨m',I,d',hm'⟩,I⟩⟩
theorem freeH{w0:World}{K h:PH}{hs:List PH}(b:Nat)(D:Dk)(c:Nat)(o:D.Ok c)(hc:c<=1099511627)(hm:DskH K b D h)(area:Int):
  Ct Tryz.prog w0 58 [.pointer (some ⟨b,0,none⟩),.int .u64 area] K (h::hs)
   (fun v K' hs'=>∃ h',hs'=h'::hs/\K'=K/\DskH K b (D.free area).1 h'/\v=.int .i64 (D.free area).2):=by
 obtain ⟨m,rfl,d,hm⟩:=hm;refine Ct.bun d (freeC b D c o hc hm area) ?_;rintro v K' hs' ⟨rfl,m',rfl,hm',rfl⟩;exact ⟨m',I,fun d'=>⟨_,I,I,⟨m',I,d',hm'⟩,I⟩⟩
theorem areasH{w0:World}{K h:PH}{hs:List PH}(b:Nat)(D:Dk)(c:Nat)(o:DOk c D)(hc:c<=1000000000)(hm:DskH K b D h):
  Ct Tryz.prog w0 48 [.pointer (some ⟨b,0,none⟩)] K (h::hs)
   (fun v K' hs'=>∃ h',hs'=h'::hs/\h'=h/\Le K K'/\∃ ao c,v=.slice ao (areasL D).length c/\IsS K' ao (areasL D).length c 1 (ivu (areasL D))):=by
 obtain ⟨m,rfl,d,hm⟩:=hm;refine Ct.bun d (areasC b D c o.ok (by have:=o.len;omega) (fun k hk=>(o.ar k hk).1) hm) ?_
 simp_all
end
section
def segA(num:Nat):Int:=((4*num+1:Nat):Int)
def usedB(s:List UInt8):Nat:=min (s.getD 0 0).toNat 63
def wtx(D:Dk)(num:Nat):Nat->Nat->List UInt8
 | 0,_=>[]
 | f+1,n=>match D.read (segA num) n with
  | none=>[]
  | some s=>(s.drop 1).take (usedB s)++(if usedB s<63 then [] else wtx D num f (n+1))
def wtext(D:Dk)(num:Nat):List UInt8:=wtx D num 65537 0
def wTop:Nat:=4611686018427387904
def wMany:Nat:=1152921504606846976
def wrecs:Nat->Rd->List (List UInt8)
 | 0,_=>[]
 | f+1,r=>if (rBytes 512 r).2.2=0 then (rBytes 512 r).1::wrecs f (rBytes 512 r).2 else []
structure WOp where
 num:Nat
 idx:Nat
 full:Nat
 rest:List UInt8
structure Wl where
 op:Option WOp
 first:Nat
 recs:List (List UInt8)
 old:List (Nat×Nat)
 next:Nat
 code:Int
def Wl.follows(W:Wl)(n idx:Nat):Wl×Bool:=
 if W.old.length=0\/idx<W.first then ({ W with first:=idx,recs:=[],old:=W.old++[(n,idx)] },true)
 else if W.recs.length<idx-W.first then (W,false)
 else ({ W with recs:=W.recs.take (idx-W.first),old:=W.old++[(n,idx)] },true)
def wread(D:Dk)(n:Nat)(W:Wl):Wl×Bool×Bool:=
 if (rUint wTop (wtext D n,0)).2.2≠0 then (W,true,true)
 else if (W.follows n (rUint wTop (wtext D n,0)).1).2=false then ((W.follows n (rUint wTop (wtext D n,0)).1).1,false,false)
 else ({ (W.follows n (rUint wTop (wtext D n,0)).1).1 with recs:=(W.follows n (rUint wTop (wtext D n,0)).1).1.recs++wrecs ((wtext D n).length+1) (rUint wTop (wtext D n,0)).2 },true,false)
def wnums(ars:List Int):List Nat:=(ars.filter fun a=>decide (a % 4=1)).map fun a=>a.toNat / 4
def wnext(ars:List Int):Nat:=(wnums ars).foldl (fun _ n=>n+1) 0
def wstep(D:Dk)(fr n:Nat)(W:Wl):Wl×Bool×Bool:=if n<fr then (W,true,true) else wread D n W
def wscan(D:Dk)(fr:Nat):List Nat->Wl->List Nat->Wl×List Nat×Bool
 | [],W,g=>(W,g,true)
 | n::r,W,g=>
  if (wstep D fr n W).2.1=false\/wTop<(wstep D fr n W).1.first+(wstep D fr n W).1.recs.length then ((wstep D fr n W).1,if (wstep D fr n W).2.2 then g++[n] else g,false)
  else wscan D fr r (wstep D fr n W).1 (if (wstep D fr n W).2.2 then g++[n] else g)
def wset1(D:Dk)(g:List Nat)(n:Nat):Dk×Int:=if n∈g then D.free (segA n) else D.sync (segA n)
def wsettle(g:List Nat):List Nat->Dk->Dk×Int
 | [],D=>(D,0)
 | n::r,D=>if (wset1 D g n).2=0 then wsettle g r (wset1 D g n).1 else wset1 D g n
def wl0(fr first:Nat)(ars:List Int):Wl:=⟨none,first,[],[],max (wnext ars) fr,0⟩
def wOpen(D:Dk)(fr first:Nat):Option Wl×Dk×Int:=
 if D.dead=true then (none,D,30)
 else if wTop<first then (none,D,52)
 else if wMany<(wl0 fr first (areasL D)).next then (none,D,52)
 else if (wscan D fr (wnums (areasL D)) (wl0 fr first (areasL D)) []).2.2=false then (none,D,52)
 else if (wsettle (wscan D fr (wnums (areasL D)) (wl0 fr first (areasL D)) []).2.1 (wnums (areasL D)) D).2≠0 then (none,wsettle (wscan D fr (wnums (areasL D)) (wl0 fr first (areasL D)) []).2.1 (wnums (areasL D)) D)
 else (some (wscan D fr (wnums (areasL D)) (wl0 fr first (areasL D)) []).1,(wsettle (wscan D fr (wnums (areasL D)) (wl0 fr first (areasL D)) []).2.1 (wnums (areasL D)) D).1,0)
def wrL:Nat->WOp->Dk->WOp×Dk×Int
 | 0,o,D=>(o,D,0)
 | f+1,o,D=>
  if (D.write (segA o.num) o.full (UInt8.ofNat (min o.rest.length 63)::o.rest.take (min o.rest.length 63))).2≠0\/o.rest.length<63 then
   (o,(D.write (segA o.num) o.full (UInt8.ofNat (min o.rest.length 63)::o.rest.take (min o.rest.length 63))).1,(D.write (segA o.num) o.full (UInt8.ofNat (min o.rest.length 63)::o.rest.take (min o.rest.length 63))).2)
  else if o.rest.length=63 then ({ o with full:=o.full+1,rest:=[] },(D.write (segA o.num) o.full (UInt8.ofNat (min o.rest.length 63)::o.rest.take (min o.rest.length 63))).1,0)
  else wrL f { o with full:=o.full+1,rest:=o.rest.drop 63 } (D.write (segA o.num) o.full (UInt8.ofNat (min o.rest.length 63)::o.rest.take (min o.rest.length 63))).1
def wrO(o:WOp)(b:List UInt8)(D:Dk):WOp×Dk×Int:=wrL (o.rest.length+b.length+1) { o with rest:=o.rest++b } D
def Wl.sync(W:Wl)(D:Dk):Wl×Dk:=
 if W.code≠0 then (W,D) else match W.op with
 | none=>(W,D)
 | some o=>({ W with code:=(D.sync (segA o.num)).2 },(D.sync (segA o.num)).1)
def Wl.begin(W:Wl)(i:Nat)(D:Dk):Wl×Dk:=
 if (W.sync D).1.code≠0 then W.sync D
 else ({ (W.sync D).1 with op:=some (wrO ⟨W.next,i,0,[]⟩ (uint i) (W.sync D).2).1,next:=W.next+1,old:=W.old++[(W.next,i)],code:=(wrO ⟨W.next,i,0,[]⟩ (uint i) (W.sync D).2).2.2 },(wrO ⟨W.next,i,0,[]⟩ (uint i) (W.sync D).2).2.1)
def wNeed:Option WOp->Bool
 | none=>true
 | some o=>decide (16<=o.full)
def wLay(W:Wl)(b:List UInt8)(D:Dk):Wl×Dk×Int:=match W.op with
 | none=>(W,D,W.code)
 | some o=>({ W with op:=some (wrO o (putBytes b) D).1,code:=(wrO o (putBytes b) D).2.2,recs:=if (wrO o (putBytes b) D).2.2=0 then W.recs++[b] else W.recs },(wrO o (putBytes b) D).2.1,(wrO o (putBytes b) D).2.2)
def Wl.append(W:Wl)(b:List UInt8)(D:Dk):Wl×Dk×Int:=
 if W.code≠0 then (W,D,W.code)
 else if 512<b.length then (W,D,50)
 else if W.first+W.recs.length=wTop then (W,D,51)
 else if wNeed W.op=true then
  (if (W.begin (W.first+W.recs.length) D).1.code≠0 then ((W.begin (W.first+W.recs.length) D).1,(W.begin (W.first+W.recs.length) D).2,(W.begin (W.first+W.recs.length) D).1.code)
   else wLay (W.begin (W.first+W.recs.length) D).1 b (W.begin (W.first+W.recs.length) D).2)
 else wLay W b D
def Wl.truncate(W:Wl)(i:Nat)(D:Dk):Wl×Dk×Int:=
 if W.code≠0 then (W,D,W.code)
 else if i<W.first\/W.recs.length<i-W.first then (W,D,51)
 else if i-W.first=W.recs.length then (W,D,0)
 else (if (W.begin i D).1.code=0 then { (W.begin i D).1 with recs:=W.recs.take (i-W.first) } else (W.begin i D).1,(W.begin i D).2,(W.begin i D).1.code)
def wfreed(old:List (Nat×Nat))(i:Nat):Bool:=(old.drop 1).any fun s=>decide (s.2<=i)
def wfree(i:Nat):Nat->List (Nat×Nat)->Dk->List (Nat×Nat)×Dk×Int
 | 0,old,D=>(old,D,0)
 | f+1,old,D=>if 1<old.length/\wfreed old i=true then
   (if (D.free (segA (old.headD (0,0)).1)).2≠0 then (old,(D.free (segA (old.headD (0,0)).1)).1,(D.free (segA (old.headD (0,0)).1)).2)
    else wfree i f (old.drop 1) (D.free (segA (old.headD (0,0)).1)).1)
  else (old,D,0)
def Wl.compact1(W:Wl)(i:Nat)(D:Dk):Wl×Dk:=if i=W.first+W.recs.length then W.begin i D else (W,D)
def Wl.compact2(W:Wl)(i:Nat)(D:Dk):Wl×Dk:=(W.compact1 i D).1.sync (W.compact1 i D).2
def Wl.compact(W:Wl)(i:Nat)(D:Dk):Wl×Dk×Int:=
 if W.code≠0 then (W,D,W.code)
 else if i<=W.first then (W,D,0)
 else if W.recs.length<i-W.first then (W,D,51)
 else if (W.compact2 i D).1.code≠0 then ((W.compact2 i D).1,(W.compact2 i D).2,(W.compact2 i D).1.code)
 else if (wfree i ((W.compact2 i D).1.old.length+1) (W.compact2 i D).1.old (W.compact2 i D).2).2.2≠0 then
  ({ (W.compact2 i D).1 with old:=(wfree i ((W.compact2 i D).1.old.length+1) (W.compact2 i D).1.old (W.compact2 i D).2).1,code:=(wfree i ((W.compact2 i D).1.old.length+1) (W.compact2 i D).1.old (W.compact2 i D).2).2.2 },(wfree i ((W.compact2 i D).1.old.length+1) (W.compact2 i D).1.old (W.compact2 i D).2).2.1,(wfree i ((W.compact2 i D).1.old.length+1) (W.compact2 i D).1.old (W.compact2 i D).2).2.2)
 else ({ (W.compact2 i D).1 with old:=(wfree i ((W.compact2 i D).1.old.length+1) (W.compact2 i D).1.old (W.compact2 i D).2).1,recs:=W.recs.drop (i-W.first),first:=i },(wfree i ((W.compact2 i D).1.old.length+1) (W.compact2 i D).1.old (W.compact2 i D).2).2.1,0)
def wreset:List Int->Dk->Dk×Int
 | [],D=>(D,0)
 | a::r,D=>if a % 4=1 then (if (D.free a).2=0 then wreset r (D.free a).1 else D.free a) else wreset r D
def Wl.reset(W:Wl)(first:Nat)(D:Dk):Wl×Dk×Int:=
 if W.code≠0 then (W,D,W.code)
 else if wTop<first then (W,D,51)
 else if (wreset (areasL D) D).2≠0 then ({ W with code:=(wreset (areasL D) D).2 },wreset (areasL D) D)
 else ({ W with op:=none,old:=[],recs:=[],first:=first },(wreset (areasL D) D).1,0)
end
section
def leB:Nat->Nat->List UInt8
 | 0,_=>[]
 | k+1,n=>UInt8.ofNat n::leB k (n / 256)
theorem leB_length:∀ (k n:Nat),(leB k n).length=k
 | 0,_=>rfl
 | k+1,n=>by simp[leB,leB_length k]
theorem leB_get:∀ (k n i:Nat),i<k->(leB k n)[i]?=some (UInt8.ofNat (n / 256 ^ i))
 | 0,_,_,h=>by omega
 | k+1,n,0,_=>by simp[leB]
 | k+1,n,i+1,h=>by
  rw[leB,List.getElem?_cons_succ,leB_get k (n / 256) i qo,Nat.div_div_eq_div_mul,Nat.pow_succ,Nat.mul_comm]
def sectH(n:Nat)(v:List UInt8):List UInt8:=leB 8 n++(UInt8.ofNat v.length::(v++List.replicate (51-v.length) 0))
def sect(n:Nat)(v:List UInt8):List UInt8:=sectH n v++leB 4 (crc (sectH n v)).toNat
theorem sectH_length{n:Nat}{v:List UInt8}(h:v.length<=48):(sectH n v).length=60:=by simp[sectH,leB_length];omega
theorem sect_length{n:Nat}{v:List UInt8}(h:v.length<=48):(sect n v).length=64:=by simp[sect,leB_length,sectH_length h]
def sltSay(b:List UInt8)(i:Nat):Nat×List UInt8:=
 if 48<(b.getD 8 0).toNat then (0,[])
 else if un4 (b.take 8) % 2=i/\b=sect (un4 (b.take 8)) ((b.drop 9).take (b.getD 8 0).toNat) then (un4 (b.take 8),(b.drop 9).take (b.getD 8 0).toNat) else (0,[])
def sltRd(D:Dk)(area i:Nat):Nat×List UInt8:=match D.read area i with
 | none=>(0,[])
 | some b=>sltSay b i
structure Slt where
 num:Nat
 val:List UInt8
def Slt.pick(s:Slt)(r:Nat×List UInt8):Slt:=if s.num<r.1 then ⟨r.1,r.2⟩ else s
def sltOpen(D:Dk)(area:Nat):Slt:=(Slt.pick ⟨0,[]⟩ (sltRd D area 0)).pick (sltRd D area 1)
def Slt.save(s:Slt)(area:Nat)(D:Dk)(v:List UInt8):Slt×Dk×Int:=
 if 48<v.length\/s.num=18446744073709551615 then (s,D,40)
 else if (D.write area (((s.num+1) % 2:Nat):Int) (sect (s.num+1) v)).2=0 then
  (if ((D.write area (((s.num+1) % 2:Nat):Int) (sect (s.num+1) v)).1.sync area).2=0 then ⟨s.num+1,v⟩ else s,((D.write area (((s.num+1) % 2:Nat):Int) (sect (s.num+1) v)).1.sync area).1,((D.write area (((s.num+1) % 2:Nat):Int) (sect (s.num+1) v)).1.sync area).2)
 else (s,(D.write area (((s.num+1) % 2:Nat):Int) (sect (s.num+1) v)).1,(D.write area (((s.num+1) % 2:Nat):Int) (sect (s.num+1) v)).2)
end
section
theorem bA_isS{g ty:Nat}{A B C:List UInt8}{off n cap:Nat}(ho:off=A.length)(hn:n=B.length)(hc:n<=cap):IsS (pt g (bv (A++B++C)).toArray ty) (some ⟨g,off,none⟩) n cap 1 (bv B):=by
 subst ho;subst hn;refine ⟨by simp[bv],hc,fun j u hu=>⟨_,I,?_⟩⟩
 have hj:j<B.length:=by
  grind [bv]
 simp_all [add_mk,Cell.pt,List.getElem?_append_right,List.getElem?_append_left,bv]
theorem bA_get{l:List UInt8}{i:Nat}(h:i<l.length):(bv l).toArray[i]?=some (.int .u8 (l[i].toNat:Nat)):=by rw[List.getElem?_toArray,bv_get h]
theorem bA_set(l:List UInt8)(i m:Nat):(bv l).toArray.setIfInBounds i (.int .u8 (m % 256:Nat))=(bv (l.set i (UInt8.ofNat m))).toArray:=by
 rw[List.setIfInBounds_toArray];unfold bv
 simp
theorem leB_step{k n i:Nat}{B:List UInt8}(hB:B.length=k)(hi:i<k):((leB k n).take i++B.drop i).set i (UInt8.ofNat (n / 2 ^ (8*i)))=(leB k n).take (i+1)++B.drop (i+1):=by
 have hl:((leB k n).take i).length=i:=by rw[List.length_take,leB_length];omega
 have hp:(2:Nat) ^ (8*i)=256 ^ i:=by rw[Nat.pow_mul]
 rw[List.set_append_right _ _ qo,hl,Nat.sub_self,List.drop_eq_getElem_cons qo,List.set_cons_zero,hp,List.take_add_one,leB_get k n i hi]
 simp
theorem cpyAt{X v Z W:List UInt8}{k:Nat}(hk:k=X.length)(hz:Z.length=v.length):(List.take k (bv (X++(Z++W)))++List.take (v.length*1) (bv v)++List.drop (k+v.length*1) (bv (X++(Z++W)))).toArray=(bv (X++(v++W))).toArray:=by
 simp_all [List.take_of_length_le,List.drop_append,bv]
attribute [local irreducible] Code.wp wpList Calls
theorem layC{w0:World}{K:PH}{hs:List PH}(g off k cap ty n:Nat)(A B C:List UInt8)(ho:off=A.length)(hB:B.length=k)(hk:k<=8)(hc:k<=cap):
  Ct Tryz.prog w0 227 [.slice (some ⟨g,off,none⟩) k cap,.int .u64 (n:Nat)] K (pt g (bv (A++B++C)).toArray ty::hs)
   (fun v K' hs'=>K'=K/\hs'=pt g (bv (A++leB k n++C)).toArray ty::hs):=by
 refine entA Tryz.func227 ?_
 refine loop (σ:=Nat) (fun i=>[(0,.slice (some ⟨g,off,none⟩) k cap),(1,.int .u64 (n:Nat)),(6,.int .i64 (k:Nat)),(7,.int .i64 (i:Nat))]) (fun _=>K) (fun i=>pt g (bv (A++((leB k n).take i++B.drop i)++C)).toArray ty::hs)
  (fun i=>i<=k) (fun i=>k-i) 0 (Nat.zero_le _) ⟨rfl,rfl,rfl,rfl,trivial⟩ rfl (by simp) ?_
 intro i hi;refine sq (rg (cmpS 0 I fun b8 h8=>au ?_));refine ifP h8 I (fun e2=>?_) (fun e2=>?_)
 ·have hik:i<k:=by omega
  obtain ⟨M,hM⟩:∃ M,M=(leB k n).take i++B.drop i:=⟨_,rfl⟩;have hMl:M.length=k:=by simp_all [leB_length]
  rw[<-hM];refine au ?_;refine ar 4 I (i64w (x:=((8*i:Nat):Int)) qo) (shf 0 I qo (.inr ⟨I,u64shr n _ (8*i) I qo⟩) (ar 0 I (u8m _) (ixs 0 i I I (bA_isS (g:=g) (ty:=ty) (C:=C) ho hMl.symm hc) hik (by decide) fun a17 ha=>?_)));cases ha;simp only[add_mk,Nat.mul_one];refine stp 0 0 I I (bA_get (l:=A++M++C) (i:=off+i) (by simp only[List.length_append];omega)) rfl (au ?_);refine ar 0 I (i64w (x:=((i+1:Nat):Int)) qo) (fin 1 I (again (x:=i) (i+1) ⟨I,I,I,I,trivial⟩ I ?_ hik qo));show pt g _ ty::hs=_;rw[bA_set,List.set_append_left _ _ (by rw[List.length_append];omega),List.set_append_right _ _ qo,show off+i-A.length=i from by omega,hM,leB_step hB hik]
 ·refine ex (xt (xt (xb ?_)));obtain rfl:i=k:=by omega
  refine end0 I ⟨I,?_⟩
  simp_all [List.take_of_length_le,leB_length,List.drop_of_length_le]
theorem sectorC{w0:World}{K hv:PH}{hs:List PH}(n:Nat)(v:List UInt8)(ao:Option Addr)(cap:Nat)(hl:v.length<=48)(hin:In K hs hv)(x:IsS hv ao v.length cap 1 (bv v)):
  Ct Tryz.prog w0 168 [.int .u64 (n:Nat),.slice ao v.length cap] K hs (fun u K' hs'=>K'=K/\hs'=hs/\u=.agg (bv (sect n v)).toArray):=by
 have hHl:=sectH_length (n:=n) hl;refine ent Tryz.func168 ?_;refine sq (rg (al 0 (.agg (bv (List.replicate 64 0)).toArray) I qk fun b4=>au ?_));refine al 0 (.agg (bv (List.replicate 64 0)).toArray) I qk fun b5=>au ?_;refine sla 0 (sz:=1) 0 8 I I Tryz.underlying245 qk I I (by decide) (by decide) ?_;simp only[add_mk,Nat.zero_mul,Nat.add_zero];refine cl 1 I (layC b5 0 8 64 245 n [] (List.replicate 8 0) (List.replicate 56 0) I (by simp) (by decide) (by decide)) ?_;rintro v8 K8 hs8 ⟨rfl,rfl⟩;refine au ?_;refine ar 2 I (u8m _) (ixa 0 (sz:=1) 8 I Tryz.underlying245 qk I (by decide) ?_);simp only[add_mk,Nat.zero_add,Nat.mul_one];refine stp 0 0 I I (bA_get (l:=[]++leB 8 n++List.replicate 56 0) (i:=8) (by simp)) I ?_
 refine WL.hs (pt b5 (bv (leB 8 n++(UInt8.ofNat v.length::List.replicate 55 0))).toArray 245::pt b4 (bv (List.replicate 64 0)).toArray 245::hs) (congrArg (fun z=>pt b5 z 245::pt b4 (bv (List.replicate 64 0)).toArray 245::hs) (by
  rfl)) ?_
 refine au ?_;refine sla 0 (sz:=1) 9 55 I I Tryz.underlying245 qk I I (by decide) (by decide) ?_;simp only[add_mk,Nat.zero_add,Nat.mul_one];refine cpy 1 0 v.length I I I (In.cons (In.cons hin)) x qo (fun u hu=>bv_one v u (List.mem_of_mem_take hu)) (by grind [bv,leB]) ?_
 refine WL.hs (pt b5 (bv (sectH n v++List.replicate 4 0)).toArray 245::pt b4 (bv (List.replicate 64 0)).toArray 245::hs) (congrArg (fun z=>pt b5 z 245::pt b4 (bv (List.replicate 64 0)).toArray 245::hs) (by
  have e2:List.replicate 55 (0:UInt8)=List.replicate v.length 0++(List.replicate (51-v.length) 0++List.replicate 4 0):=by
   grind [List.replicate_append_replicate]
  have e3:leB 8 n++(UInt8.ofNat v.length::List.replicate 55 0)=(leB 8 n++[UInt8.ofNat v.length])++(List.replicate v.length 0++(List.replicate (51-v.length) 0++List.replicate 4 0)):=by rw[<-e2];simp
  grind [cpyAt,sectH])) ?_
 refine au ?_;refine rga [] 5 [0,2,5,6,9] (by simp) qk qk (dsla qk 0 (sz:=1) 60 4 I I Tryz.underlying245 qk I I (by decide) (by decide) (dsla qk 0 (sz:=1) 0 60 I I Tryz.underlying245 qk I I (by decide) (by decide) ?_));simp only[add_mk,Nat.zero_add,Nat.mul_one,Nat.zero_mul,Nat.sub_zero,Nat.reduceSub,Nat.reduceAdd];refine au ?_
 have xH:IsS (pt b5 (bv (sectH n v++List.replicate 4 0)).toArray 245) (some ⟨b5,0,none⟩) (sectH n v).length 64 1 (bv (sectH n v)):=by
  have:=bA_isS (g:=b5) (ty:=245) (A:=[]) (B:=sectH n v) (C:=List.replicate 4 0) (off:=0) (n:=(sectH n v).length) (cap:=64) rfl rfl qo;simpa using this
 have hsum:=sumC (w0:=w0) (K:=K8) (hs:=pt b5 (bv (sectH n v++List.replicate 4 0)).toArray 245::pt b4 (bv (List.replicate 64 0)).toArray 245::hs) (some ⟨b5,0,none⟩) 64 (sectH n v) (.inr ⟨0,rfl⟩) xH qo;rw[hHl] at hsum;refine cl 0 I hsum ?_;rintro v18 K18 hs18 ⟨rfl,rfl,rfl⟩;refine dnx (by simp) I ?_;have hcl:=(crc (sectH n v)).isLt;refine dar qk 0 I (u64w qo) (au ?_);have hlay:=layC (w0:=w0) (K:=K18) (hs:=pt b4 (bv (List.replicate 64 0)).toArray 245::hs) b5 60 4 4 245 (crc (sectH n v)).toNat (sectH n v) (List.replicate 4 0) [] hHl.symm (by simp) (by decide) (by decide);rw[List.append_nil,List.append_nil] at hlay;refine cl 0 I hlay ?_;rintro v20 K20 hs20 ⟨rfl,rfl⟩;have hsl:(sect n v).length=64:=sect_length hl;have hss:(bv (sect n v)).toArray.size=64:=by simp[bv,hsl]
 refine dnx (by simp) I (dend qk 0 I (th (sq (rg (ldS 0 0 I I (by show aggOK Tryz.prog _ (bv (sect n v)).toArray.size=true;rw[hss];kernel_rfl) ?_)))));refine stS 0 1 I I (by show _=some (bv (sect n v)).toArray.size;rw[hss];kernel_rfl) (by simp_all [bv,sect]) (by simp only[Array.all_toList,List.all_eq_true];first|exact bv_one (sect n v)|(simp;intro u hu;exact bv_one (sect n v) u hu)) ?_;exact fin 0 I (th (rt (WQ.drop (retcA 0 1 I I I (by show aggOK Tryz.prog _ (bv (sect n v)).toArray.size=true;rw[hss];kernel_rfl) ⟨rfl,rfl,rfl⟩))))
end
section
attribute [local irreducible] Code.wp wpList Calls
abbrev fv(g:Nat):Value:=.func (.func g) #[] #[]
abbrev fc(g b:Nat):Value:=.func (.func g) #[] #[Ptr b]
abbrev numV(b:Nat):List Value:=[fc 229 b,fc 230 b,fc 231 b]
abbrev placeV(b:Nat):List Value:=[fc 238 b,fc 239 b,fc 240 b]
abbrev goodV:List Value:=[fv 232,fv 233,fv 234]
abbrev entsV:List Value:=[fv 235,fv 236,fv 237]
abbrev votV:List Value:=[fv 241,fv 242,fv 243]
abbrev dataV:List Value:=[fv 244,fv 245,fv 246]
def NumC(K:PH)(g:Nat)(cs:List Value):Prop:=∃ b,K b=some (capC 262 g)/\cs=numV b
def PlaceC(K:PH)(g:Nat)(cs:List Value):Prop:=∃ b,K b=some (capC 265 g)/\cs=placeV b
def FV(K:PH)(cs:List Value):Fld->Prop
 | .idx=>NumC K 181 cs
 | .lt=>NumC K 182 cs
 | .com=>NumC K 184 cs
 | .rnd=>NumC K 185 cs
 | .off=>PlaceC K 188 cs
 | .whole=>PlaceC K 189 cs
 | .good=>cs=goodV
 | .ents=>cs=entsV
 | .vot=>cs=votV
 | .data=>cs=dataV
theorem capLe{K':PH}{b ty g:Nat}(l:Le (pt b #[fv g] ty) K'):K' b=some (capC ty g):=l _ _ (by simp)
def FldsS(K:PH)(ao:Option Addr)(cap:Nat)(fs:List Fld):Prop:=∃ css:List (List Value),IsS K ao fs.length cap 3 css.flatten/\All2 (FV K) css fs
theorem FldsS.mk{K':PH}{b n:Nat}{css:List (List Value)}{fs:List Fld}(hn:fs.length=n)(h:All2 (FV K') css fs)(hc:css.flatten.length=n*3)(h':n<=10)(l:Le (pt b css.flatten.toArray 214) K'):FldsS K' (some ⟨b,0,none⟩) n fs:=by
 subst hn;refine ⟨css,?_,h⟩;have:=(Own.ofPt (b:=b) (c:=css.flatten.toArray) (e:=214) (n:=fs.length) (size:=3) (by simpa using hc) (by simp only[maxLen];omega)).isS.le l;simpa using this
theorem numFC{w0:World}{K:PH}{hs:List PH}(g:Nat):Ct Tryz.prog w0 180 [fv g] K hs
  (fun v K' hs'=>K'=K/\∃ b,hs'=pt b #[fv g] 262::hs/\v=.agg #[fc 229 b,fc 230 b,fc 231 b]):=by
 refine enter Tryz.func180 qk I I I (sq (rg (bx 0 I fun b1=>al 0 (.agg #[.nilFunc,.nilFunc,.nilFunc]) I qk fun b2=>fin 0 I (th (sq (rg (bd 3 (.agg #[fc 229 b1,fc 230 b1,fc 231 b1]) I (fun w=>by kernel_rfl) ?_)))))));refine stS 0 0 I I qk I I ?_;exact fin 0 I (th (rt (retcA 0 1 I I I qk ⟨I,b1,I,I⟩)))
theorem plcFC{w0:World}{K:PH}{hs:List PH}(g:Nat):Ct Tryz.prog w0 187 [fv g] K hs
  (fun v K' hs'=>K'=K/\∃ b,hs'=pt b #[fv g] 265::hs/\v=.agg #[fc 238 b,fc 239 b,fc 240 b]):=by
 refine enter Tryz.func187 qk I I I (sq (rg (bx 0 I fun b1=>al 0 (.agg #[.nilFunc,.nilFunc,.nilFunc]) I qk fun b2=>fin 0 I (th (sq (rg (bd 3 (.agg #[fc 238 b1,fc 239 b1,fc 240 b1]) I (fun w=>by kernel_rfl) ?_)))))));refine stS 0 0 I I qk I I ?_;exact fin 0 I (th (rt (retcA 0 1 I I I qk ⟨I,b1,I,I⟩)))
theorem goodFC{w0:World}{K:PH}{hs:List PH}:Ct Tryz.prog w0 183 [] K hs
  (fun v K' hs'=>K'=K/\hs'=hs/\v=.agg #[fv 232,fv 233,fv 234]):=by
 refine enter Tryz.func183 qk I I I (sq (rg (al 0 (.agg #[.nilFunc,.nilFunc,.nilFunc]) I qk fun b0=>fin 0 I (th (sq (rg (bd 0 (.agg #[fv 232,fv 233,fv 234]) I (fun w=>by kernel_rfl) ?_)))))));refine stS 0 0 I I qk I I ?_;exact fin 0 I (th (rt (retcA 0 1 I I I qk ⟨I,I,I⟩)))
theorem entriesFC{w0:World}{K:PH}{hs:List PH}:Ct Tryz.prog w0 186 [] K hs
  (fun v K' hs'=>K'=K/\hs'=hs/\v=.agg #[fv 235,fv 236,fv 237]):=by
 refine enter Tryz.func186 qk I I I (sq (rg (al 0 (.agg #[.nilFunc,.nilFunc,.nilFunc]) I qk fun b0=>fin 0 I (th (sq (rg (bd 0 (.agg #[fv 235,fv 236,fv 237]) I (fun w=>by kernel_rfl) ?_)))))));refine stS 0 0 I I qk I I ?_;exact fin 0 I (th (rt (retcA 0 1 I I I qk ⟨I,I,I⟩)))
theorem votersFC{w0:World}{K:PH}{hs:List PH}:Ct Tryz.prog w0 190 [] K hs
  (fun v K' hs'=>K'=K/\hs'=hs/\v=.agg #[fv 241,fv 242,fv 243]):=by
 refine enter Tryz.func190 qk I I I (sq (rg (al 0 (.agg #[.nilFunc,.nilFunc,.nilFunc]) I qk fun b0=>fin 0 I (th (sq (rg (bd 0 (.agg #[fv 241,fv 242,fv 243]) I (fun w=>by kernel_rfl) ?_)))))));refine stS 0 0 I I qk I I ?_;exact fin 0 I (th (rt (retcA 0 1 I I I qk ⟨I,I,I⟩)))
theorem dataFC{w0:World}{K:PH}{hs:List PH}:Ct Tryz.prog w0 191 [] K hs
  (fun v K' hs'=>K'=K/\hs'=hs/\v=.agg #[fv 244,fv 245,fv 246]):=by
 refine enter Tryz.func191 qk I I I (sq (rg (al 0 (.agg #[.nilFunc,.nilFunc,.nilFunc]) I qk fun b0=>fin 0 I (th (sq (rg (bd 0 (.agg #[fv 244,fv 245,fv 246]) I (fun w=>by kernel_rfl) ?_)))))));refine stS 0 0 I I qk I I ?_;exact fin 0 I (th (rt (retcA 0 1 I I I qk ⟨I,I,I⟩)))
theorem bare_iff(m:Msg)(p:MA):((((((((((m.idx:Nat):Int)=0/\((m.lt:Nat):Int)=0)/\((m.com:Nat):Int)=0)/\((m.rnd:Nat):Int)=0)/\¬m.good=true)/\m.off=0)/\m.whole=0)/\((m.ents.length:Nat):Int)=0)/\((m.vot.length:Nat):Int)=0)/\((m.data.length:Nat):Int)=0↔bareP m:=by
 simp[and_assoc,bareP]
theorem fieldsC{w0:World}{K:PH}{hs:List PH}(k:Int):Ct Tryz.prog w0 130 [.int .i64 k] K hs
  (fun v K' hs'=>Le K K'/\hs'=hs/\∃ ao cap,v=.slice ao (fieldsOf k).length cap/\FldsS K' ao cap (fieldsOf k)):=by
 refine enter Tryz.func130 qk I I I<|sq (rg<|fin 1 I (th<|sq (sq<|rg (fin 1 I<|th (bk<|sq (rg (cmpS 0 I fun b5 h5=>fin 1 I<|th (ifP h5 I (fun e2=>?_) (fun e2=>?_)))))))))
 ·refine sq (rg (cl 0 I (numFC 181) ?_));rintro v6 K6 hs6 ⟨rfl,c6,rfl,rfl⟩;refine cl 0 I (numFC 182) ?_;rintro v7 K7 hs7 ⟨rfl,c7,rfl,rfl⟩;refine lit 0 #[fc 229 c6,fc 230 c6,fc 231 c6,fc 229 c7,fc 230 c7,fc 231 c7] I (by decide) qk fun b8=>fin 1 I (th (rt (rB (rT (WQ.frz fun KL leKL leHL=>(WQ.frz fun K7 leK7 leH7=>(WQ.frz fun K6 leK6 leH6=>?_)))))));exact ret1 I I ⟨((leKL.trans leK7).trans leK6),I,some ⟨b8,0,none⟩,2,by rw[fieldsOf,if_pos e2];rfl,by rw[fieldsOf,if_pos e2];exact FldsS.mk (css:=[numV c6,numV c7]) I ⟨⟨c6,capLe leH6,I⟩,⟨c7,capLe (leH7.trans leK6),I⟩,trivial⟩ I (by decide) ((leHL.trans leK7).trans leK6)⟩
 ·refine sq<|rg (cmpS 0 I fun b10 h10=>fin 1 I<|th (ifP h10 I (fun e4=>?_) (fun e4=>?_)))
  ·refine sq (rg (cl 0 I goodFC ?_));rintro v11 K11 hs11 ⟨rfl,rfl,rfl⟩;refine lit 0 #[fv 232,fv 233,fv 234] I (by decide) qk fun b12=>fin 1 I (th (rt (rB (rT (WQ.frz fun KL leKL leHL=>?_)))));exact ret1 I I ⟨leKL,I,some ⟨b12,0,none⟩,1,by rw[fieldsOf,if_neg e2,if_pos e4];rfl,by rw[fieldsOf,if_neg e2,if_pos e4];exact FldsS.mk (css:=[goodV]) I ⟨I,trivial⟩ I (by decide) leHL⟩
  ·refine sq<|rg (cmpS 0 I fun b14 h14=>fin 1 I<|th (ifP h14 I (fun e6=>?_) (fun e6=>?_)))
   ·refine sq (rg (cl 0 I (numFC 181) ?_));rintro v15 K15 hs15 ⟨rfl,c15,rfl,rfl⟩;refine cl 0 I (numFC 182) ?_;rintro v16 K16 hs16 ⟨rfl,c16,rfl,rfl⟩;refine cl 0 I (numFC 184) ?_;rintro v17 K17 hs17 ⟨rfl,c17,rfl,rfl⟩;refine cl 0 I (numFC 185) ?_;rintro v18 K18 hs18 ⟨rfl,c18,rfl,rfl⟩;refine cl 0 I entriesFC ?_;rintro v19 K19 hs19 ⟨rfl,rfl,rfl⟩;refine lit 0 #[fc 229 c15,fc 230 c15,fc 231 c15,fc 229 c16,fc 230 c16,fc 231 c16,fc 229 c17,fc 230 c17,fc 231 c17,fc 229 c18,fc 230 c18,fc 231 c18,fv 235,fv 236,fv 237] I (by decide) qk fun b20=>fin 1 I (th (rt (rB (rT (WQ.frz fun KL leKL leHL=>(WQ.frz fun K18 leK18 leH18=>(WQ.frz fun K17 leK17 leH17=>(WQ.frz fun K16 leK16 leH16=>(WQ.frz fun K15 leK15 leH15=>?_)))))))));exact ret1 I I ⟨((((leKL.trans leK18).trans leK17).trans leK16).trans leK15),I,some ⟨b20,0,none⟩,5,by rw[fieldsOf,if_neg e2,if_neg e4,if_pos e6];rfl,by rw[fieldsOf,if_neg e2,if_neg e4,if_pos e6];exact FldsS.mk (css:=[numV c15,numV c16,numV c17,numV c18,entsV]) I ⟨⟨c15,capLe leH15,I⟩,⟨c16,capLe (leH16.trans leK15),I⟩,⟨c17,capLe ((leH17.trans leK16).trans leK15),I⟩,⟨c18,capLe (((leH18.trans leK17).trans leK16).trans leK15),I⟩,I,trivial⟩ I (by decide) ((((leHL.trans leK18).trans leK17).trans leK16).trans leK15)⟩
   ·refine sq<|rg (cmpS 0 I fun b22 h22=>fin 1 I<|th (ifP h22 I (fun e8=>?_) (fun e8=>?_)))
    ·refine sq (rg (cl 0 I goodFC ?_));rintro v23 K23 hs23 ⟨rfl,rfl,rfl⟩;refine cl 0 I (numFC 181) ?_;rintro v24 K24 hs24 ⟨rfl,c24,rfl,rfl⟩;refine cl 0 I (numFC 185) ?_;rintro v25 K25 hs25 ⟨rfl,c25,rfl,rfl⟩;refine lit 0 #[fv 232,fv 233,fv 234,fc 229 c24,fc 230 c24,fc 231 c24,fc 229 c25,fc 230 c25,fc 231 c25] I (by decide) qk fun b26=>fin 1 I (th (rt (rB (rT (WQ.frz fun KL leKL leHL=>(WQ.frz fun K25 leK25 leH25=>(WQ.frz fun K24 leK24 leH24=>?_)))))));exact ret1 I I ⟨((leKL.trans leK25).trans leK24),I,some ⟨b26,0,none⟩,3,by rw[fieldsOf,if_neg e2,if_neg e4,if_neg e6,if_pos e8];rfl,by rw[fieldsOf,if_neg e2,if_neg e4,if_neg e6,if_pos e8];exact FldsS.mk (css:=[goodV,numV c24,numV c25]) I ⟨I,⟨c24,capLe leH24,I⟩,⟨c25,capLe (leH25.trans leK24),I⟩,trivial⟩ I (by decide) ((leHL.trans leK25).trans leK24)⟩
    ·refine sq<|rg (cmpS 0 I fun b28 h28=>fin 1 I<|th (ifP h28 I (fun e10=>?_) (fun e10=>?_)))
     ·refine sq (rg (cl 0 I (numFC 181) ?_));rintro v29 K29 hs29 ⟨rfl,c29,rfl,rfl⟩;refine cl 0 I (numFC 182) ?_;rintro v30 K30 hs30 ⟨rfl,c30,rfl,rfl⟩;refine cl 0 I (plcFC 188) ?_;rintro v31 K31 hs31 ⟨rfl,c31,rfl,rfl⟩;refine cl 0 I (plcFC 189) ?_;rintro v32 K32 hs32 ⟨rfl,c32,rfl,rfl⟩;refine cl 0 I votersFC ?_;rintro v33 K33 hs33 ⟨rfl,rfl,rfl⟩;refine cl 0 I dataFC ?_;rintro v34 K34 hs34 ⟨rfl,rfl,rfl⟩;refine lit 0 #[fc 229 c29,fc 230 c29,fc 231 c29,fc 229 c30,fc 230 c30,fc 231 c30,fc 238 c31,fc 239 c31,fc 240 c31,fc 238 c32,fc 239 c32,fc 240 c32,fv 241,fv 242,fv 243,fv 244,fv 245,fv 246] I (by decide) qk fun b35=>fin 1 I (th (rt (rB (rT (WQ.frz fun KL leKL leHL=>(WQ.frz fun K32 leK32 leH32=>(WQ.frz fun K31 leK31 leH31=>(WQ.frz fun K30 leK30 leH30=>(WQ.frz fun K29 leK29 leH29=>?_)))))))));exact ret1 I I ⟨((((leKL.trans leK32).trans leK31).trans leK30).trans leK29),I,some ⟨b35,0,none⟩,6,by rw[fieldsOf,if_neg e2,if_neg e4,if_neg e6,if_neg e8,if_pos e10];rfl,by rw[fieldsOf,if_neg e2,if_neg e4,if_neg e6,if_neg e8,if_pos e10];exact FldsS.mk (css:=[numV c29,numV c30,placeV c31,placeV c32,votV,dataV]) I ⟨⟨c29,capLe leH29,I⟩,⟨c30,capLe (leH30.trans leK29),I⟩,⟨c31,capLe ((leH31.trans leK30).trans leK29),I⟩,⟨c32,capLe (((leH32.trans leK31).trans leK30).trans leK29),I⟩,I,I,trivial⟩ I (by decide) ((((leHL.trans leK32).trans leK31).trans leK30).trans leK29)⟩
     ·refine sq<|rg (cmpS 0 I fun b37 h37=>fin 1 I<|th (ifP h37 I (fun e12=>?_) (fun e12=>?_)))
      ·refine sq (rg (cl 0 I (numFC 181) ?_));rintro v38 K38 hs38 ⟨rfl,c38,rfl,rfl⟩;refine cl 0 I (plcFC 188) ?_;rintro v39 K39 hs39 ⟨rfl,c39,rfl,rfl⟩;refine lit 0 #[fc 229 c38,fc 230 c38,fc 231 c38,fc 238 c39,fc 239 c39,fc 240 c39] I (by decide) qk fun b40=>fin 1 I (th (rt (rB (rT (WQ.frz fun KL leKL leHL=>(WQ.frz fun K39 leK39 leH39=>(WQ.frz fun K38 leK38 leH38=>?_)))))));exact ret1 I I ⟨((leKL.trans leK39).trans leK38),I,some ⟨b40,0,none⟩,2,by rw[fieldsOf,if_neg e2,if_neg e4,if_neg e6,if_neg e8,if_neg e10,if_pos e12];rfl,by rw[fieldsOf,if_neg e2,if_neg e4,if_neg e6,if_neg e8,if_neg e10,if_pos e12];exact FldsS.mk (css:=[numV c38,placeV c39]) I ⟨⟨c38,capLe leH38,I⟩,⟨c39,capLe (leH39.trans leK38),I⟩,trivial⟩ I (by decide) ((leHL.trans leK39).trans leK38)⟩
      ·refine sk (bl (th (sq (rg (fin 1 I (th (rt ?_)))))));exact ret1 I I ⟨Le.refl _,I,none,0,by rw[fieldsOf,if_neg e2,if_neg e4,if_neg e6,if_neg e8,if_neg e10,if_neg e12];rfl,[],by rw[fieldsOf,if_neg e2,if_neg e4,if_neg e6,if_neg e8,if_neg e10,if_neg e12];exact IsS.nil _ _ _ _,by rw[fieldsOf,if_neg e2,if_neg e4,if_neg e6,if_neg e8,if_neg e10,if_neg e12];trivial⟩
theorem placedC{w0:World}{K:PH}{hs:List PH}(n:Int):Ct Tryz.prog w0 131 [.int .i64 n] K hs (fun v K' hs'=>K'=K/\hs'=hs/\∃ t:Bool,v=.bool t/\(t=true↔placedP n)):=by
 refine enter Tryz.func131 qk I I I<|sq (rg<|fin 1 I (th<|sq (rg (cmpS 1 I fun b4 h4=>?_))))
 refine' bja 1 3 8 [4,5] h4 I I I I I I I (fun _=>?x2) (fun b8 h8=>?_)
 case x2=>
  exact cmpS 1 I fun b7 h7=>fin 1 I<|bjx h7 I I I
 exact fin 1 I<|th (rt<|ret1 I I ⟨I,I,b8,I,h8⟩)
theorem bareC{w0:World}{K:PH}{hs:List PH}(m:Msg)(p:MA):Ct Tryz.prog w0 133 [.agg (mv m p)] K hs (fun v K' hs'=>K'=K/\hs'=hs/\∃ t:Bool,v=.bool t/\(t=true↔bareP m)):=by
 refine enter Tryz.func133 qk I I I<|sq (rg (bx 0 I fun b1=>fin 1 I<|th (sq<|rg (ldp 1 0 I I I (cmpS 0 I fun b5 h5=>?_)))))
 refine' bja 1 4 10 [5,6] h5 I I I I I I I (fun _=>?x2) (fun b10 h10=>?_)
 case x2=>
  exact ldp 1 0 I I I (cmpS 0 I fun b9 h9=>fin 1 I<|bjx h9 I I I)
 refine' bja 1 4 15 [10,11] h10 I I I I I I I (fun _=>?x4) (fun b15 h15=>?_)
 case x4=>
  exact ldp 1 0 I I I (cmpS 0 I fun b14 h14=>fin 1 I<|bjx h14 I I I)
 refine' bja 1 4 20 [15,16] h15 I I I I I I I (fun _=>?x6) (fun b20 h20=>?_)
 case x6=>
  exact ldp 1 0 I I I (cmpS 0 I fun b19 h19=>fin 1 I<|bjx h19 I I I)
 refine' bja 1 4 25 [20,21] h20 I I I I I I I (fun _=>?x8) (fun b25 h25=>?_)
 case x8=>
  exact ldp 1 0 I I I (nmS fun b23 h23=>cbS 0 _ I (bnot h23) fun b24 h24=>fin 1 I<|bjx h24 I I I)
 refine' bja 1 4 30 [25,26] h25 I I I I I I I (fun _=>?x9) (fun b30 h30=>?_)
 case x9=>
  exact ldp 1 0 I I I (cmpS 0 I fun b29 h29=>fin 1 I<|bjx h29 I I I)
 refine' bja 1 4 35 [30,31] h30 I I I I I I I (fun _=>?x11) (fun b35 h35=>?_)
 case x11=>
  exact ldp 1 0 I I I (cmpS 0 I fun b34 h34=>fin 1 I<|bjx h34 I I I)
 refine' bja 1 5 41 [35,36] h35 I I I I I I I (fun _=>?x13) (fun b41 h41=>?_)
 case x13=>
  exact ldp 1 0 I I I (cmpS 1 I fun b40 h40=>fin 1 I<|bjx h40 I I I)
 refine' bja 1 5 47 [41,42] h41 I I I I I I I (fun _=>?x15) (fun b47 h47=>?_)
 case x15=>
  exact ldp 1 0 I I I (cmpS 1 I fun b46 h46=>fin 1 I<|bjx h46 I I I)
 refine' bja 1 5 53 [47,48] h47 I I I I I I I (fun _=>?x17) (fun b53 h53=>?_)
 case x17=>
  exact ldp 1 0 I I I (cmpS 1 I fun b52 h52=>fin 1 I<|bjx h52 I I I)
 exact fin 1 I<|th (rt<|WQ.drop (ret1 I I ⟨I,I,b53,I,h53.trans (bare_iff m p)⟩))
theorem equalC{w0:World}{K h1 h2:PH}{hs:List PH}(a1 a2:Option Addr)(c1 c2:Nat)(l1 l2:List UInt8)(m1:In K hs h1)(m2:In K hs h2)(x1:IsS h1 a1 l1.length c1 1 (bv l1))(x2:IsS h2 a2 l2.length c2 1 (bv l2))(hl:l1.length<1099511627776):
  Ct Tryz.prog w0 169 [.slice a1 l1.length c1,.slice a2 l2.length c2] K hs (fun v K' hs'=>K'=K/\hs'=hs/\∃ b:Bool,v=.bool b/\(b=true↔l1=l2)):=by
 refine entA Tryz.func169 ?_;refine cmp 4 I (fun e2=>?_) (fun e2=>?_)
 ·refine au ?_;exact ret1 I I ⟨I,I,false,I,by simp;intro h;subst h;exact e2 I⟩
 ·refine au ?_;have hll:l1.length=l2.length:=by omega
  refine au ?_;refine loop (σ:=Nat) (fun i=>[(0,.slice a1 l1.length c1),(1,.slice a2 l2.length c2),(12,.int .i64 (l1.length:Nat)),(13,.int .i64 (i:Nat))]) (fun _=>K) (fun _=>hs) (fun i=>i<=l1.length/\l1.take i=l2.take i) (fun i=>l1.length-i) 0 ⟨Nat.zero_le _,I⟩ ⟨I,I,I,I,trivial⟩ I I ?_;rintro i ⟨hi,he⟩;refine sq (rg (cmp 0 I (fun e4=>?_) (fun e4=>?_)))
  ·refine au ?_;have hi1:i<l1.length:=by omega
   refine au ?_;have hi2:i<l2.length:=by omega
   obtain ⟨a1,rfl⟩:=x1.addr hi1 (by decide);obtain ⟨a2,rfl⟩:=x2.addr hi2 (by decide);obtain ⟨a1',ha1,hc1⟩:=x1.2.2 i _ (bv_get hi1);obtain ⟨a2',ha2,hc2⟩:=x2.2.2 i _ (bv_get hi2);cases ha1;cases ha2;refine au ?_;refine rga hs 9 [0,2,4,6,8,10,12,14,16] (by simp) qk qk (dixs qk 2 i I I hi1 (dld qk 0 I m1 (by simpa using hc1) (dixs qk 2 i I I hi2 (dld qk 0 I m2 (by simpa using hc2) (dcbS qk 0 (((l1[i].toNat:Nat):Int)≠(l2[i].toNat:Nat)) I (by simp) fun b24 h24=>au ?_)))));refine ifP h24 I (fun e5=>?_) (fun e5=>?_)
   ·refine au ?_;exact ret1 I I ⟨I,I,false,I,by simp;intro h;subst h;exact e5 I⟩
   ·refine sk (bl (th (rg (ar 0 I (i64w qo) (fin 1 I ?_)))));exact again (x:=i) (i+1) ⟨I,I,I,I,trivial⟩ I I ⟨by omega,by rw[take_succ_get l1 i hi1,take_succ_get l2 i hi2,he,UInt8.toNat_inj.1 (Int.ofNat_inj.1 (Decidable.not_not.1 e5))]⟩ qo
  ·refine au ?_;obtain rfl:i=l1.length:=by omega
   refine au ?_;exact ret1 I I ⟨I,I,true,I,by grind⟩
theorem pby_len{m:Msg}{f:Fld}(h:f.pok m)(hbd:m.bd):(f.pby m).length<=2200:=by
 have hmx:mxU=18446744073709551615:=rfl;have e1:=uint_le10 (n:=m.idx) (by have:=hbd.idx;omega);have e2:=uint_le10 (n:=m.lt) (by have:=hbd.lt;omega);have e3:=uint_le10 (n:=m.com) (by have:=hbd.com;omega);have e4:=uint_le10 (n:=m.rnd) (by have:=hbd.rnd;omega);have e5:=uint_le10 (u64of_lt m.off);have e6:=uint_le10 (u64of_lt m.whole);cases f
 case idx=>simp only[Fld.pby];omega
 case lt=>simp only[Fld.pby];omega
 case com=>simp only[Fld.pby];omega
 case rnd=>simp only[Fld.pby];omega
 case off=>simp only[Fld.pby];omega
 case whole=>simp only[Fld.pby];omega
 case good=>simp[Fld.pby]
 case ents=>
  obtain ⟨h1,h2⟩:=h;have h3:=entsBytes_len m.idx m.ents 0 h1 (fun e he=>⟨(hbd.ents e he).1,(hbd.ents e he).2.1⟩)
  grind [uint_le10,Fld.pby]
 case vot=>grind [ob_conf_len,Fld.pby]
 case data=>
  have h1:=h.1
  grind [uint_le10,Fld.pby,putBytes]
theorem pbyAll_len{m:Msg}(hbd:m.bd):∀ {fs:List Fld},(∀ f∈fs,f.pok m)->(pbyAll m fs).length<=2200*fs.length
 | [],_=>by simp[pbyAll]
 | f::fs,h=>by
  have h1:=pby_len (h f (by simp)) hbd;have h2:=pbyAll_len hbd (fs:=fs) (fun x hx=>h x (by simp[hx]));simp only[pbyAll,List.length_append,List.length_cons];omega
theorem pbyAll_append(m:Msg):∀ l r:List Fld,pbyAll m (l++r)=pbyAll m l++pbyAll m r
 | [],r=>rfl
 | f::l,r=>by simp[pbyAll_append,pbyAll]
theorem clrAll_append:∀ (l r:List Fld) (m:Msg),clrAll (l++r) m=clrAll r (clrAll l m)
 | [],r,m=>rfl
 | f::l,r,m=>by simp[clrAll_append,clrAll]
theorem fieldsOf_len(k:Int):(fieldsOf k).length<=6:=by
 unfold fieldsOf
 repeat' split
 all_goals simp
theorem fieldsOf_kind{k:Int}(h:fieldsOf k≠[]):1<=k/\k<=6:=by
 unfold fieldsOf at h
 grind
theorem hdr_len(m:Msg)(hbd:m.bd):(hdr m).length<=13:=by
 have hmx:mxU=18446744073709551615:=rfl;have e1:=uint_le10 (n:=m.term) (by have:=hbd.term;omega);simp only[hdr,List.length_cons];omega
theorem body_len{m:Msg}(hbd:m.bd)(h:∀ f∈fieldsOf m.kind,f.pok m):m.body.length<=20000:=by
 grind [pbyAll_len,fieldsOf_len,hdr_len,Msg.body]
theorem getD_take_succF(l:List Fld)(i:Nat)(h:i<l.length)(d:Fld):l.take (i+1)=l.take i++[l.getD i d]:=by
 simp_all
def PutCt(K:PH)(f:Fld)(g:Nat)(cap:Array Value):Prop:=∀ (w0:World) (h:PH) (R:List PH) (mb:Nat) (m:Msg) (p:MA) (ao:Option Addr) (c1:Nat) (bs:List UInt8),Own h ao bs.length c1 5 1 (bv bs)->bs.length<68719476736->MsgS K m p->m.bd ->
 Ct Tryz.prog w0 g ([.slice ao bs.length c1,Ptr mb]++cap.toList) K (h::pt mb (mv m p) 34::R) (PutR f m bs (pt mb (mv m p) 34::R) K)
def ClrCt(K:PH)(f:Fld)(g:Nat)(cap:Array Value):Prop:=∀ (w0:World) (R:List PH) (mb:Nat) (m:Msg) (p:MA),MsgS K m p ->
 Ct Tryz.prog w0 g ([Ptr mb]++cap.toList) K (pt mb (mv m p) 34::R) (fun v K' hs'=>∃ h',hs'=h'::R/\K'=K/\∃ p',h'=pt mb (mv (f.clr m) p') 34/\MsgS K (f.clr m) p')
def GetCt(K:PH)(f:Fld)(g:Nat)(cap:Array Value):Prop:=∀ (w0:World) (h hb:PH) (R:List PH) (rb mb ii:Nat) (m:Msg) (p:MA) (s:Rd),(f=.ents->m.ents=[]/\p.ae=none/\p.ce=0)->R[ii]?=some hb->s.1.length<1099511627776->IsRd rb hb s h->MsgS K m p ->
 Ct Tryz.prog w0 g ([Ptr rb,Ptr mb]++cap.toList) K (h::pt mb (mv m p) 34::R) (GetR f s m p rb mb hb R K)
theorem put_num{K:PH}{g off cb:Nat}{f:Fld}(hs:∀ w0,Sel w0 g off)(hc:K cb=some (capC 262 g))(n:Msg->Nat)(hn:∀ m:Msg,m.bd->n m<=mxU)(hv:∀ m p,(mv m p)[off]?=some (.int .u64 (n m:Nat)))(hok:∀ m,f.pok m)(hby:∀ m,f.pby m=uint (n m)):
  PutCt K f 229 #[Ptr cb]:=by
 intro w0 h R mb m p ao c1 bs o hb hS hbd;refine (numPut m p ao c1 bs o hb (hs w0) hc (n m) (hn m hbd) (hv m p)).mono ?_;rintro v K' hs' ⟨rfl,h',ao',c',rfl,rfl,o'⟩;exact ⟨I,h',ao',c',_,true,I,I,⟨fun _=>hok m,fun _=>I⟩,fun _=>by rw[hby],o'⟩
theorem put_place{K:PH}{g off cb:Nat}{f:Fld}(hs:∀ w0,Sel w0 g off)(hc:K cb=some (capC 265 g))(n:Msg->Int)(hv:∀ m p,(mv m p)[off]?=some (.int .i64 (n m)))(hok:∀ m,f.pok m↔0<=n m/\n m<=2097152)(hby:∀ m,f.pby m=uint (u64of (n m))):
  PutCt K f 238 #[Ptr cb]:=by
 intro w0 h R mb m p ao c1 bs o hb hS hbd;refine (placePut m p ao c1 bs o hb (hs w0) hc (n m) (hv m p)).mono ?_;rintro v K' hs' ⟨rfl,h',ao',c',t,rfl,rfl,ht,o'⟩;exact ⟨I,h',ao',c',_,t,I,I,ht.trans (hok m).symm,fun _=>by rw[hby],o'⟩
theorem clr_num{K:PH}{g off cb:Nat}{f:Fld}(hs:∀ w0,Sel w0 g off)(hc:K cb=some (capC 262 g))(hv:∀ m p,∃ u,(mv m p)[off]?=some u)(hm:∀ m p,(mv m p).setIfInBounds off (.int .u64 0)=mv (f.clr m) p)(hS':∀ m p,MsgS K m p->MsgS K (f.clr m) p):
  ClrCt K f 231 #[Ptr cb]:=by
 intro w0 R mb m p hS;obtain ⟨u,hu⟩:=hv m p;refine (numClr (mv m p) (hs w0) hc u hu).mono ?_;rintro v K' hs' ⟨rfl,rfl⟩;exact ⟨_,I,I,p,by rw[hm],hS' m p hS⟩
theorem clr_place{K:PH}{g off cb:Nat}{f:Fld}(hs:∀ w0,Sel w0 g off)(hc:K cb=some (capC 265 g))(hv:∀ m p,∃ u,(mv m p)[off]?=some u)(hm:∀ m p,(mv m p).setIfInBounds off (.int .i64 0)=mv (f.clr m) p)(hS':∀ m p,MsgS K m p->MsgS K (f.clr m) p):
  ClrCt K f 240 #[Ptr cb]:=by
 intro w0 R mb m p hS;obtain ⟨u,hu⟩:=hv m p;refine (placeClr (mv m p) (hs w0) hc u hu).mono ?_;rintro v K' hs' ⟨rfl,rfl⟩;exact ⟨_,I,I,p,by rw[hm],hS' m p hS⟩
theorem get_num{K:PH}{g off cb:Nat}{f:Fld}(hs:∀ w0,Sel w0 g off)(hc:K cb=some (capC 262 g))(hv:∀ m p,∃ u,(mv m p)[off]?=some u)(hm:∀ s m p,(mv m p).setIfInBounds off (.int .u64 ((rUint mxU s).1:Nat))=mv (f.get s m).2 p)(hr:∀ s m,(f.get s m).1=(rUint mxU s).2)(hS':∀ s m p,MsgS K m p->MsgS K (f.get s m).2 p):
  GetCt K f 230 #[Ptr cb]:=by
 intro w0 h hb R rb mb ii m p s _ hR hl rd hS;obtain ⟨u,hu⟩:=hv m p;refine (numGet (.inr ⟨ii+1,hR⟩) s hl rd (hs w0) hc u hu).mono ?_;rintro v K' hs' ⟨rfl,h',rfl,rd'⟩;exact ⟨Le.refl _,h',p,by rw[hm],by rw[hr];exact rd',hS' s m p hS,fun _=>⟨I,I⟩⟩
theorem get_place{K:PH}{g off cb:Nat}{f:Fld}(hs:∀ w0,Sel w0 g off)(hc:K cb=some (capC 265 g))(hv:∀ m p,∃ u,(mv m p)[off]?=some u)(hm:∀ s m p,(mv m p).setIfInBounds off (.int .i64 ((rUint 2097152 s).1:Nat))=mv (f.get s m).2 p)(hr:∀ s m,(f.get s m).1=(rUint 2097152 s).2)(hS':∀ s m p,MsgS K m p->MsgS K (f.get s m).2 p):
  GetCt K f 239 #[Ptr cb]:=by
 intro w0 h hb R rb mb ii m p s _ hR hl rd hS;obtain ⟨u,hu⟩:=hv m p;refine (placeGet (.inr ⟨ii+1,hR⟩) s hl rd (hs w0) hc u hu).mono ?_;rintro v K' hs' ⟨rfl,h',rfl,rd'⟩;exact ⟨Le.refl _,h',p,by rw[hm],by rw[hr];exact rd',hS' s m p hS,fun _=>⟨I,I⟩⟩
theorem clrR_at{K:PH}{f:Fld}{w0:World}{g mb:Nat}{args:List Value}{R:List PH}{m:Msg}{p:MA}(c:Ct Tryz.prog w0 g args K (pt mb (mv m p) 34::R) (ClrR f m mb R K)):
  Ct Tryz.prog w0 g args K (pt mb (mv m p) 34::R) (fun v K' hs'=>∃ h',hs'=h'::R/\K'=K/\∃ p',h'=pt mb (mv (f.clr m) p') 34/\MsgS K (f.clr m) p'):=
 c.mono fun v K' hs' ⟨h1,p',h2,h3⟩=>⟨_,h2,h1,p',rfl,h3⟩
theorem FV.fns{K:PH}{cs:List Value}{f:Fld}(h:FV K cs f):∃ g1 c1 g2 c2 g3 c3,cs=[.func (.func g1) #[] c1,.func (.func g2) #[] c2,.func (.func g3) #[] c3]/\PutCt K f g1 c1/\GetCt K f g2 c2/\ClrCt K f g3 c3:=by
 cases f
 case idx=>
  obtain ⟨b,hc,rfl⟩:=h
  exact ⟨_,_,_,_,_,_,I,put_num (fun w0=>sel_index) hc (·.idx) (fun m h=>h.idx) (fun m p=>I) (fun m=>trivial) (fun m=>I),
   get_num (fun w0=>sel_index) hc (fun m p=>⟨_,rfl⟩) (fun s m p=>rfl) (fun s m=>rfl) (fun s m p h=>h),clr_num (fun w0=>sel_index) hc (fun m p=>⟨_,rfl⟩) (fun m p=>rfl) (fun m p h=>h)⟩
 case lt=>
  obtain ⟨b,hc,rfl⟩:=h
  exact ⟨_,_,_,_,_,_,I,put_num (fun w0=>sel_logTerm) hc (·.lt) (fun m h=>h.lt) (fun m p=>I) (fun m=>trivial) (fun m=>I),
   get_num (fun w0=>sel_logTerm) hc (fun m p=>⟨_,rfl⟩) (fun s m p=>rfl) (fun s m=>rfl) (fun s m p h=>h),clr_num (fun w0=>sel_logTerm) hc (fun m p=>⟨_,rfl⟩) (fun m p=>rfl) (fun m p h=>h)⟩
 case com=>
  obtain ⟨b,hc,rfl⟩:=h
  exact ⟨_,_,_,_,_,_,I,put_num (fun w0=>sel_commit) hc (·.com) (fun m h=>h.com) (fun m p=>I) (fun m=>trivial) (fun m=>I),
   get_num (fun w0=>sel_commit) hc (fun m p=>⟨_,rfl⟩) (fun s m p=>rfl) (fun s m=>rfl) (fun s m p h=>h),clr_num (fun w0=>sel_commit) hc (fun m p=>⟨_,rfl⟩) (fun m p=>rfl) (fun m p h=>h)⟩
 case rnd=>
  obtain ⟨b,hc,rfl⟩:=h
  exact ⟨_,_,_,_,_,_,I,put_num (fun w0=>sel_round) hc (·.rnd) (fun m h=>h.rnd) (fun m p=>I) (fun m=>trivial) (fun m=>I),
   get_num (fun w0=>sel_round) hc (fun m p=>⟨_,rfl⟩) (fun s m p=>rfl) (fun s m=>rfl) (fun s m p h=>h),clr_num (fun w0=>sel_round) hc (fun m p=>⟨_,rfl⟩) (fun m p=>rfl) (fun m p h=>h)⟩
 case off=>
  obtain ⟨b,hc,rfl⟩:=h
  exact ⟨_,_,_,_,_,_,I,put_place (fun w0=>sel_offset) hc (·.off) (fun m p=>I) (fun m=>Iff.rfl) (fun m=>I),
   get_place (fun w0=>sel_offset) hc (fun m p=>⟨_,rfl⟩) (fun s m p=>rfl) (fun s m=>rfl) (fun s m p h=>h),clr_place (fun w0=>sel_offset) hc (fun m p=>⟨_,rfl⟩) (fun m p=>rfl) (fun m p h=>h)⟩
 case whole=>
  obtain ⟨b,hc,rfl⟩:=h
  exact ⟨_,_,_,_,_,_,I,put_place (fun w0=>sel_whole) hc (·.whole) (fun m p=>I) (fun m=>Iff.rfl) (fun m=>I),
   get_place (fun w0=>sel_whole) hc (fun m p=>⟨_,rfl⟩) (fun s m p=>rfl) (fun s m=>rfl) (fun s m p h=>h),clr_place (fun w0=>sel_whole) hc (fun m p=>⟨_,rfl⟩) (fun m p=>rfl) (fun m p h=>h)⟩
 case good=>
  subst h;exact ⟨_,_,_,_,_,_,I,fun w0 h R mb m p ao c1 bs o hb hS hbd=>goodPut m p ao c1 bs o hb,fun w0 h hb R rb mb ii m p s _ hR hl rd hS=>goodGet m p (.inr ⟨ii+1,hR⟩) s rd hS,fun w0 R mb m p hS=>clrR_at (goodClr m p hS)⟩
 case ents=>
  subst h;exact ⟨_,_,_,_,_,_,I,fun w0 h R mb m p ao c1 bs o hb hS hbd=>entsPut m p ao c1 bs o hb hS hbd,fun w0 h hb R rb mb ii m p s he hR hl rd hS=>entsGet m p (he I).1 (he I).2.1 (he I).2.2 hR s hl rd hS,fun w0 R mb m p hS=>clrR_at (entsClr m p hS)⟩
 case vot=>
  subst h;exact ⟨_,_,_,_,_,_,I,fun w0 h R mb m p ao c1 bs o hb hS hbd=>votPut m p ao c1 bs o hb hS hbd,fun w0 h hb R rb mb ii m p s _ hR hl rd hS=>votGet m p (.inr ⟨ii+1,hR⟩) s rd hS,fun w0 R mb m p hS=>clrR_at (votClr m p hS)⟩
 case data=>
  subst h;exact ⟨_,_,_,_,_,_,I,fun w0 h R mb m p ao c1 bs o hb hS hbd=>dataPut m p ao c1 bs o hb hS hbd,fun w0 h hb R rb mb ii m p s _ hR hl rd hS=>dataGet m p (.inr ⟨ii+1,hR⟩) s hl rd hS,fun w0 R mb m p hS=>clrR_at (dataClr m p hS)⟩
theorem FldsS.get{K:PH}{d:Fld}:∀ {css:List (List Value)} {fs:List Fld} {i:Nat},All2 (FV K) css fs->i<fs.length ->
  ∃ cs,FV K cs (fs.getD i d)/\cs.length=3/\∀ (j:Nat) v,cs[j]?=some v->css.flatten[i*3+j]?=some v
 | [],[],i,_,h=>by simp at h
 | [],_::_,_,g,_=>g.elim
 | _::_,[],_,g,_=>g.elim
 | c::css,f::fs,0,g,h=>by
  obtain ⟨g1,c1,g2,c2,g3,c3,hc,_⟩:=g.1.fns;refine ⟨c,by simpa using g.1,by rw[hc];rfl,fun j v hv=>?_⟩;have hj:j<c.length:=(List.getElem?_eq_some_iff.1 hv).1;rw[List.flatten_cons,Nat.zero_mul,Nat.zero_add,List.getElem?_append_left hj];exact hv
 | c::css,f::fs,i+1,g,h=>by
  obtain ⟨cs,x,hl,hx⟩:=FldsS.get (d:=d) (i:=i) g.2 (by simpa using h);obtain ⟨g1,c1,g2,c2,g3,c3,hc,_⟩:=g.1.fns;have hcl:c.length=3:=by rw[hc];rfl
  refine ⟨cs,by simpa using x,hl,fun j v hv=>?_⟩;have:=hx j v hv;rw[List.flatten_cons,List.getElem?_append_right qo,show (i+1)*3+j-c.length=i*3+j from by omega];exact this
theorem own_b3(b k f t:Nat)(hk:k<256)(hf:f<256)(ht:t<256):Own (pt b #[.int .u8 (k:Nat),.int .u8 (f:Nat),.int .u8 (t:Nat)] 5) (some ⟨b,0,none⟩) ([UInt8.ofNat k,UInt8.ofNat f,UInt8.ofNat t]:List UInt8).length 3 5 1 (bv [UInt8.ofNat k,UInt8.ofNat f,UInt8.ofNat t]):=
 own_of (Own.ofPt (n:=3) (size:=1) (by simp) (by simp[maxLen])) rfl (by simp[bv,byteV hk,byteV hf,byteV ht])
theorem enc_no{m:Msg}(h:¬m.ok):enc m=none:=if_neg h
theorem encodeC{w0:World}{K:PH}{hs:List PH}(m:Msg)(p:MA)(hS:MsgS K m p)(hbd:m.bd):
  Ct Tryz.prog w0 70 [.agg (mv m p)] K hs (fun v K' hs'=>K'=K/\OutB (enc m) hs v hs'):=by
 have hmx:mxU=18446744073709551615:=rfl;have hterm:=hbd.term;have hfl:=fieldsOf_len m.kind;have hfk:=fieldsOf_kind (k:=m.kind);have hhd:=hdr_len m hbd;have hbl:=body_len hbd;refine enter Tryz.func70 qk I I I (sq (rg (bx 0 I fun b1=>fin 2 I (th (sq (rg (ldp 1 0 I I I (cl 0 I (fieldsC m.kind) ?_))))))));rintro v14 K14 hs14 ⟨le,rfl,aof,capf,rfl,css,xF,hA⟩;have hS':=hS.le le;generalize hfs:fieldsOf m.kind=fs at hfl hfk hbl xF hA;refine fin 1 I (th (sq (sq (rg (cmpS 2 I fun b17 h17=>?_)))))
 refine' bjo 1 5 23 [17,18] h17 I I I I I I I (fun _=>?x2) (fun b23 h23=>?_)
 case x2=>
  refine ldp 1 0 I I I (cl 0 I (placedC m.frm) ?_);rintro v21 K21 hs21 ⟨rfl,rfl,b21,rfl,h21⟩;exact cbS 0 _ I (bnot h21) fun b22 h22=>fin 1 I (bjx h22 I I I)
 refine' bjo 1 5 29 [23,24] h23 I I I I I I I (fun _=>?x3) (fun b29 h29=>?_)
 case x3=>
  refine ldp 1 0 I I I (cl 0 I (placedC m.to) ?_);rintro v27 K27 hs27 ⟨rfl,rfl,b27,rfl,h27⟩;exact cbS 0 _ I (bnot h27) fun b28 h28=>fin 1 I (bjx h28 I I I)
 refine' bjo 1 6 36 [29,30] h29 I I I I I I I (fun _=>?x4) (fun b36 h36=>?_)
 case x4=>
  exact ldp 1 0 I I I<|ldp 1 0 I I I (cmpS 0 I fun b35 h35=>fin 1 I<|bjx h35 I I I)
 refine' bjo 1 4 41 [36,37] h36 I I I I I I I (fun _=>?x6) (fun b41 h41=>?_)
 case x6=>
  exact ldp 1 0 I I I (cmpS 0 I fun b40 h40=>fin 1 I<|bjx h40 I I I)
 refine fin 0 I<|th (ifP h41 I (fun e8=>?_) (fun e8=>?_))
 ·have hno:¬m.ok:=fun h=>by
   obtain ⟨⟨p1,p2,p3,p4,p5⟩,_⟩:=h;rw[hfs] at p1;rcases e8 with (((e|e)|e)|e)|e
   ·exact p1<|List.eq_nil_of_length_eq_zero qo
   ·exact e p2
   ·exact e p3
   ·exact p4 e
   ·exact p5 qo
  exact sq<|rg (fin 2 I<|th (rt<|rT (WQ.drop<|WQ.em (WQ.weak le<|ret2 I I I ⟨I,outN (enc_no hno)⟩))))
 ·have hpre:m.pre:=⟨by rw[hfs];exact fun h=>e8 (by rw[h];exact .inl (.inl (.inl (.inl I)))),Decidable.not_not.1 fun h=>e8 (.inl (.inl (.inl (.inr h)))),Decidable.not_not.1 fun h=>e8 (.inl (.inl (.inr h))),fun h=>e8 (.inl (.inr h)),fun h=>e8 (.inr (by rw[h];rfl))⟩;clear e8;have hk6:=hfk (by have:=hpre.1;rwa [hfs] at this);have hpf:=hpre.2.1;have hpt:=hpre.2.2.1;unfold placedP at hpf hpt;obtain ⟨k,hk⟩:∃ k:Nat,m.kind=(k:Nat):=Int.eq_ofNat_of_zero_le (show 0<=m.kind by omega);obtain ⟨f0,hf0⟩:∃ k:Nat,m.frm=(k:Nat):=Int.eq_ofNat_of_zero_le hpf.1;obtain ⟨t0,ht0⟩:∃ k:Nat,m.to=(k:Nat):=Int.eq_ofNat_of_zero_le hpt.1;refine sk (th (sq (rg (ldp 1 0 I I I (ar 0 I (v':=.int .u8 (k:Nat)) (by rw[hk,u8w qo]) (ldp 1 0 I I I (ar 0 I (v':=.int .u8 (f0:Nat)) (by rw[hf0,u8w qo]) (ldp 1 0 I I I (ar 0 I (v':=.int .u8 (t0:Nat)) (by rw[ht0,u8w qo]) (lit 0 #[.int .u8 (k:Nat),.int .u8 (f0:Nat),.int .u8 (t0:Nat)] I (by decide) qk fun b51=>ldp 1 1 I I I (cl 0 I (putUint _ _ [UInt8.ofNat k,UInt8.ofNat f0,UInt8.ofNat t0] m.term (own_b3 b51 k f0 t0 qo qo qo) qo (by simp)) ?_)))))))))))
  rintro v54 K54 hs54 ⟨g54,rfl,rfl,ao54,c54,rfl,o54⟩;have hh:[UInt8.ofNat k,UInt8.ofNat f0,UInt8.ofNat t0]++uint m.term=hdr m:=by rw[hdr,hk,hf0,ht0];rfl
  rw[hh] at o54 ⊢;refine fin 1 I (th (sq (sq (rg (fin 3 I (th (bk (loop (σ:=Nat×Option Addr×Nat×PH) (fun s=>[(1,Ptr b1),(4,.slice aof fs.length capf),(5,.slice s.2.1 (hdr m++pbyAll m (fs.take s.1)).length s.2.2.1),(55,.slice aof fs.length capf),(56,.int .i64 (fs.length:Nat)),(57,.int .i64 (s.1:Nat))]) (fun _=>K54) (fun s=>s.2.2.2::pt b1 (mv m p) 34::hs) (fun s=>s.1<=fs.length/\(∀ f∈fs.take s.1,f.pok m)/\Own s.2.2.2 s.2.1 (hdr m++pbyAll m (fs.take s.1)).length s.2.2.1 5 1 (bv (hdr m++pbyAll m (fs.take s.1)))) (fun s=>fs.length-s.1) (0,ao54,c54,g54) ⟨Nat.zero_le _,by simp,by simpa[pbyAll] using o54⟩ (by simp only[pbyAll,List.take_zero,List.append_nil];exact ⟨I,I,I,I,I,I,trivial⟩) I I ?_))))))));rintro ⟨i,ao,c1,h⟩ ⟨hi,hok,o⟩;dsimp only at hi hok o ⊢;have hpl:=pbyAll_len hbd hok;have htl:(fs.take i).length<=6:=by simp;omega
  refine sq<|rg (cmpS 0 I fun b58 h58=>fin 0 I<|th (sq<|ifP h58 I (fun e10=>?_) (fun e10=>?_)))
  ·have hin:i<fs.length:=by omega
   refine sk (th (sq (bk (sq (rg ?_)))));obtain ⟨cs,hV,hcl,hcell⟩:=FldsS.get (d:=.idx) hA hin;obtain ⟨g1,k1,g2,k2,g3,k3,rfl,hput,hget,hclr⟩:=hV.fns;have htk:=getD_take_succF fs i hin .idx;have hmem:fs.getD i .idx∈fs:=by simp[List.getD,hin]
   generalize fs.getD i .idx=f at hV hput hget hclr htk hmem;refine ixs 0 i I I xF hin (by decide) fun a59 ha59=>lds 0 [.func (.func g1) #[] k1,.func (.func g2) #[] k2,.func (.func g3) #[] k3] I qk (.inl I) (fun j v hv=>?_) ?_
   ·obtain ⟨a',q1,q2⟩:=xF.2.2 (i*3+j) v (hcell j v hv);rw[ha59] at q1;cases q1;rw[Deep.add_add];exact q2
   refine al 0 (.agg #[.nilFunc,.nilFunc,.nilFunc]) I qk fun b7=>?_;refine stS 0 0 I I qk I I ?_;refine fin 0 I (th (sq (rg (ldp 1 0 I I I (WL.drop (cl 1 I (hput w0 h hs b1 m p ao c1 _ o (by simp only[List.length_append];omega) hS' hbd) ?_))))));rintro v65 K65 hs65 ⟨rfl,h',ao',c',out,t,rfl,rfl,ht,hout,o'⟩;refine fin 5 I (th (sq (sq (rg (fin 2 I (th (ifB I (fun h11=>?_) (fun h11=>?_))))))))
   ·refine sq (rg (fin 2 I (th (rt (rT (rB (rT (rT (rB (rT (WQ.drop (WQ.drop (WQ.em (WQ.weak le ?_))))))))))))));exact ret2 I I I ⟨I,outN (enc_no fun hh=>by have:=hh.2.1 f (by rw[hfs];exact hmem);rw[ht.2 this] at h11;cases h11)⟩
   ·have htt:t=true:=by simpa using h11
    obtain rfl:=hout htt;have ee:hdr m++pbyAll m (fs.take i)++f.pby m=hdr m++pbyAll m (fs.take (i+1)):=by rw[htk,pbyAll_append];simp[pbyAll]
    rw[ee] at o' ⊢;refine sk (th (rg (fin 2 I (bl (th (rg (ar 0 I (i64w qo) (fin 1 I ?_))))))));exact again (x:=(i,ao,c1,h)) (i+1,ao',c',h') ⟨I,I,I,I,I,I,trivial⟩ I I ⟨by omega,by rw[htk];intro x hx;exact (List.mem_append.1 hx).elim (hok x) (fun hx=>by rw[List.mem_singleton.1 hx];exact ht.1 htt),o'⟩ (by (try dsimp only);omega)
  ·obtain rfl:i=fs.length:=by omega
   refine ex (xt (xt (xb (th (sq (sq (rg ?_)))))));rw[List.take_of_length_le (Nat.le_refl _)] at o hok ⊢;refine fin 3 I (th (bk (loop (σ:=Nat×MA) (fun s=>[(1,Ptr b1),(5,.slice ao (hdr m++pbyAll m fs).length c1),(72,.slice aof fs.length capf),(73,.int .i64 (fs.length:Nat)),(74,.int .i64 (s.1:Nat))]) (fun _=>K54) (fun s=>h::pt b1 (mv (clrAll (fs.take s.1) m) s.2) 34::hs) (fun s=>s.1<=fs.length/\MsgS K54 (clrAll (fs.take s.1) m) s.2) (fun s=>fs.length-s.1) (0,p) ⟨Nat.zero_le _,hS'⟩ ⟨I,I,I,I,I,trivial⟩ I I ?_)));rintro ⟨i,p2⟩ ⟨hi,hS2⟩;dsimp only at hi hS2 ⊢;refine sq (rg (cmpS 0 I fun b75 h75=>fin 0 I (th (sq (ifP h75 I (fun e13=>?_) (fun e13=>?_))))))
   ·have hin:i<fs.length:=by omega
    refine sk (th (sq (bk (sq (rg ?_)))));obtain ⟨cs,hV,hcl,hcell⟩:=FldsS.get (d:=.idx) hA hin;obtain ⟨g1,k1,g2,k2,g3,k3,rfl,hput,hget,hclr⟩:=hV.fns;have htk:=getD_take_succF fs i hin .idx;generalize fs.getD i .idx=f at hV hput hget hclr htk;refine ixs 0 i I I xF hin (by decide) fun a76 ha76=>lds 0 [.func (.func g1) #[] k1,.func (.func g2) #[] k2,.func (.func g3) #[] k3] I qk (.inl I) (fun j v hv=>?_) ?_
    ·obtain ⟨a',q1,q2⟩:=xF.2.2 (i*3+j) v (hcell j v hv);rw[ha76] at q1;cases q1;rw[Deep.add_add];exact q2
    refine al 0 (.agg #[.nilFunc,.nilFunc,.nilFunc]) I qk fun b11=>?_;refine stS 0 0 I I qk I I ?_;refine fin 0 I (th (rg (ldp 1 0 I I I (WL.drop (cl 0 I (Ct.at 1 I (hclr w0 _ b1 _ _ hS2)) ?_)))));rintro v80 K80 hs80 ⟨h',rfl,rfl,p3,rfl,hS3⟩;have ee:f.clr (clrAll (fs.take i) m)=clrAll (fs.take (i+1)) m:=by rw[htk,clrAll_append];rfl
    rw[ee] at hS3 ⊢;exact fin 0 I (bl (th (rg (ar 0 I (i64w qo) (fin 1 I (again (x:=(i,p2)) (i+1,p3) ⟨I,I,I,I,I,trivial⟩ I I ⟨by omega,hS3⟩ (by (try dsimp only);omega)))))))
   ·obtain rfl:i=fs.length:=by omega
    refine ex (xt (xt (xb (th (sq (sq (rg ?_)))))));rw[List.take_of_length_le (Nat.le_refl _)] at hS2 ⊢;refine ldS 0 1 I I qk (cl 0 I (bareC _ _) ?_);rintro v83 K83 hs83 ⟨rfl,rfl,b83,rfl,h83⟩;refine cbS 0 _ I (bnot h83) fun b84 h84=>fin 0 I (th (ifP h84 I (fun e14=>?_) (fun e14=>?_)))
    ·exact sq (rg (fin 2 I (th (rt (rT (WQ.drop (WQ.drop (WQ.em (WQ.weak le (ret2 I I I ⟨I,outN (enc_no fun hh=>e14 (by have:=hh.2.2;rwa [hfs] at this))⟩))))))))))
    ·have hokk:m.ok:=⟨hpre,by rw[hfs];exact hok,by rw[hfs];exact Decidable.not_not.1 e14⟩;have hbody:m.body=hdr m++pbyAll m fs:=by rw[Msg.body,hfs]
     have hbl2:=hbl hok;rw[<-hbody] at o ⊢;refine sk (th (sq (rg (cl 1 I (sealC ao c1 m.body (.inr ⟨0,I⟩) o.isS qo) ?_))));rintro v86 K86 hs86 ⟨rfl,gs,rfl,hor⟩;obtain ⟨hbig,_⟩|⟨hsm,aos,cs,rfl,os⟩:=hor
     ·exact absurd hbig qo
     refine fin 4 I (th (rt (WQ.perm (List.perm_middle (l₁:=[_,_])).symm (WQ.drop (WQ.drop (WQ.weak le ?_))))));exact ret2 I I I ⟨I,outS (by rw[enc,if_pos hokk]) os⟩
def p0:MA:=⟨none,0,none,0,none,0⟩
end
section
theorem u64shlB(m:Nat)(h:m*256<18446744073709551616):Value.int .u64 (IntKind.u64.wrap (((m:Nat):Int)*2 ^ (min (8:Int).toNat IntKind.u64.bits)))=.int .u64 (m*256:Nat):=by
 have e:min (8:Int).toNat IntKind.u64.bits=8:=rfl;rw[e,show ((m:Nat):Int)*2 ^ 8=((m*256:Nat):Int) from by rw[Int.natCast_mul];rfl,u64m,Nat.mod_eq_of_lt h]
theorem u64orB(m:Nat)(c:UInt8)(h:m*256+256<=18446744073709551616):
  Value.int .u64 (IntKind.u64.wrap (BitVec.ofInt 64 ((m*256:Nat):Int) ||| BitVec.ofInt 64 ((c.toNat:Nat):Int)).toNat)=.int .u64 (c.toNat+256*m:Nat):=by
 have hc:=c.toNat_lt
 have e:(BitVec.ofInt 64 ((m*256:Nat):Int) ||| BitVec.ofInt 64 ((c.toNat:Nat):Int)).toNat=c.toNat+256*m:=by
  rw[BitVec.toNat_or,BitVec.ofInt_natCast,BitVec.ofInt_natCast,BitVec.toNat_ofNat,BitVec.toNat_ofNat,Nat.mod_eq_of_lt qo,Nat.mod_eq_of_lt qo,show m*256=2 ^ 8*m from by omega,
   <- Nat.two_pow_add_eq_or_of_lt qo]
  omega
 rw[e,u64m,Nat.mod_eq_of_lt qo]
attribute [local irreducible] Code.wp wpList Calls
theorem readSC{w0:World}{K h:PH}{hs:List PH}(sb b:Nat)(D:Dk)(c:Nat)(o:D.Ok c)(hc:c<=1099511627)(hm:DskH K b D h)(area:Nat)(sv nv:Value)(i:Nat)(hi:i<=1):
  Ct Tryz.prog w0 101 [.pointer (some ⟨sb,0,none⟩),.int .i64 (i:Nat)] K (pt sb #[.pointer (some ⟨b,0,none⟩),.int .u64 (area:Nat),sv,nv] 178::h::hs)
   (fun v K' hs'=>hs'=pt sb #[.pointer (some ⟨b,0,none⟩),.int .u64 (area:Nat),sv,nv] 178::h::hs/\Le K K'/\∃ ao cap,v=.tuple #[.int .u64 (((sltRd D area i).1:Nat):Int),.slice ao (sltRd D area i).2.length cap]/\IsS K' ao (sltRd D area i).2.length cap 1 (bv (sltRd D area i).2)):=by
 obtain ⟨S,hS⟩:∃ S,S=pt sb #[.pointer (some ⟨b,0,none⟩),.int .u64 (area:Nat),sv,nv] 178:=⟨_,rfl⟩;refine entA Tryz.func101 ?_;refine rga [pt sb #[.pointer (some ⟨b,0,none⟩),.int .u64 (area:Nat),sv,nv] 178] 15 [0,2,4,6,8,10,12,14,16,19,20,22,24,26,28] (by simp) qk qk (au ?_);rw[<-hS];refine cl 0 I (Ct.at 1 I (readH b D c o hc hm ((area:Nat):Int) ((i:Nat):Int))) ?_;rintro v22 K22 hs22 ⟨h',rfl,rfl,le,hR⟩;refine dnxL (by simp) le ?_;rcases hR with ⟨hn,rfl⟩|⟨bs,ao,cap,hb,hl,rfl,x⟩
 ·have e:sltRd D area i=(0,[]):=by unfold sltRd;rw[hn]
  rw[e];refine au ?_;refine cmp 2 I (fun h27=>au ?_) (fun h27=>absurd qo h27);exact ret2 I I I ⟨I,le,none,0,I,IsS.nil _ _ _ _⟩
 ·have e:sltRd D area i=sltSay bs i:=by unfold sltRd;rw[hb]
  rw[e];obtain ⟨c8,hc8⟩:∃ c8,bs[8]?=some c8:=⟨bs[8]'qo,List.getElem?_eq_getElem qo⟩;have hg8:bs.getD 8 0=c8:=by rw[List.getD_eq_getElem?_getD,hc8];rfl
  have hx8:(bv bs)[8]?=some (.int .u8 c8.toNat):=by simp[bv,hc8]
  have h8lt:=c8.toNat_lt;refine au ?_;refine cmp 2 I (fun h27=>absurd h27 qo) (fun h27=>ix1 2 8 I I I x hx8 fun a30 hc30=>ld 0 I (.inl I) hc30 (cmp 0 I (fun e4=>?_) (fun e4=>?_)))
  ·refine au ?_;have e2:sltSay bs i=(0,[]):=by unfold sltSay;rw[hg8,if_pos qo]
   rw[e2];refine au ?_;exact ret2 I I I ⟨I,le,none,0,I,IsS.nil _ _ _ _⟩
  ·refine au ?_;obtain ⟨q,hq⟩:∃ q,q=bs.take 8:=⟨_,rfl⟩;have hql:q.length=8:=by rw[hq,List.length_take];omega
   obtain ⟨vv,hvv⟩:∃ vv,vv=(bs.drop 9).take c8.toNat:=⟨_,rfl⟩;have hvl:vv.length=c8.toNat:=by rw[hvv,List.length_take,List.length_drop];omega
   have hq64:un4 q<18446744073709551616:=by have:=un4_lt q 8 qo;omega
   have e2:sltSay bs i=if un4 q % 2=i/\bs=sect (un4 q) vv then (un4 q,vv) else (0,[]):=by unfold sltSay;rw[hg8,if_neg qo,<-hq,<-hvv]
   rw[e2];refine au ?_
   refine loop (σ:=Nat) (fun j=>[(0,.pointer (some ⟨sb,0,none⟩)),(1,.int .i64 (i:Nat)),(6,.slice ao bs.length cap),(8,.int .u64 ((un4 (q.drop j):Nat):Int)),(9,.int .i64 (((j:Nat):Int)-1))]) (fun _=>K22) (fun _=>S::h'::hs) (fun j=>j<=8) (fun j=>j) 8 (Nat.le_refl _)
    ⟨rfl,rfl,rfl,by rw[List.drop_of_length_le qo];rfl,rfl,trivial⟩ rfl rfl ?_
   intro j hj;refine sq (sq (rg (cmp 1 I (fun e6=>?_) (fun e6=>?_))))
   ·refine au ?_;obtain ⟨k,rfl⟩:∃ k,j=k+1:=⟨j-1,by omega⟩;have hk:k<q.length:=by omega
    have hlt:un4 (q.drop (k+1))<256 ^ 7:=un4_lt _ 7 (by rw[List.length_drop];omega);have hd:=un4_drop q k hk;obtain ⟨ck,hck⟩:∃ ck,ck=q[k]:=⟨_,rfl⟩
    have hbk:bs[k]?=some ck:=by
     have h1:q[k]?=bs[k]?:=by rw[hq,List.getElem?_take_of_lt qo]
     rw[<-h1,List.getElem?_eq_getElem hk,hck]
    have hxk:(bv bs)[k]?=some (.int .u8 ck.toNat):=by simp[bv,hbk]
    rw[<-hck] at hd;refine au ?_;refine ar 1 I (u64shlB (un4 (q.drop (k+1))) qo) (ix1 2 k I (show ((k+1:Nat):Int)-1=((k:Nat):Int) by omega) I x hxk fun a42 hc42=>ld 0 I (.inl I) hc42 ?_);have hcl:=ck.toNat_lt;refine ar 0 I (u64w qo) (ar 0 I (u64orB (un4 (q.drop (k+1))) ck qo) (au ?_));refine ar 1 I (v':=.int .i64 (((k:Nat):Int)-1)) (by rw[show ((k+1:Nat):Int)-1-1=((k:Nat):Int)-1 from by omega];exact i64w qo) (fin 1 I ?_);exact again (x:=k+1) k ⟨I,I,I,by rw[hd];rfl,rfl,trivial⟩ rfl rfl qo qo
   ·refine au ?_;obtain rfl:j=0:=by omega
    rw[List.drop_zero];refine au ?_;refine ix1 2 8 I I I x hx8 fun a48 hc48=>ld 0 I (.inl I) hc48 (ar 0 I (u8w (x:=((9+c8.toNat:Nat):Int)) qo) ?_)
    refine sl 0 9 vv.length I x I (by show ((9+c8.toNat:Nat):Int)=_;rw[hvl]) qo (by
     show ((bv bs).drop (9*1)).take (vv.length*1)=bv vv;rw[hvl,hvv];simp[bv]) fun ao51 c51 x51=>?_
    refine au ?_;refine cl 2 I (sectorC (un4 q) vv ao51 c51 qo (.inl I) x51) ?_;rintro v54 K54 hs54 ⟨rfl,rfl,rfl⟩;have hsl:(sect (un4 q) vv).length=64:=sect_length qo;have hss:(bv (sect (un4 q) vv)).toArray.size=64:=by simp[bv,hsl]
    refine al 0 (.agg (bv (List.replicate 64 0)).toArray) I qk fun b11=>?_;refine stS 0 0 I I (by rw[hss];kernel_rfl) (by rw[hss];rfl) (by simp only[Array.all_toList,List.all_eq_true];first|exact bv_one _|(simp;intro u hu;exact bv_one _ u hu)) ?_;refine au ?_;refine ar 1 I (u_rem .u64 (un4 q) 2) (ar 1 I (u64w (x:=((i:Nat):Int)) qo) (cmpS 0 I fun b59 h59=>?_))
    refine' bjo 1 5 65 [59,60] h59 I I I I I I I (fun _=>?x8) (fun b65 h65=>?_)
    case x8=>
     refine sla 1 (sz:=1) 0 64 I I Tryz.underlying245 qk I I (Nat.le_refl _) (by decide) ?_;simp only[add_mk,Nat.zero_mul,Nat.add_zero,Nat.sub_zero]
     have xR:IsS (pt b11 (bv (sect (un4 q) vv)).toArray 245) (some ⟨b11,0,none⟩) (sect (un4 q) vv).length 64 1 (bv (sect (un4 q) vv)):=by
      have:=bA_isS (g:=b11) (ty:=245) (A:=[]) (B:=sect (un4 q) vv) (C:=[]) (off:=0) (n:=(sect (un4 q) vv).length) (cap:=64) rfl rfl qo;simpa using this
     have heq:=equalC (w0:=w0) (K:=K54) (hs:=pt b11 (bv (sect (un4 q) vv)).toArray 245::S::h'::hs) ao (some ⟨b11,0,none⟩) cap 64 bs (sect (un4 q) vv) (.inl rfl) (.inr ⟨0,rfl⟩) x xR qo;rw[hsl] at heq;refine cl 0 I heq ?_;rintro v63 K63 hs63 ⟨rfl,rfl,t63,rfl,h63⟩;exact nmS fun b63 h63'=>cbS 0 _ I (bnot (h63'.trans h63)) fun b64 h64=>fin 1 I (bjx h64 I I I)
    refine fin 0 I<|th (ifP h65 I (fun e9=>?_) (fun e9=>?_))
    ·rw[if_neg (by intro g;rcases e9 with g1|g1;exact g1 (by have:=g.1;omega);exact g1 g.2)];exact sq (rg (fin 2 I (th (rt (rT (WQ.drop (ret2 I I I ⟨I,le,none,0,I,IsS.nil _ _ _ _⟩)))))))
    ·rw[if_pos ⟨by rcases Decidable.em (un4 q % 2=i) with g|g;exact g;exact absurd (.inl qo) e9,by rcases Decidable.em (bs=sect (un4 q) vv) with g|g;exact g;exact absurd (.inr g) e9⟩];exact sk (th (sq (rg (fin 4 I (th (rt (WQ.drop (ret2 I I I ⟨I,le,ao51,c51,I,x51⟩))))))))
end
section
def sltUp(D:Dk)(area:Nat):Nat->Slt
 | 0=>⟨0,[]⟩
 | i+1=>(sltUp D area i).pick (sltRd D area i)
theorem sltSay_bd(b:List UInt8)(i:Nat)(hb:b.length=64):(sltSay b i).1<18446744073709551616/\(sltSay b i).2.length<=48:=by
 unfold sltSay
 split
 ·simp
 ·rename_i h
  split
  ·have h1:=un4_lt (b.take 8) 8 (by rw[List.length_take];omega);refine ⟨by dsimp only;omega,?_⟩;dsimp only;rw[List.length_take];omega
  ·simp
theorem sltRd_bd{c:Nat}{D:Dk}(o:D.Ok c)(area i:Nat):(sltRd D area i).1<18446744073709551616/\(sltRd D area i).2.length<=48:=by
 unfold sltRd;cases hr:D.read area i with
 | none=>simp
 | some b=>
  refine sltSay_bd b i ?_;unfold Dk.read at hr;cases hs:D.sec area i with
  | none=>rw[hs] at hr;cases hr
  | some s=>
   rw[hs] at hr;simp only[Option.map_some,Option.some.injEq] at hr;obtain ⟨h1,_,h3⟩:=o.secOk hs;rw[<-hr,List.getLastD_eq_getLast?,List.getLast?_eq_some_getLast h1];exact h3 _ (List.getLast_mem h1)
def Slt.bd(S:Slt):Prop:=S.num<18446744073709551616/\S.val.length<=48
theorem sltUp_bd{c:Nat}{D:Dk}(o:D.Ok c)(area:Nat):∀ i,(sltUp D area i).bd
 | 0=>by simp[sltUp,Slt.bd]
 | i+1=>by
  have h:=sltUp_bd o area i;unfold sltUp Slt.pick
  split
  ·exact sltRd_bd o area i
  ·exact h
theorem Slt.save_bd{S:Slt}(h:S.bd)(area:Nat)(D:Dk)(v:List UInt8):(S.save area D v).1.bd:=by
 unfold Slt.save
 split
 ·exact h
 ·rename_i hn;obtain ⟨h1,h2⟩:=h
  split
  ·dsimp only
   split
   ·exact ⟨by dsimp only;omega,by dsimp only;omega⟩
   ·exact ⟨h1,h2⟩
  ·exact ⟨h1,h2⟩
def sltA(b area:Nat)(S:Slt)(ao:Option Addr)(cap:Nat):Array Value:=#[.pointer (some ⟨b,0,none⟩),.int .u64 (area:Nat),.slice ao S.val.length cap,.int .u64 S.num]
theorem DOk.save{c:Nat}{D:Dk}(o:DOk c D)(S:Slt)(area:Nat)(ha:area<=18446744073709551615)(v:List UInt8):DOk (c+2) (S.save area D v).2.1:=by
 unfold Slt.save
 split
 ·exact o.up qo
 ·split
  ·exact (o.write _ _ _ qo).sync _
  ·exact (o.write _ _ _ qo).up qo
attribute [local irreducible] Code.wp wpList Calls
def SltH(K:PH)(sb b area:Nat)(S:Slt)(h:PH):Prop:=∃ ao cap,h=pt sb (sltA b area S ao cap) 178/\IsS K ao S.val.length cap 1 (bv S.val)
theorem SltH.le{K K':PH}(l:Le K K'){sb b area:Nat}{S:Slt}{h:PH}(x:SltH K sb b area S h):SltH K' sb b area S h:=let ⟨a,c,h1,h2⟩:=x;⟨a,c,h1,h2.le l⟩
theorem openSC{w0:World}{K h:PH}{hs:List PH}(b:Nat)(D:Dk)(c:Nat)(o:D.Ok c)(hc:c<=1099511627)(hm:DskH K b D h)(area:Nat):
  Ct Tryz.prog w0 53 [.pointer (some ⟨b,0,none⟩),.int .u64 (area:Nat)] K (h::hs)
   (fun v K' hs'=>(D.dead=true/\K'=K/\hs'=h::hs/\v=.tuple #[.pointer none,.int .i64 30]) \/
    (D.dead=false/\Le K K'/\∃ sb s,hs'=s::h::hs/\SltH K' sb b area (sltOpen D area) s/\v=.tuple #[.pointer (some ⟨sb,0,none⟩),.int .i64 0])):=by
 refine entA Tryz.func53 ?_;refine cl 1 I (deadH b D hm) ?_;rintro v11 K11 hs11 ⟨rfl,rfl,rfl⟩;refine fin 0 I (th (ifB I (fun e1=>?_) (fun e1=>?_)))
 ·refine au ?_;exact ret2 I I I (.inl ⟨e1,I,I,I⟩)
 ·refine sk<|th (sq<|rg (bd 2 (.agg<|sltA b area ⟨0,[]⟩ none 0) I (fun w=>by kernel_rfl) (bx 0 I fun b15=>au ?_)))
  refine loop (σ:=Nat×PH×Option Addr×Nat) (fun s=>[(6,.pointer (some ⟨b15,0,none⟩)),(16,.int .i64 s.1)]) (fun s=>s.2.1) (fun s=>pt b15 (sltA b area (sltUp D area s.1) s.2.2.1 s.2.2.2) 178::h::hs)
   (fun s=>s.1<=2/\Le K11 s.2.1/\IsS s.2.1 s.2.2.1 (sltUp D area s.1).val.length s.2.2.2 1 (bv (sltUp D area s.1).val)) (fun s=>2-s.1) (0,K11,none,0) ⟨by dsimp only;omega,Le.refl _,IsS.nil _ _ _ _⟩ ⟨rfl,rfl,trivial⟩ rfl rfl ?_
  rintro ⟨i,K1,ao,cap⟩ ⟨hi,le,x⟩;dsimp only at *;have hbd:=sltUp_bd o area i;refine sq (rg (cmp 0 I (fun e3=>?_) (fun e3=>?_)))
  ·refine au ?_;refine cl 2 I (readSC b15 b D c o hc (hm.le le) area _ _ i qo) ?_;rintro v22 K22 hs22 ⟨rfl,le2,ao2,cap2,rfl,x2⟩;refine au ?_;refine cmpS 0 I fun b30 h30=>fin 0 I (th (ifP h30 I (fun e5=>?_) (fun e5=>?_)))
   ·have e:sltUp D area (i+1)=⟨(sltRd D area i).1,(sltRd D area i).2⟩:=by rw[sltUp,Slt.pick,if_pos qo]
    refine au ?_;exact ar 0 I (i64w (x:=((i+1:Nat):Int)) qo) (fin 1 I (again (x:=(i,K1,ao,cap)) (i+1,K22,ao2,cap2) ⟨I,I,trivial⟩ I (by dsimp only;rw[e];rfl) ⟨by dsimp only;omega,le.trans le2,by dsimp only;rw[e];exact x2⟩ (by dsimp only;omega)))
   ·have e:sltUp D area (i+1)=sltUp D area i:=by rw[sltUp,Slt.pick,if_neg qo]
    exact sk (bl (th (rg (ar 0 I (i64w (x:=((i+1:Nat):Int)) qo) (fin 1 I (again (x:=(i,K1,ao,cap)) (i+1,K22,ao,cap) ⟨I,I,trivial⟩ I (by dsimp only;rw[e];rfl) ⟨by dsimp only;omega,le.trans le2,by dsimp only;rw[e];exact x.le le2⟩ (by dsimp only;omega)))))))
  ·refine au ?_;obtain rfl:i=2:=by omega
   refine au ?_;exact ret2 I I I (.inr ⟨e1,le,b15,_,I,⟨ao,cap,I,x⟩,I⟩)
theorem valueSC{w0:World}{K s:PH}{hs:List PH}(sb b area:Nat)(S:Slt)(hS:SltH K sb b area S s)(hb:S.bd):
  Ct Tryz.prog w0 104 [.pointer (some ⟨sb,0,none⟩)] K (s::hs)
   (fun v K' hs'=>∃ h',hs'=h'::hs/\h'=s/\Le K K'/\∃ ao c,v=.slice ao S.val.length c/\IsS K' ao S.val.length c 1 (bv S.val)):=by
 obtain ⟨ao,cap,rfl,x⟩:=hS;refine entA Tryz.func104 ?_;refine cl 0 I (cloneB ao cap S.val (.inl I) x (by have:=hb.2;omega)) ?_;rintro v7 K7 hs7 ⟨rfl,h',ao',c',rfl,rfl,o⟩;exact fin 1 I (th (rt (WQ.frz fun K' l1 l2=>ret1 I I ⟨_,I,I,l1,ao',c',I,o.isS.le l2⟩)))
theorem numberSC{w0:World}{K s:PH}{hs:List PH}(sb b area:Nat)(S:Slt)(hS:SltH K sb b area S s):
  Ct Tryz.prog w0 102 [.pointer (some ⟨sb,0,none⟩)] K (s::hs)
   (fun v K' hs'=>K'=K/\hs'=s::hs/\v=.int .u64 S.num):=by
 obtain ⟨ao,cap,rfl,x⟩:=hS;refine entA Tryz.func102 ?_;exact ret1 I I ⟨I,I,I⟩
theorem saveSC{w0:World}{K s h hv:PH}{hs:List PH}(sb b area:Nat)(S:Slt)(hS:SltH K sb b area S s)(hbd:S.bd)(D:Dk)(c:Nat)(o:D.Ok c)(hc:c<=1099511626)(hm:DskH K b D h)(ha:area<=18446744073709551615)
  (v:List UInt8) (ao:Option Addr) (cap:Nat) (hl:v.length<1099511627776) (hin:In K hs hv) (x:IsS hv ao v.length cap 1 (bv v)):
  Ct Tryz.prog w0 194 [.pointer (some ⟨sb,0,none⟩),.slice ao v.length cap] K (s::h::hs)
   (fun u K' hs'=>Le K K'/\∃ s' h',hs'=s'::h'::hs/\SltH K' sb b area (S.save area D v).1 s'/\DskH K' b (S.save area D v).2.1 h'/\u=.int .i64 (S.save area D v).2.2):=by
 obtain ⟨aS,cS,rfl,xS⟩:=hS;obtain ⟨hb1,hb2⟩:=hbd;refine entA Tryz.func194 ?_;refine cmpS 2 I fun b9 h9=>?_
 refine' bjo 1 6 16 [9,10] h9 I I I I I I I (fun _=>?x2) (fun b16 h16=>?_)
 case x2=>
  refine au ?_;exact cmpS 0 I fun b15 h15=>fin 1 I (bjx h15 I I I)
 refine fin 0 I<|th (ifP h16 I (fun e4=>?_) (fun e4=>?_))
 ·have e:S.save area D v=(S,D,40):=by unfold Slt.save;rw[if_pos qo]
  rw[e];refine au ?_;exact ret1 I I ⟨Le.refl _,_,_,I,⟨aS,cS,I,xS⟩,hm,I⟩
 ·have hvl:v.length<=48:=by omega
  have e:S.save area D v=if (D.write area (((S.num+1) % 2:Nat):Int) (sect (S.num+1) v)).2=0 then
    (if ((D.write area (((S.num+1) % 2:Nat):Int) (sect (S.num+1) v)).1.sync area).2=0 then ⟨S.num+1,v⟩ else S,((D.write area (((S.num+1) % 2:Nat):Int) (sect (S.num+1) v)).1.sync area).1,((D.write area (((S.num+1) % 2:Nat):Int) (sect (S.num+1) v)).1.sync area).2)
   else (S,(D.write area (((S.num+1) % 2:Nat):Int) (sect (S.num+1) v)).1,(D.write area (((S.num+1) % 2:Nat):Int) (sect (S.num+1) v)).2):=by unfold Slt.save;rw[if_neg qo]
  rw[e];refine au ?_;refine ar 0 I (u64w (x:=((S.num+1:Nat):Int)) qo) (cl 1 I (sectorC (S.num+1) v ao cap hvl (In.cons (In.cons hin)) x) ?_);rintro v23 K23 hs23 ⟨rfl,rfl,rfl⟩;have hsl:(sect (S.num+1) v).length=64:=sect_length hvl;have hss:(bv (sect (S.num+1) v)).toArray.size=64:=by simp[bv,hsl]
  refine al 0 (.agg (bv (List.replicate 64 0)).toArray) I qk fun b5=>?_;refine stS 0 0 I I (by rw[hss];kernel_rfl) (by rw[hss];rfl) (by simp only[Array.all_toList,List.all_eq_true];first|exact bv_one _|(simp;intro u hu;exact bv_one _ u hu)) ?_
  have xR:IsS (pt b5 (bv (sect (S.num+1) v)).toArray 245) (some ⟨b5,0,none⟩) (sect (S.num+1) v).length 64 1 (bv (sect (S.num+1) v)):=by
   have:=bA_isS (g:=b5) (ty:=245) (A:=[]) (B:=sect (S.num+1) v) (C:=[]) (off:=0) (n:=(sect (S.num+1) v).length) (cap:=64) rfl rfl qo;simpa using this
  refine au ?_;refine rgm [1] 18 [0,2,4,6,8,10,12,14,16,18,20,22,24,26,28,30,33,34] ?_;refine au ?_;refine dar qk 0 I (u64w (x:=((S.num+1:Nat):Int)) qo) (dar qk 0 I (u_rem .u64 (S.num+1) 2) (dar qk 0 I (i64w (x:=(((S.num+1) % 2:Nat):Int)) qo) (dsla qk 0 (sz:=1) 0 64 I I Tryz.underlying245 qk I I (Nat.le_refl _) (by decide) ?_)));simp only[add_mk,Nat.zero_mul,Nat.add_zero,Nat.sub_zero];refine au ?_;have hw:=writeH (w0:=w0) (K:=K23) (h:=h) (hs:=[pt b5 (bv (sect (S.num+1) v)).toArray 245,pt sb (sltA b area S aS cS) 178]++hs) b D c o qo hm area (((S.num+1) % 2:Nat):Int) qo (some ⟨b5,0,none⟩) 64 (sect (S.num+1) v) (.inr ⟨0,rfl⟩) xR;rw[hsl] at hw;obtain ⟨W,hW⟩:∃ W,W=D.write area (((S.num+1) % 2:Nat):Int) (sect (S.num+1) v):=⟨_,rfl⟩;have oW:W.1.Ok (c+1):=by rw[hW];exact o.write _ _ _
  rw[<-hW] at hw ⊢;refine cl 0 I (Ct.at 2 I hw) ?_;rintro v40 K40 hs40 ⟨h',rfl,le,hm',rfl⟩;refine dnxL (by simp) le (au ?_);refine cmp 1 I (fun e6=>?_) (fun e6=>?_)
  ·refine au ?_;rw[if_pos e6];refine rgm [1] 10 [0,2,4,6,8,10,12,14,17,18] ?_;refine au ?_;refine cl 0 I (Ct.at 2 I (syncH b W.1 (c+1) oW qo hm' area)) ?_;rintro v51 K51 hs51 ⟨h2,rfl,rfl,hm2,rfl⟩;refine dnx (by simp) I (dend qk 1 I (th (sq (sq (rg (cmpS 1 I fun b53 h53=>fin 0 I (th (ifP h53 I (fun e8=>?_) (fun e8=>?_)))))))))
   ·rw[if_pos e8];refine au ?_;refine ar 0 I (u64w (x:=((S.num+1:Nat):Int)) qo) (au ?_);obtain ⟨hv',hin',lev⟩:=hin.le le;refine cl 2 I (cloneB ao cap v (In.cons (In.cons (In.cons hin'))) (x.le lev) qo) ?_;rintro v63 K63 hs63 ⟨rfl,g,ao',c',rfl,rfl,og⟩;refine stp 2 2 I I I I (fin 0 I (th (sq (rg (fin 2 I (th (rt (WQ.frz fun K' l1 l2=>WQ.drop ?_))))))));exact ret1 I I ⟨le.trans l1,_,_,I,⟨ao',c',I,og.isS.le l2⟩,hm2.le l1,by rw[e8]⟩
   ·rw[if_neg e8];exact sk (th (sq (rg (fin 2 I (th (rt (WQ.drop (ret1 I I ⟨le,_,_,I,⟨aS,cS,I,xS.le le⟩,hm2,I⟩))))))))
  ·refine au ?_;rw[if_neg e6];refine au ?_;exact cmpS 1 I fun b53 h53=>fin 0 I (th (ifPF h53 e6 I (sk (th (sq (rg (fin 2 I (th (rt (WQ.drop (ret1 I I ⟨le,_,_,I,⟨aS,cS,I,xS.le le⟩,hm',I⟩)))))))))))
end
section
theorem Ct.bun2{P:Program}{w0:World}{f:FuncId}{args:List Value}{K:PH}{m hs:List PH}{R R':Value->PH->List PH->Prop}(d:Djs m)(c:Ct P w0 f args K (m++hs) R)
  (h:∀ v K' hs',R v K' hs'->∃ m' t',hs'=m'++t'/\(Djs m'->R' v K' (uns m'::t'))):Ct P w0 f args K (uns m::hs) R':=
 ⟨c.1,fun w hw=>(c.2 w (hw.split d)).mono fun e w' he=>by
  obtain ⟨v,K',hs',rfl,hR,hS⟩:=he;obtain ⟨m',t',rfl,h2⟩:=h v K' hs' hR;obtain ⟨d',hS'⟩:=Sat.join m' hS;exact ⟨v,K',_,I,h2 d',hS'⟩⟩
def recR(K:PH)(c:List Value)(r:List UInt8):Prop:=∃ ao k,c=[.slice ao r.length k]/\IsS K ao r.length k 1 (bv r)
theorem recR.le{K K':PH}(l:Le K K'){c:List Value}{r:List UInt8}(h:recR K c r):recR K' c r:=let ⟨a,k,h1,h2⟩:=h;⟨a,k,h1,h2.le l⟩
def segR(c:List Value)(s:Nat×Nat):Prop:=c=[.int .u64 s.1,.int .u64 s.2]
def wlA(db:Nat)(ob:Option Nat)(first:Nat)(lv ov:Value)(next:Nat)(code:Int):Array Value:=
 #[.pointer (ob.map fun b=>⟨b,0,none⟩),.pointer (some ⟨db,0,none⟩),.int .u64 (first:Nat),lv,ov,.int .u64 (next:Nat),.int .i64 code]
def wopA(o:WOp)(aR:Option Addr)(cR:Nat):Array Value:=#[.int .u64 o.num,.int .u64 o.idx,.int .i64 o.full,.slice aR o.rest.length cR]
theorem ownz_of{h:PH}{ao:Option Addr}{n n' cap e size:Nat}{xs ys:List Value}(o:OwnZ h ao n cap e size xs)(h1:n=n')(h2:xs=ys):OwnZ h ao n' cap e size ys:=by subst h1;subst h2;exact o
theorem wrL_step(f:Nat)(o:WOp)(D:Dk):wrL (f+1) o D =
  if (D.write (segA o.num) o.full (UInt8.ofNat (min o.rest.length 63)::o.rest.take (min o.rest.length 63))).2≠0\/o.rest.length<63 then
   (o,(D.write (segA o.num) o.full (UInt8.ofNat (min o.rest.length 63)::o.rest.take (min o.rest.length 63))).1,(D.write (segA o.num) o.full (UInt8.ofNat (min o.rest.length 63)::o.rest.take (min o.rest.length 63))).2)
  else if o.rest.length=63 then ({ o with full:=o.full+1,rest:=[] },(D.write (segA o.num) o.full (UInt8.ofNat (min o.rest.length 63)::o.rest.take (min o.rest.length 63))).1,0)
  else wrL f { o with full:=o.full+1,rest:=o.rest.drop 63 } (D.write (segA o.num) o.full (UInt8.ofNat (min o.rest.length 63)::o.rest.take (min o.rest.length 63))).1:=rfl
attribute [local irreducible] Code.wp wpList Calls
def OpH(ob:Option Nat)(op:Option WOp)(oH rH:PH):Prop:=match op with
 | none=>ob=none/\oH=em/\rH=em
 | some o=>∃ b aR cR,ob=some b/\oH=pt b (wopA o aR cR) 293/\OwnZ rH aR o.rest.length cR 5 1 (bv o.rest)
def WalM(K:PH)(wb db:Nat)(W:Wl)(m:List PH):Prop:=
 ∃ ob aL cL aO cO oH rH gL gO,m=[pt wb (wlA db ob W.first (.slice aL W.recs.length cL) (.slice aO W.old.length cO) W.next W.code) 192,oH,rH,gL,gO]/\OpH ob W.op oH rH /\
  SlZ 1 32 (recR K) gL aL W.recs.length cL W.recs/\SlZ 2 197 segR gO aO W.old.length cO W.old
theorem WalM.le{K K':PH}(l:Le K K'){wb db:Nat}{W:Wl}{m:List PH}(h:WalM K wb db W m):WalM K' wb db W m:=by
 obtain ⟨ob,aL,cL,aO,cO,oH,rH,gL,gO,h1,h2,h3,h4⟩:=h;exact ⟨ob,aL,cL,aO,cO,oH,rH,gL,gO,h1,h2,h3.imp fun _ _ h=>h.le l,h4⟩
theorem areaC{w0:World}{K:PH}{hs:List PH}(n:Nat)(hn:n<=2305843009213693952):Ct Tryz.prog w0 174 [.int .u64 (n:Nat)] K hs (fun v K' hs'=>K'=K/\hs'=hs/\v=.int .u64 (segA n)):=by
 refine entA Tryz.func174 ?_;refine ar 1 I (u64w (x:=((4*n:Nat):Int)) qo) (ar 0 I (u64w (x:=((4*n+1:Nat):Int)) qo) (au ?_));exact ret1 I I ⟨I,I,I⟩
theorem didC{w0:World}{K:PH}{hs:List PH}(wb db:Nat)(ob:Option Nat)(first:Nat)(lv ov:Value)(next:Nat)(code e:Int):
  Ct Tryz.prog w0 211 [.pointer (some ⟨wb,0,none⟩),.int .i64 e] K (pt wb (wlA db ob first lv ov next code) 192::hs)
   (fun v K' hs'=>∃ h',hs'=h'::hs/\K'=K/\h'=pt wb (wlA db ob first lv ov next (if code=0 then e else code)) 192/\v=.int .i64 (if code=0 then e else code)):=by
 refine entA Tryz.func211 ?_;refine cmp 0 I (fun e2=>?_) (fun e2=>?_)
 ·refine au ?_;rw[if_pos e2];refine au ?_;exact ret1 I I ⟨_,I,I,I,I⟩
 ·refine au ?_;rw[if_neg e2];refine au ?_;exact ret1 I I ⟨_,I,I,I,I⟩
theorem writeWC{w0:World}{K hv rH gL gO dh:PH}{hs:List PH}(wb db ob:Nat)(first:Nat)(lv ov:Value)(next:Nat)(o:WOp)(aR:Option Addr)(cR:Nat)(oR:OwnZ rH aR o.rest.length cR 5 1 (bv o.rest))(hrl:o.rest.length<=63)
  (D:Dk) (c:Nat) (oD:D.Ok c) (hc:c<=1099510000) (hd:DskH K db D dh) (hnum:o.num<=2305843009213693952) (hfull:o.full<=1099511627776) (ab:Option Addr) (cb:Nat) (b:List UInt8) (hb:0<b.length/\b.length<=600) (hin:In K hs hv) (x:IsS hv ab b.length cb 1 (bv b)):
  Ct Tryz.prog w0 247 [.pointer (some ⟨wb,0,none⟩),.slice ab b.length cb] K (pt wb (wlA db (some ob) first lv ov next 0) 192::pt ob (wopA o aR cR) 293::rH::gL::gO::dh::hs)
   (fun v K' hs'=>Le K K'/\∃ aR' cR' rH' dh',hs'=pt wb (wlA db (some ob) first lv ov next (wrO o b D).2.2) 192::pt ob (wopA (wrO o b D).1 aR' cR') 293::rH'::gL::gO::dh'::hs /\
    OwnZ rH' aR' (wrO o b D).1.rest.length cR' 5 1 (bv (wrO o b D).1.rest)/\DskH K' db (wrO o b D).2.1 dh'/\v=.int .i64 (wrO o b D).2.2):=by
 refine entA Tryz.func247 ?_;refine rgm [0,1] 15 [0,2,4,6,8,10,12,14,16,18,20,22,25,26,28,31] ?_;refine au ?_;refine appq 0 2 I I oR (In.cons (In.cons (In.cons (In.cons (In.cons (In.cons hin)))))) x I (by decide) (bv_one b) hb.1 (by grind) (by simp only[maxLen];omega) fun ao19 c19 g19 o19=>dnx (by simp) rfl (dact qk 2 rfl (stp 0 1 rfl rfl rfl rfl (dnext (.inl qk) (dend qk 0 rfl (th (bk ?_))))));obtain ⟨F,hF⟩:∃ F,F=o.rest.length+b.length+1:=⟨_,rfl⟩
 refine loop (σ:=(Nat×WOp×Dk)×(Option Addr×Nat×PH×PH)×PH) (fun _=>[(0,.pointer (some ⟨wb,0,none⟩))]) (fun s=>s.2.2) (fun s=>pt wb (wlA db (some ob) first lv ov next 0) 192::pt ob (wopA s.1.2.1 s.2.1.1 s.2.1.2.1) 293::s.2.1.2.2.1::gL::gO::s.2.1.2.2.2::hs)
  (fun s=>wrL s.1.1 s.1.2.1 s.1.2.2=wrO o b D/\s.1.2.1.rest.length<s.1.1/\s.1.1<=F/\s.1.2.2.Ok (c+(F-s.1.1))/\s.1.2.1.full+s.1.1<=o.full+F/\s.1.2.1.num=o.num/\Le K s.2.2/\DskH s.2.2 db s.1.2.2 s.2.1.2.2.2/\OwnZ s.2.1.2.2.1 s.2.1.1 s.1.2.1.rest.length s.2.1.2.1 5 1 (bv s.1.2.1.rest)) (fun s=>s.1.1)
  ((F,{ o with rest:=o.rest++b },D),(ao19,c19,g19,dh),K) ⟨by dsimp only;unfold wrO;rw[hF],by dsimp only;simp;omega,Nat.le_refl _,by dsimp only;exact oD.up qo,by simp,I,Le.refl _,hd,.inl (by
   simp_all [bv_append])⟩ ⟨rfl,trivial⟩ rfl (by simp[wopA]) ?_
 rintro ⟨⟨f,q,E⟩,⟨aQ,cQ,rQ,eh⟩,K1⟩ ⟨hw,hlf,hfF,oE,hfu,hqn,le,hE,oQ⟩;dsimp only at *;obtain ⟨f,rfl⟩:∃ g,f=g+1:=⟨f-1,by omega⟩;rw[wrL_step] at hw;have hcQ:=oQ.caps;obtain ⟨n,hn⟩:∃ n,n=min q.rest.length 63:=⟨_,rfl⟩;obtain ⟨s,hs1⟩:∃ s,s=UInt8.ofNat n::q.rest.take n:=⟨_,rfl⟩;have hsl:s.length=1+n:=by rw[hs1];simp;omega
 rw[<-hn,<-hs1] at hw;refine bk (sq (rg (ldp 3 0 I I I (ldp 2 1 I I I ?_))))
 refine ar 1 I (v':=.int .i64 (n:Nat)) (by
  congr 1
  omega) ?_
 refine au ?_;refine ar 1 I (u8w (x:=((n:Nat):Int)) qo) (lit 0 #[.int .u8 (n:Nat)] I (by decide) qk fun b33=>au ?_)
 refine sl 1 0 n I oQ.isS I (by simp) qo (ys:=bv (q.rest.take n)) (by
  simp[bv]) fun ao42 c42 x42=>?_
 have o33:Own (pt b33 #[Value.int .u8 (n:Nat)] 5) (some ⟨b33,0,none⟩) 1 1 5 1 (bv [UInt8.ofNat n]):=own_byte b33 n qo;refine app 0 0 I I o33 (.inr ⟨3,I⟩) x42 I (by decide) (bv_one _) (by show (1+n)*1<=_;omega) (by simp only[maxLen];omega) fun ao43 c43 g43 o43=>?_
 have x43:IsS g43 ao43 s.length c43 1 (bv s):=by
  rw[hsl,hs1];exact o43.isS
 obtain ⟨R,hR⟩:∃ R,R=E.write (segA q.num) q.full s:=⟨_,rfl⟩;have oR':R.1.Ok (c+(F-(f+1))+1):=by rw[hR];exact oE.write _ _ _
 rw[<-hR] at hw;refine au ?_;refine rgm [1,2] 23 [0,2,4,6,8,10,12,14,16,18,20,22,24,28,30,32,34,36,38,40,42,27,45,47,48,50,52,54,56] ?_;refine dldtp [22] qk 4 0 I qk I I (dldtp [22,13,12,11,10,9] qk 3 0 I qk I I (dldtp [22,13] qk 3 1 I qk I I (dldtp [22,20,19,18] qk 3 0 I qk I I (dldtp [22] qk 2 1 I qk I I (dact qk 1 I (cl 0 I (areaC q.num qo) ?_))))));rintro v57 K57 hs57 ⟨rfl,rfl,rfl⟩;refine dnx (by simp) I (dact qk 0 I ?_);have hwr:=writeH (w0:=w0) (K:=K57) (h:=eh) (hs:=[g43,pt wb (wlA db (some ob) first lv ov next 0) 192,pt ob (wopA q aQ cQ) 293,rQ,gL,gO]++hs) db E (c+(F-(f+1))) oE qo hE (segA q.num) ((q.full:Nat):Int) (by unfold segA;omega) ao43 c43 s (.inr ⟨0,rfl⟩) x43;rw[hsl,<-hR] at hwr;refine cl 0 I (Ct.at 6 I hwr) ?_
 rintro v66 K66 hs66 ⟨eh',rfl,le2,hE',rfl⟩;refine dnxL (by simp) le2 (au ?_);refine cl 0 I (Ct.at 1 I (didC wb db (some ob) first lv ov next 0 R.2)) ?_;rintro v67 K67 hs67 ⟨_,rfl,rfl,rfl,rfl⟩;rw[if_pos rfl];refine au ?_;refine dcmp qk 0 (R.2≠0) I (by simp) (fun h1=>?_) (fun h1=>?_)
 ·rw[if_pos (.inl h1)] at hw;refine dend qk 4 I (th (ifT I (sq (rg (ldp 3 1 I I I (fin 1 I (th (rt (rT (rB (rT (rB (WQ.drop ?_)))))))))))));rw[<-hw];exact ret1 I I ⟨le.trans le2,aQ,cQ,rQ,eh',I,oQ,hE',I⟩
 ·have h1:R.2=0:=Decidable.not_not.1 h1;refine dcbS qk 2 (((n:Nat):Int)<63) I (by simp) fun b71 h71=>au ?_;refine ifP h71 I (fun e2=>?_) (fun e2=>?_)
  ·rw[if_pos (.inr qo)] at hw;refine sq (rg (ldp 3 1 I I I (fin 1 I (th (rt (rT (rB (rT (rB (WQ.drop ?_))))))))));rw[<-hw];exact ret1 I I ⟨le.trans le2,aQ,cQ,rQ,eh',I,oQ,hE',I⟩
  ·have hn63:n=63:=by omega
   rw[if_neg qo] at hw;rw[h1];refine au ?_;refine ar 0 I (i64w (x:=((q.full+1:Nat):Int)) qo) (au ?_);refine rgm [1,2] 15 [0,2,4,6,8,10,12,14,16,18,20,22,24,26,28,31] ?_;refine au ?_;refine dslx qk 1 63 (q.rest.length-63) I I (by show ((n:Nat):Int)=_;omega) (by grind) qo (dact qk 2 rfl (stp 0 2 rfl rfl rfl rfl (dnext (.inl qk) ?_)))
   obtain ⟨rQ2,hrQ2,oQ2⟩:=oQ.cut 63 (q.rest.length-63) qo (ys:=bv (q.rest.drop 63)) (by
    simp[List.take_of_length_le,bv])
   refine dend qk 0 I<|th (sq<|WC.loss 3 rQ2 I hrQ2 (rg<|ldp 3 1 I I I (ldp 2 2 I I I (cmpS 1 I fun b110 h110=>fin 0 I<|th (ifP h110 I (fun e4=>?_) (fun e4=>?_))))))
   ·rw[if_pos qo] at hw;refine sq (rg (ldp 3 1 I I I (fin 1 I (th (rt (rB (rT (rB (WQ.drop ?_)))))))));rw[<-hw];refine ret1 I I ⟨le.trans le2,cutA aQ cQ 63 1,cQ-63,rQ2,eh',?_,ownz_of oQ2 (show q.rest.length-63=0 by omega) (by rw[List.drop_of_length_le qo]),hE',I⟩;show [_,_,_,_,_,_]++hs=[_,_,_,_,_,_]++hs
    grind [wopA]
   ·rw[if_neg qo] at hw;refine sk (bl (WQ.drop (again (x:=((f+1,q,E),(aQ,cQ,rQ,eh),K57)) ((f,{ q with full:=q.full+1,rest:=q.rest.drop 63 },R.1),(cutA aQ cQ 63 1,cQ-63,rQ2,eh'),K67) ⟨I,trivial⟩ I ?_ ⟨hw,?_,by dsimp only;omega,by dsimp only;exact oR'.up qo,by dsimp only;omega,hqn,le.trans le2,hE',?_⟩ (by simp))))
    ·simp[wopA]
    all_goals grind
end
section
theorem Sat.del{w0 w:World}{K:PH}{hs:List PH}(s:Sat w0 w K hs)(i:Nat){h:PH}(hi:hs[i]?=some h):Sat w0 w K (hs.eraseIdx i):=(s.perm (perm_front hs i h hi)).dropHead
theorem WC.del{P:Program}{w0:World}{Q:Exit->Act->World->Prop}{n:Nat}{l:Sl}{K:PH}{hs:List PH}{c:Code}(i:Nat){h:PH}(hi:hs[i]?=some h)(hk:WC P w0 c Q n l K (hs.eraseIdx i)):WC P w0 c Q n l K hs:=fun a w ha hw=>hk a w ha (hw.del i hi)
theorem WQ.del{w0:World}{Q:Exit->Act->World->Prop}{e:Exit}{n:Nat}{l:Sl}{K:PH}{hs:List PH}(i:Nat){h:PH}(hi:hs[i]?=some h)(hk:WQ w0 Q e n l K (hs.eraseIdx i)):WQ w0 Q e n l K hs:=fun a w ha hw=>hk a w ha (hw.del i hi)
theorem WL.del{P:Program}{w0:World}{ops:Array Oper}{Q:Exit->Act->World->Prop}{rest:List Oper}{n:Nat}{l:Sl}{K:PH}{hs:List PH}(i:Nat){h:PH}(hi:hs[i]?=some h)(hk:WL P w0 ops Q rest n l K (hs.eraseIdx i)):WL P w0 ops Q rest n l K hs:=fun a w ha hw=>hk a w ha (hw.del i hi)
structure WBd (c:Nat) (W:Wl):Prop where
 last:W.first+W.recs.length<=wTop
 recs:W.recs.length<=70000000000+c
 old:W.old.length<=c
 next:W.next<=wMany+c
 op:∀ o,W.op=some o->o.num<=wMany+c/\o.full<=c
 rest:∀ o,W.op=some o->W.code=0->o.rest.length<=62
 olds:∀ s∈W.old,s.1<=wMany+c/\s.2<=wTop
 recl:∀ r∈W.recs,r.length<=512
theorem WBd.up{c d:Nat}{W:Wl}(o:WBd c W)(h:c<=d):WBd d W:=
 ⟨o.last,by have:=o.recs;omega,by have:=o.old;omega,by have:=o.next;omega,fun q hq=>by have:=o.op q hq;omega,o.rest,fun s hs=>by have:=o.olds s hs;omega,o.recl⟩
def lastV(n:Nat):Int:=if n=0 then 18446744073709551615 else ((n:Nat):Int)-1
theorem u64last(n:Nat)(h:n<18446744073709551616):Value.int .u64 (IntKind.u64.wrap (((n:Nat):Int)-1))=.int .u64 (lastV n):=by
 unfold lastV
 split
 ·rename_i e;subst e;rfl
 ·exact u64w qo
theorem u64back(n:Nat)(h:n<18446744073709551616):Value.int .u64 (IntKind.u64.wrap (lastV n+1))=.int .u64 (n:Nat):=by
 unfold lastV
 split
 ·rename_i e;subst e;rfl
 ·rw[Int.sub_add_cancel];exact u64w qo
theorem SlZ.get{α:Type}{R:List Value->α->Prop}{e:Nat}{h:PH}{ao:Option Addr}{n cap:Nat}{xs:List α}(x:SlZ 1 e R h ao n cap xs){i:Nat}{y:α}(hy:xs[i]?=some y):∃ v,R [v] y/\∃ g off cur,ao=some ⟨g,off,none⟩/\h=pt g cur e/\cur[off+i]?=some v:=by
 obtain ⟨css,h1,h2,h3,h4⟩:=x;obtain ⟨c,hc,hR⟩:=h3.get hy;have hl:=h4 c (List.mem_of_getElem? hc)
 obtain ⟨v,rfl⟩:∃ v,c=[v]:=by
  match c,hl with
  | [v],_=>simp
 have hi:i<n:=by grind
 refine ⟨v,hR,?_⟩;have hf:=flat_get h4 hc 0 v rfl;rcases h2 with ⟨g1,g2,g3,⟨g4,g5,g6⟩|⟨g,off,cur,g4,g5,g6,g7⟩⟩|⟨rfl,_⟩
 all_goals grind
attribute [local irreducible] Code.wp wpList Calls
theorem firstWC{w0:World}{K:PH}{m hs:List PH}(wb db:Nat)(W:Wl)(hW:WalM K wb db W m):Ct Tryz.prog w0 117 [.pointer (some ⟨wb,0,none⟩)] K (m++hs)
  (fun v K' hs'=>K'=K/\hs'=m++hs/\v=.int .u64 W.first):=by
 obtain ⟨ob,aL,cL,aO,cO,oH,rH,gL,gO,rfl,hop,hL,hO⟩:=hW;refine ent Tryz.func117 ?_;exact sq (rg (fin 1 I (th (sq (rg (ldp 3 0 I I I (fin 1 I (th (rt (ret1 I I ⟨I,I,I⟩))))))))))
theorem nextWC{w0:World}{K:PH}{m hs:List PH}(wb db:Nat)(W:Wl)(hW:WalM K wb db W m):Ct Tryz.prog w0 200 [.pointer (some ⟨wb,0,none⟩)] K (m++hs)
  (fun v K' hs'=>K'=K/\hs'=m++hs/\v=.int .u64 W.next):=by
 obtain ⟨ob,aL,cL,aO,cO,oH,rH,gL,gO,rfl,hop,hL,hO⟩:=hW;refine enter Tryz.func200 qk I I I (au ?_);exact ret1 I I ⟨I,I,I⟩
theorem lastWC{w0:World}{K:PH}{m hs:List PH}(wb db:Nat)(W:Wl)(hW:WalM K wb db W m)(hb:W.first+W.recs.length<=wTop):Ct Tryz.prog w0 118 [.pointer (some ⟨wb,0,none⟩)] K (m++hs)
  (fun v K' hs'=>K'=K/\hs'=m++hs/\v=.int .u64 (lastV (W.first+W.recs.length))):=by
 obtain ⟨ob,aL,cL,aO,cO,oH,rH,gL,gO,rfl,hop,hL,hO⟩:=hW;unfold wTop at hb;refine entA Tryz.func118 ?_;refine rga [pt wb (wlA db ob W.first (.slice aL W.recs.length cL) (.slice aO W.old.length cO) W.next W.code) 192] 13 [0,2,4,6,8,10,12,14,16,18,20,22,24] (by simp) qk qk (au ?_);refine dar qk 1 I (u64w (x:=((W.recs.length:Nat):Int)) qo) (dar qk 0 I (u64w (x:=((W.first+W.recs.length:Nat):Int)) qo) (dar qk 0 I (u64last _ qo) (au ?_)));exact ret1 I I ⟨I,I,I⟩
theorem getWC{w0:World}{K:PH}{m hs:List PH}(wb db:Nat)(W:Wl)(c:Nat)(hc:c<=1000000000)(hb:WBd c W)(hW:WalM K wb db W m)(i:Nat)(hi:i<18446744073709551616)(hrl:∀ r∈W.recs,r.length<=512):Ct Tryz.prog w0 119 [.pointer (some ⟨wb,0,none⟩),.int .u64 (i:Nat)] K (m++hs)
  (fun v K' hs'=>Le K K'/\hs'=m++hs/\((¬(W.first<=i/\i-W.first<W.recs.length)/\v=.tuple #[.slice none 0 0,.bool false]) \/
   ∃ r ao k,W.first<=i/\W.recs[i-W.first]?=some r/\v=.tuple #[.slice ao r.length k,.bool true]/\IsS K' ao r.length k 1 (bv r))):=by
 obtain ⟨ob,aL,cL,aO,cO,oH,rH,gL,gO,rfl,hop,hL,hO⟩:=hW;have h1:=hb.last;have h2:=hb.recs;unfold wTop at h1;refine entA Tryz.func119 ?_;refine rga [pt wb (wlA db ob W.first (.slice aL W.recs.length cL) (.slice aO W.old.length cO) W.next W.code) 192] 21 [0,2,4,6,8,10,12,14,16,18,20,22,24,26,28,30,32,34,36,38,40] (by simp) qk qk (au ?_);refine dcmp qk 0 (i<W.first) I (by simp) (fun g1=>?_) (fun g1=>?_)
 ·refine au ?_;exact ret2 I I I ⟨Le.refl _,I,.inl ⟨by omega,I⟩⟩
 ·refine au ?_;refine dar qk 0 I (v':=.int .u64 (i-W.first:Nat)) (by grind [u64w]) (au ?_);refine dar qk 1 I (u64w (x:=((W.recs.length:Nat):Int)) qo) (dcbS qk 0 (W.recs.length<=i-W.first) I (by simp) fun b25 h25=>au ?_);refine ifP h25 I (fun e2=>?_) (fun e2=>?_)
  ·refine au ?_;exact ret2 I I I ⟨Le.refl _,I,.inl ⟨by omega,I⟩⟩
  ·obtain ⟨r,hr⟩:∃ r,W.recs[i-W.first]?=some r:=⟨W.recs[i-W.first]'qo,List.getElem?_eq_getElem qo⟩;obtain ⟨v,⟨ao,k,hv,xr⟩,g,off,cur,rfl,rfl,hcur⟩:=hL.get hr;simp only[List.cons.injEq,and_true] at hv;subst hv;have hrl2:=hrl r (List.mem_of_getElem? hr);refine sk (th (sq (rga [pt wb (wlA db ob W.first (.slice (some ⟨g,off,none⟩) W.recs.length cL) (.slice aO W.old.length cO) W.next W.code) 192,pt g cur 32] 15 [0,2,4,6,8,10,12,14,16,18,20,22,25,26,28] (by simp) qk qk (au ?_))));refine dar qk 0 I (v':=.int .u64 (i-W.first:Nat)) (by grind [u64w]) (dixs qk 0 (i-W.first) I I qo ?_);simp only[add_mk,Nat.mul_one];refine dldp qk 0 1 I I hcur (au ?_);refine cl 0 I (cloneB ao k r (.inl I) xr qo) ?_;rintro v39 K39 hs39 ⟨rfl,h',ao',c',rfl,rfl,o⟩;exact dnx (by simp) I (dend qk 2 I (th (rt (WQ.frz fun K' l1 l2=>ret2 I I I ⟨l1,I,.inr ⟨r,ao',c',by omega,hr,I,o.isS.le l2⟩⟩))))
theorem syncWC{w0:World}{K dh:PH}{m hs:List PH}(wb db:Nat)(W:Wl)(hW:WalM K wb db W m)(D:Dk)(c:Nat)(oD:D.Ok c)(hc:c<=1000000000)(hb:WBd c W)(hd:DskH K db D dh):
  Ct Tryz.prog w0 198 [.pointer (some ⟨wb,0,none⟩)] K (m++dh::hs)
   (fun v K' hs'=>K'=K/\∃ m' dh',hs'=m'++dh'::hs/\WalM K wb db (W.sync D).1 m'/\DskH K db (W.sync D).2 dh'/\v=.int .i64 (W.sync D).1.code):=by
 obtain ⟨ob,aL,cL,aO,cO,oH,rH,gL,gO,rfl,hop,hL,hO⟩:=hW;obtain ⟨op,first,recs,old,next,code⟩:=W;dsimp only at *;refine entA Tryz.func198 ?_;refine cmpS 0 I fun b7 h7=>?_
 refine' bjo 1 6 14 [7,8] h7 I I I I I I I (fun _=>?x2) (fun b14 h14=>?_)
 case x2=>
  refine au ?_
  refine cbS 0 (op=none) I (by
   cases op with
   | none=>obtain ⟨rfl,_⟩:=hop;simp
   | some o=>obtain ⟨b,_,_,rfl,_⟩:=hop;simp) fun b13 h13=>?_
  exact fin 1 I<|bjx h13 I I I
 refine fin 0 I<|th (ifP h14 I (fun e4=>?_) (fun e4=>?_))
 ·have e:Wl.sync ⟨op,first,recs,old,next,code⟩ D=(⟨op,first,recs,old,next,code⟩,D):=by
   unfold Wl.sync
   grind
  rw[e];refine au ?_;exact ret1 I I ⟨I,_,_,I,⟨ob,aL,cL,aO,cO,oH,rH,gL,gO,I,hop,hL,hO⟩,hd,I⟩
 ·have hcode:code=0:=by omega
  subst hcode;cases op with
  | none=>exact absurd (.inr rfl) e4
  | some o=>
   obtain ⟨b,aR,cR,rfl,rfl,oR⟩:=hop;have hnum:=(hb.op o rfl).1;unfold wMany at hnum;have e:Wl.sync ⟨some o,first,recs,old,next,0⟩ D=(⟨some o,first,recs,old,next,(D.sync (segA o.num)).2⟩,(D.sync (segA o.num)).1):=rfl;rw[e];refine sk (th (sq (rga [pt wb (wlA db (some b) first (.slice aL recs.length cL) (.slice aO old.length cO) next 0) 192,pt b (wopA o aR cR) 293] 15 [0,2,4,6,8,10,12,14,16,18,20,22,24,27,29,31,32] (by simp) qk qk (dldtp [14] qk 4 0 I qk I I (dldtp [14,13,12,11,10,9] qk 3 0 I qk I I (dldtp [14,13] qk 3 1 I qk I I (dact qk 0 I (cl 0 I (areaC o.num qo) ?_))))))));rintro v32 K32 hs32 ⟨rfl,rfl,rfl⟩;refine dnx (by simp) I (dact qk 0 I (cl 0 I (Ct.at 5 I (syncH db D c oD qo hd (segA o.num))) ?_));rintro v33 K33 hs33 ⟨dh',rfl,rfl,hd',rfl⟩;refine dnx (by simp) I (dact qk 0 I (cl 0 I (didC wb db (some b) first _ _ next 0 _) ?_))
   rintro v34 K34 hs34 ⟨_,rfl,rfl,rfl,rfl⟩;rw[if_pos rfl];refine au ?_;exact ret1 I I ⟨I,_,_,I,⟨some b,aL,cL,aO,cO,_,rH,gL,gO,I,⟨b,aR,cR,I,I,oR⟩,hL,hO⟩,hd',I⟩
theorem beginWC{w0:World}{K dh:PH}{m hs:List PH}(wb db:Nat)(W:Wl)(hW:WalM K wb db W m)(D:Dk)(c:Nat)(oD:D.Ok c)(hc:c<=1000000000)(hb:WBd c W)(hd:DskH K db D dh)(i:Nat)(hi:i<18446744073709551616):
  Ct Tryz.prog w0 209 [.pointer (some ⟨wb,0,none⟩),.int .u64 (i:Nat)] K (m++dh::hs)
   (fun v K' hs'=>Le K K'/\∃ m' dh',hs'=m'++dh'::hs/\WalM K' wb db (W.begin i D).1 m'/\DskH K' db (W.begin i D).2 dh'/\v=.int .i64 (W.begin i D).1.code):=by
 refine entA Tryz.func209 ?_;refine cl 1 I (syncWC wb db W hW D c oD hc hb hd) ?_;rintro v6 K6 hs6 ⟨rfl,m1,dh1,rfl,hW1,hd1,rfl⟩
 have oS:(W.sync D).2.Ok (c+1):=by
  unfold Wl.sync
  split
  ·exact oD.up qo
  ·split
   ·exact oD.up qo
   ·exact oD.sync _
 have hS:(W.sync D).1={ W with code:=(W.sync D).1.code }:=by
  unfold Wl.sync
  split
  ·rfl
  ·split
   all_goals rfl
 refine cmpS 0 I fun b7 h7=>fin 0 I<|th (ifP h7 I (fun e2=>?_) (fun e2=>?_))
 ·have e:W.begin i D=W.sync D:=by unfold Wl.begin;rw[if_pos e2]
  rw[e];obtain ⟨ob,aL,cL,aO,cO,oH,rH,gL,gO,rfl,hop,hL,hO⟩:=hW1;refine au ?_;exact ret1 I I ⟨Le.refl _,_,_,I,⟨ob,aL,cL,aO,cO,oH,rH,gL,gO,I,hop,hL,hO⟩,hd1,I⟩
 ·have e2:(W.sync D).1.code=0:=Decidable.not_not.1 e2
  have e:W.begin i D=({ (W.sync D).1 with op:=some (wrO ⟨W.next,i,0,[]⟩ (uint i) (W.sync D).2).1,next:=W.next+1,old:=W.old++[(W.next,i)],code:=(wrO ⟨W.next,i,0,[]⟩ (uint i) (W.sync D).2).2.2 },(wrO ⟨W.next,i,0,[]⟩ (uint i) (W.sync D).2).2.1):=by
   grind [Wl.begin]
  rw[e];obtain ⟨E,hE⟩:∃ E,E=(W.sync D).2:=⟨_,rfl⟩;rw[hS,e2] at hW1;rw[hS];rw[<-hE] at oS hd1 ⊢;clear hE e hS e2 h7;obtain ⟨op,first,recs,old,next,code⟩:=W;dsimp only at *;obtain ⟨ob,aL,cL,aO,cO,oH,rH,gL,gO,rfl,hop,hL,hO⟩:=hW1;dsimp only at *;have hnx:=hb.next;have hol:=hb.old;unfold wMany at hnx;dsimp only at hnx hol;refine au ?_;refine bd 1 (.agg #[.int .u64 (next:Nat),.int .u64 (i:Nat)]) I (fun w=>by kernel_rfl) (bd 0 (.agg (wopA ⟨next,i,0,[]⟩ none 0)) I (fun w=>by kernel_rfl) (bx 0 I fun b20=>stp 2 1 I I I I (fin 0 I (th (WC.perm (List.Perm.swap _ _ _) (WC.loss 3 em I (.inr I) (WC.del 2 I (sq (rg (au ?_))))))))));refine ar 0 I (u64w (x:=((next+1:Nat):Int)) qo) (au ?_);refine rga [pt wb (wlA db (some b20) first (.slice aL recs.length cL) (.slice aO old.length cO) (next+1) 0) 192,pt b20 (wopA ⟨next,i,0,[]⟩ none 0) 293] 16 [0,2,4,6,8,10,12,14,16,18,20,22,25,27,28,30,33] (by intro h hm;simp at hm;rcases hm with rfl|rfl;exact List.mem_cons_self ..;exact List.mem_cons_of_mem _ (List.mem_cons_self ..)) qk qk (dldpw qk 4 0 I qk I I (dldpw qk 3 0 I qk I I ?_))
  refine dlds qk 2 [.int .u64 (next:Nat),.int .u64 (i:Nat)] I qk qk (.inr ⟨1,I⟩) (cells_pt _ (fun j v hj=>by
   match j,hj with
   | 0,hj=>exact hj
   | 1,hj=>exact hj)) ?_
  refine au ?_;refine lit 0 #[.int .u64 (next:Nat),.int .u64 (i:Nat)] I (by decide) qk fun b42=>dnex [pt wb (wlA db (some b20) first (.slice aL recs.length cL) (.slice aO old.length cO) (next+1) 0) 192,pt b20 (wopA ⟨next,i,0,[]⟩ none 0) 293] (by intro h hm;simp at hm;rcases hm with rfl|rfl;exact List.mem_cons_of_mem _ (List.mem_cons_self ..);exact List.mem_cons_of_mem _ (List.mem_cons_of_mem _ (List.mem_cons_self ..))) (by simp) I (au ?_);refine appSq 0 5 [.int .u64 (next:Nat),.int .u64 (i:Nat)] (next,i) I I I hO I I (by simp[Value.oneCell']) I (by decide) (by show (old.length+1)*16<=_;omega) (by simp only[maxLen];omega) fun ao43 c43 g43 o43=>dnex [pt wb (wlA db (some b20) first (.slice aL recs.length cL) (.slice aO old.length cO) (next+1) 0) 192,pt b20 (wopA ⟨next,i,0,[]⟩ none 0) 293] (by intro h hm;simp at hm;rcases hm with rfl|rfl;exact List.mem_cons_of_mem _ (List.mem_cons_self ..);exact List.mem_cons_of_mem _ (List.mem_cons_of_mem _ (List.mem_cons_self ..))) (by simp) I (dact qk 2 I (stp 0 1 I I I I (dnext (.inl qk) (dend qk 0 I (th (WC.drop (sq (rg (WL.em ?_)))))))))
  have hul:=uint_le10 (n:=i) hi;have hu0:0<(uint i).length:=by rw[uint];split <;> simp
  refine cl 2 I (putUint none 0 [] i (Own.nil _ _) hi (by decide)) ?_;rintro v48 K48 hs48 ⟨hu,rfl,rfl,ao',c',rfl,ou⟩;rw[List.nil_append] at ou;refine WL.frz fun K1 l1 l2=>cl 0 I (writeWC wb db b20 first _ _ (next+1) ⟨next,i,0,[]⟩ none 0 (OwnZ.nil _ _) (by simp) E (c+1) oS qo (hd1.le l1) (by dsimp only;omega) (by simp) ao' c' (uint i) ⟨hu0,by omega⟩ (.inl rfl) (ou.isS.le l2)) ?_;rintro v49 K49 hs49 ⟨le,aR,cR,rH',dh',rfl,oR,hd',rfl⟩;refine au ?_;refine ret1 I I ⟨l1.trans le,[_,_,_,_,_],dh',I,⟨some b20,aL,cL,ao43,c43,_,rH',gL,g43,?_,⟨b20,aR,cR,I,I,oR⟩,hL.imp fun _ _ h=>h.le (l1.trans le),?_⟩,hd',I⟩
  all_goals simp_all
end
section
theorem uint_pos(n:Nat):0<(uint n).length:=by rw[uint];split <;> simp
theorem segA_bd{n:Nat}(h:n<=2305843009213693952):0<=segA n/\segA n<=18446744073709551615:=by unfold segA;omega
theorem DOk.wrL:∀ (f:Nat) (o:WOp) (D:Dk) (c:Nat),DOk c D->o.num<=2305843009213693952->DOk (c+(o.rest.length / 63+1)) (wrL f o D).2.1
 | 0,o,D,c,h,_=>h.up qo
 | f+1,o,D,c,h,hn=>by
  have hw:=h.write (segA o.num) o.full (UInt8.ofNat (min o.rest.length 63)::o.rest.take (min o.rest.length 63)) (segA_bd hn);rw[wrL_step]
  split
  ·exact hw.up qo
  ·split
   ·exact hw.up qo
   ·rename_i h1 h2;refine (DOk.wrL f _ _ _ hw (by exact hn)).up ?_;dsimp only;rw[List.length_drop];omega
theorem wrL_num:∀ (f:Nat) (o:WOp) (D:Dk),(wrL f o D).1.num=o.num/\(wrL f o D).1.idx=o.idx/\(wrL f o D).1.full<=o.full+o.rest.length / 63
 | 0,o,D=>⟨rfl,rfl,Nat.le_add_right _ _⟩
 | f+1,o,D=>by
  rw[wrL_step]
  split
  ·simp
  ·split
   ·exact ⟨I,I,by dsimp only;omega⟩
   ·obtain ⟨h1,h2,h3⟩:=wrL_num f { o with full:=o.full+1,rest:=o.rest.drop 63 } (D.write (segA o.num) o.full (UInt8.ofNat (min o.rest.length 63)::o.rest.take (min o.rest.length 63))).1;refine ⟨h1,h2,Nat.le_trans h3 ?_⟩;dsimp only;rw[List.length_drop];omega
theorem wrL_rest:∀ (f:Nat) (o:WOp) (D:Dk),o.rest.length<f->(wrL f o D).2.2=0->(wrL f o D).1.rest.length<=62
 | 0,o,D,h,_=>by omega
 | f+1,o,D,h,he=>by
  rw[wrL_step] at he ⊢
  split
  ·grind
  ·rename_i h1;rw[if_neg h1] at he
   split
   ·simp
   ·rename_i h2;rw[if_neg h2] at he;exact wrL_rest f _ _ (by dsimp only;rw[List.length_drop];omega) he
theorem DOk.wrO{c:Nat}{D:Dk}(h:DOk c D)(o:WOp)(b:List UInt8)(hn:o.num<=2305843009213693952):DOk (c+((o.rest.length+b.length) / 63+1)) (wrO o b D).2.1:=by
 have:=DOk.wrL (o.rest.length+b.length+1) { o with rest:=o.rest++b } D c h hn;dsimp only at this
 rwa [List.length_append] at this
theorem wrO_num(o:WOp)(b:List UInt8)(D:Dk):(wrO o b D).1.num=o.num/\(wrO o b D).1.idx=o.idx/\(wrO o b D).1.full<=o.full+(o.rest.length+b.length) / 63:=by
 have:=wrL_num (o.rest.length+b.length+1) { o with rest:=o.rest++b } D;dsimp only at this
 rwa [List.length_append] at this
theorem wrO_rest(o:WOp)(b:List UInt8)(D:Dk)(h:(wrO o b D).2.2=0):(wrO o b D).1.rest.length<=62:=wrL_rest _ _ _ (by simp) h
theorem Wl.sync_eq(W:Wl)(D:Dk):(W.sync D).1={ W with code:=(W.sync D).1.code }:=by
 unfold Wl.sync
 split
 ·rfl
 ·split <;> rfl
theorem DOk.syncW{c:Nat}{D:Dk}(h:DOk c D)(W:Wl):DOk (c+1) (W.sync D).2:=by
 unfold Wl.sync
 split
 ·exact h.up qo
 ·split
  ·exact h.up qo
  ·exact h.sync _
theorem Wl.sync_code{W:Wl}{D:Dk}(h:(W.sync D).1.code=0):W.code=0:=by
 grind [Wl.sync]
theorem WBd.sync{c:Nat}{W:Wl}(o:WBd c W)(D:Dk):WBd c (W.sync D).1:=by
 rw[Wl.sync_eq];exact ⟨o.last,o.recs,o.old,o.next,o.op,fun q hq hc=>o.rest q hq (Wl.sync_code hc),o.olds,o.recl⟩
theorem DOk.begin{c:Nat}{D:Dk}(h:DOk c D){W:Wl}(o:WBd c W)(i:Nat)(hi:i<18446744073709551616)(hc:c<=1000000000):DOk (c+2) (W.begin i D).2:=by
 have h1:=h.syncW W;have hn:=o.next;unfold wMany at hn;have hu:=uint_le10 hi;unfold Wl.begin
 split
 ·exact h1.up qo
 ·refine (h1.wrO ⟨W.next,i,0,[]⟩ (uint i) (by dsimp only;omega)).up ?_;dsimp only[List.length_nil];omega
theorem WBd.begin{c:Nat}{W:Wl}(o:WBd c W)(i:Nat)(hi:i<=wTop)(D:Dk):WBd (c+1) (W.begin i D).1:=by
 have h1:=o.sync D;unfold Wl.begin
 split
 ·exact h1.up qo
 ·have hn:=wrO_num ⟨W.next,i,0,[]⟩ (uint i) (W.sync D).2;have hu:=uint_le10 (n:=i) (by unfold wTop at hi;omega);dsimp only[List.length_nil] at hn;rw[Wl.sync_eq];refine ⟨o.last,Nat.le_trans o.recs qo,?_,?_,?_,?_,?_,o.recl⟩
  ·have:=o.old;simp_all
  ·have:=o.next;dsimp only;omega
  ·intro q hq;simp only[Option.some.injEq] at hq;rw[<-hq];have:=o.next;omega
  ·simp_all [wrO_rest]
  ·intro s hs;rcases List.mem_append.1 hs with hs|hs
   ·have:=o.olds s hs;omega
   ·simp only[List.mem_singleton] at hs;subst hs;have:=o.next;omega
theorem begin_op{W:Wl}{i:Nat}{D:Dk}(h:(W.begin i D).1.code=0):(W.begin i D).1.op≠none/\(W.begin i D).1.first=W.first/\(W.begin i D).1.recs=W.recs/\(W.sync D).1.code=0:=by
 unfold Wl.begin at h ⊢
 split
 ·simp_all
 ·rename_i h2;rw[Wl.sync_eq]
  simp_all
theorem begin_recs(W:Wl)(i:Nat)(D:Dk):(W.begin i D).1.first=W.first/\(W.begin i D).1.recs=W.recs:=by
 unfold Wl.begin
 split
 ·rw[Wl.sync_eq];simp
 ·rw[Wl.sync_eq];simp
theorem putBytes_le{b:List UInt8}(h:b.length<=512):0<(putBytes b).length/\(putBytes b).length<=522:=by
 grind [uint_pos,uint_le10,putBytes_length]
theorem DOk.lay{c:Nat}{D:Dk}(h:DOk c D){W:Wl}(o:WBd c W)(hc:c<=1000000000)(hw:W.code=0){b:List UInt8}(hb:b.length<=512):DOk (c+10) (wLay W b D).2.1:=by
 unfold wLay;cases hop:W.op with
 | none=>exact h.up qo
 | some q=>
  have hq:=o.op q hop;unfold wMany at hq;have hr:=o.rest q hop hw;have hp:=putBytes_le hb;exact (h.wrO q (putBytes b) qo).up qo
theorem WBd.lay{c:Nat}{W:Wl}(o:WBd c W)(hw:W.code=0)(hl:W.first+W.recs.length<wTop){b:List UInt8}(hb:b.length<=512)(D:Dk):WBd (c+10) (wLay W b D).1:=by
 unfold wLay;cases hop:W.op with
 | none=>exact o.up qo
 | some q=>
  have hq:=o.op q hop;have hr:=o.rest q hop hw;have hp:=putBytes_le hb;have hn:=wrO_num q (putBytes b) D;have h1:=o.recs;have h2:=o.old;have h3:=o.next;have h4:=o.last;refine ⟨?_,?_,by dsimp only;omega,by dsimp only;omega,?_,?_,?_,?_⟩
  ·grind
  ·grind
  ·grind
  ·simp_all [wrO_rest]
  ·intro s hs;have:=o.olds s hs;omega
  ·intro r hr;dsimp only at hr
   split at hr
   ·rcases List.mem_append.1 hr with hr|hr
    ·exact o.recl r hr
    simp_all
   ·exact o.recl r hr
theorem DOk.append{c:Nat}{D:Dk}(h:DOk c D){W:Wl}(o:WBd c W)(hc:c<=999999990)(b:List UInt8):DOk (c+12) (W.append b D).2.1:=by
 have hl:=o.last;unfold Wl.append
 split
 ·exact h.up qo
 ·rename_i hw;have hw:=Decidable.not_not.1 hw
  split
  ·exact h.up qo
  ·split
   ·exact h.up qo
   ·split
    ·have hb:=h.begin o (W.first+W.recs.length) (by unfold wTop at hl;omega) qo
     split
     ·exact hb.up qo
     ·rename_i h2;exact (hb.lay ((o.begin _ hl D).up qo) qo (Decidable.not_not.1 h2) qo).up qo
    ·exact (h.lay o qo hw qo).up qo
theorem WBd.append{c:Nat}{W:Wl}(o:WBd c W)(b:List UInt8)(D:Dk):WBd (c+12) (W.append b D).1:=by
 have hl:=o.last;unfold Wl.append
 split
 ·exact o.up qo
 ·rename_i hw;have hw:=Decidable.not_not.1 hw
  split
  ·exact o.up qo
  ·split
   ·exact o.up qo
   ·split
    ·have hb:=o.begin (W.first+W.recs.length) hl D
     split
     ·exact hb.up qo
     ·rename_i h2;have hr:=begin_recs W (W.first+W.recs.length) D;exact (hb.lay (Decidable.not_not.1 h2) (by rw[hr.1,hr.2];omega) qo _).up qo
    ·exact (o.lay hw qo qo D).up qo
theorem DOk.truncate{c:Nat}{D:Dk}(h:DOk c D){W:Wl}(o:WBd c W)(hc:c<=1000000000)(i:Nat)(hi:i<18446744073709551616):DOk (c+2) (W.truncate i D).2.1:=by
 unfold Wl.truncate
 split
 ·exact h.up qo
 ·split
  ·exact h.up qo
  ·split
   ·exact h.up qo
   ·exact h.begin o i hi hc
theorem WBd.cutR{c:Nat}{W:Wl}(o:WBd c W)(n:Nat):WBd c { W with recs:=W.recs.take n }:=by
 have h1:(W.recs.take n).length<=W.recs.length:=by rw[List.length_take];omega
 exact ⟨by have:=o.last;dsimp only;omega,by have:=o.recs;dsimp only;omega,o.old,o.next,o.op,o.rest,o.olds,fun r hr=>o.recl r (List.mem_of_mem_take hr)⟩
theorem WBd.truncate{c:Nat}{W:Wl}(o:WBd c W)(i:Nat)(D:Dk):WBd (c+1) (W.truncate i D).1:=by
 have hl:=o.last;unfold Wl.truncate
 split
 ·exact o.up qo
 ·split
  ·exact o.up qo
  ·split
   ·exact o.up qo
   ·have hb:=o.begin i qo D;dsimp only
    split
    ·have hr:=begin_recs W i D;rw[<-hr.2];exact hb.cutR _
    ·exact hb
theorem DOk.compact1{c:Nat}{D:Dk}(h:DOk c D){W:Wl}(o:WBd c W)(hc:c<=1000000000)(i:Nat)(hi:i<18446744073709551616):DOk (c+2) (W.compact1 i D).2:=by
 unfold Wl.compact1
 split
 ·exact h.begin o i hi hc
 ·exact h.up qo
theorem WBd.compact1{c:Nat}{W:Wl}(o:WBd c W)(i:Nat)(D:Dk):WBd (c+1) (W.compact1 i D).1:=by
 have hl:=o.last;unfold Wl.compact1
 split
 ·exact o.begin i qo D
 ·exact o.up qo
theorem DOk.compact2{c:Nat}{D:Dk}(h:DOk c D){W:Wl}(o:WBd c W)(hc:c<=1000000000)(i:Nat)(hi:i<18446744073709551616):DOk (c+3) (W.compact2 i D).2:=(h.compact1 o hc i hi).syncW _
theorem WBd.compact2{c:Nat}{W:Wl}(o:WBd c W)(i:Nat)(D:Dk):WBd (c+1) (W.compact2 i D).1:=(o.compact1 i D).sync _
theorem compact2_recs(W:Wl)(i:Nat)(D:Dk):(W.compact2 i D).1.first=W.first/\(W.compact2 i D).1.recs=W.recs:=by
 unfold Wl.compact2;rw[Wl.sync_eq];unfold Wl.compact1
 split
 ·simp[begin_recs]
 simp
theorem DOk.wfree(i:Nat):∀ (f:Nat) (old:List (Nat×Nat)) (D:Dk) (c:Nat),DOk c D->DOk (c+old.length) (wfree i f old D).2.1/\(wfree i f old D).1 <:+ old
 | 0,old,D,c,h=>⟨h.up qo,List.suffix_refl _⟩
 | f+1,old,D,c,h=>by
  have hf:=h.free (segA (old.headD (0,0)).1);unfold Go.En.wfree
  split
  ·rename_i h1
   split
   ·exact ⟨hf.up qo,List.suffix_refl _⟩
   ·obtain ⟨g1,g2⟩:=DOk.wfree i f (old.drop 1) _ _ hf;refine ⟨g1.up (by rw[List.length_drop];omega),g2.trans (List.drop_suffix 1 old)⟩
  ·exact ⟨h.up qo,List.suffix_refl _⟩
theorem DOk.compact{c:Nat}{D:Dk}(h:DOk c D){W:Wl}(o:WBd c W)(hc:c<=1000000000)(i:Nat)(hi:i<18446744073709551616):DOk (c+3+(W.compact2 i D).1.old.length) (W.compact i D).2.1:=by
 have h2:=h.compact2 o hc i hi;have h3:=(DOk.wfree i ((W.compact2 i D).1.old.length+1) (W.compact2 i D).1.old (W.compact2 i D).2 _ h2).1;unfold Wl.compact
 split
 ·exact h.up qo
 ·split
  ·exact h.up qo
  ·split
   ·exact h.up qo
   ·split
    ·exact h2.up qo
    grind
theorem WBd.compact{c:Nat}{W:Wl}(o:WBd c W)(i:Nat)(D:Dk):WBd (c+1) (W.compact i D).1:=by
 have h2:=o.compact2 i D;have hr:=compact2_recs W i D
 have hs:(Go.En.wfree i ((W.compact2 i D).1.old.length+1) (W.compact2 i D).1.old (W.compact2 i D).2).1 <:+ (W.compact2 i D).1.old:=by
  generalize (W.compact2 i D).1.old=old;generalize (W.compact2 i D).2=E;generalize old.length+1=f
  induction f generalizing old E with
  | zero=>exact List.suffix_refl _
  | succ f ih=>
   grind [List.drop_suffix,Go.En.wfree]
 have hl:=o.last;unfold Wl.compact
 split
 ·exact o.up qo
 ·rename_i hcode
  split
  ·exact o.up qo
  ·split
   ·exact o.up qo
   ·split
    ·exact h2
    ·rename_i hc2
     split
     ·rename_i h6;exact ⟨h2.last,h2.recs,Nat.le_trans hs.length_le h2.old,h2.next,h2.op,fun q hq hc=>absurd hc h6,fun s hm=>h2.olds s (hs.subset hm),h2.recl⟩
     ·refine ⟨?_,?_,Nat.le_trans hs.length_le h2.old,h2.next,h2.op,h2.rest,fun s hm=>h2.olds s (hs.subset hm),fun r hm=>o.recl r (List.mem_of_mem_drop hm)⟩
      ·dsimp only;rw[List.length_drop];omega
      ·have:=o.recs;dsimp only;rw[List.length_drop];omega
theorem DOk.wreset:∀ (l:List Int) (D:Dk) (c:Nat),DOk c D->DOk (c+l.length) (wreset l D).1
 | [],D,c,h=>h.up qo
 | a::r,D,c,h=>by
  have hf:=h.free a;unfold Go.En.wreset
  split
  ·split
   ·exact (DOk.wreset r _ _ hf).up (by simp only[List.length_cons];omega)
   ·exact hf.up (by simp only[List.length_cons];omega)
  ·exact (DOk.wreset r _ _ h).up (by simp only[List.length_cons];omega)
theorem DOk.reset{c:Nat}{D:Dk}(h:DOk c D)(W:Wl)(first:Nat):DOk (c+(areasL D).length) (W.reset first D).2.1:=by
 have h1:=DOk.wreset (areasL D) D c h;unfold Wl.reset
 split
 ·exact h.up qo
 ·split
  ·exact h.up qo
  ·split
   all_goals omega
theorem WBd.reset{c:Nat}{W:Wl}(o:WBd c W)(first:Nat)(D:Dk):WBd c (W.reset first D).1:=by
 unfold Wl.reset
 split
 ·exact o
 ·split
  ·exact o
  ·split
   ·rename_i h1;exact ⟨o.last,o.recs,o.old,o.next,o.op,fun q hq hc=>absurd hc h1,o.olds,o.recl⟩
   ·exact ⟨by simp;omega,by simp,by simp,o.next,by simp,by simp,by simp,by simp⟩
end
section
attribute [local irreducible] Code.wp wpList Calls
theorem appendWC{w0:World}{K dh hv:PH}{m hs:List PH}(wb db:Nat)(W:Wl)(hW:WalM K wb db W m)(D:Dk)(c:Nat)(oD:DOk c D)(hc:c<=999999000)(hb:WBd c W)(hd:DskH K db D dh)(ab:Option Addr)(cb:Nat)(b:List UInt8)(hbl:b.length<1099511627776)(hin:In K hs hv)(x:IsS hv ab b.length cb 1 (bv b)):
  Ct Tryz.prog w0 203 [.pointer (some ⟨wb,0,none⟩),.slice ab b.length cb] K (m++dh::hs)
   (fun v K' hs'=>Le K K'/\∃ m' dh',hs'=m'++dh'::hs/\WalM K' wb db (W.append b D).1 m'/\DskH K' db (W.append b D).2.1 dh'/\v=.int .i64 (W.append b D).2.2):=by
 obtain ⟨ob,aL,cL,aO,cO,oH,rH,gL,gO,rfl,hop,hL,hO⟩:=id hW;have hlast:=hb.last;refine entA Tryz.func203 ?_;refine cmpS 0 I fun b10 h10=>fin 1 I (th (ifP h10 I (fun e2=>?_) (fun e2=>?_)))
 ·have e:W.append b D=(W,D,W.code):=by unfold Wl.append;rw[if_pos e2]
  rw[e];refine au ?_;exact ret1 I I ⟨Le.refl _,_,_,I,hW,hd,I⟩
 ·have hcode:W.code=0:=Decidable.not_not.1 e2;refine sq (rg (cmpS 2 I fun b18 h18=>fin 1 I (th (ifP h18 I (fun e4=>?_) (fun e4=>?_)))))
  ·have e:W.append b D=(W,D,50):=by grind [Wl.append]
   rw[e];refine au ?_;exact ret1 I I ⟨Le.refl _,_,_,I,hW,hd,I⟩
  ·refine sq (rg (cl 1 I (lastWC wb db W hW hlast) ?_));rintro v21 K21 hs21 ⟨rfl,rfl,rfl⟩;refine ar 0 I (u64back _ (by unfold wTop at hlast;omega)) (cmpS 0 rfl fun b23 h23=>fin 1 rfl (th (ifP h23 rfl (fun e6=>?_) (fun e6=>?_))))
   ·have e:W.append b D=(W,D,51):=by grind [Wl.append,wTop]
    rw[e];refine au ?_;exact ret1 I I ⟨Le.refl _,_,_,I,hW,hd,I⟩
   ·have e0:W.append b D=if wNeed W.op=true then
      (if (W.begin (W.first+W.recs.length) D).1.code≠0 then ((W.begin (W.first+W.recs.length) D).1,(W.begin (W.first+W.recs.length) D).2,(W.begin (W.first+W.recs.length) D).1.code)
       else wLay (W.begin (W.first+W.recs.length) D).1 b (W.begin (W.first+W.recs.length) D).2)
     else wLay W b D:=by grind [Wl.append,wTop]
    rw[e0];obtain ⟨B,hB⟩:∃ B,B=W.begin (W.first+W.recs.length) D:=⟨_,rfl⟩;have oB:DOk (c+2) B.2:=by rw[hB];exact oD.begin hb _ (by unfold wTop at hlast;omega) qo
    have bB:WBd (c+2) B.1:=by rw[hB];exact (hb.begin _ hlast D).up qo
    have rB2:=begin_recs W (W.first+W.recs.length) D;have oB2:B.1.code=0->B.1.op≠none:=by rw[hB];exact fun h=>(begin_op h).1
    rw[<-hB] at rB2 ⊢
    refine sk (bl (th (jnK (σ:=(Wl×Dk)×(List PH×PH)×PH) (fun _=>[(0,.pointer (some ⟨wb,0,none⟩)),(1,.slice ab b.length cb)]) (fun s=>s.2.2) (fun s=>s.2.1.1++s.2.1.2::hs)
     (fun s=>Le K21 s.2.2/\WalM s.2.2 wb db s.1.1 s.2.1.1/\DskH s.2.2 db s.1.2 s.2.1.2/\DOk (c+2) s.1.2/\WBd (c+2) s.1.1/\s.1.1.code=0/\s.1.1.op≠none/\s.1.1.first+s.1.1.recs.length<wTop /\
      (if wNeed W.op=true then (if B.1.code≠0 then (B.1,B.2,B.1.code) else wLay B.1 b B.2) else wLay W b D)=wLay s.1.1 b s.1.2) ?_ ?_)))
    ·refine au ?_;cases hwo:W.op with
     | none=>
      rw[hwo] at hop;obtain ⟨rfl,rfl,rfl⟩:=hop;refine En.cb 0 I (fun h=>cl 13 I (lastWC wb db W hW hlast) ?_) (fun h=>by simp at h);rintro v42 K42 hs42 ⟨rfl,rfl,rfl⟩;refine ar 0 I (u64back _ (by unfold wTop at hlast;omega)) (cl 0 rfl (beginWC wb db W hW D c oD.ok qo hb hd (W.first+W.recs.length) (by unfold wTop at hlast;omega)) ?_);rintro v44 K44 hs44 ⟨le,m',dh',rfl,hW',hd',rfl⟩;rw[<-hB] at hW' hd' ⊢;refine cmpS 0 I fun b45 h45=>fin 1 I (th (ifP h45 I (fun e12=>?_) (fun e12=>?_)))
      ·rw[if_pos (by rfl),if_pos e12];obtain ⟨ob2,aL2,cL2,aO2,cO2,oH2,rH2,gL2,gO2,rfl,hop2,hL2,hO2⟩:=id hW';refine au ?_;exact ret1 I I ⟨le,_,_,I,hW',hd',I⟩
      ·have e12:=Decidable.not_not.1 e12;refine sk ?_;exact jxK ((B.1,B.2),(m',dh'),K44) ⟨le,hW',hd',oB,bB,e12,oB2 e12,by rw[rB2.1,rB2.2];unfold wTop at hlast ⊢;omega,by rw[if_pos (by rfl),if_neg qo]⟩ ⟨rfl,rfl,trivial⟩ rfl rfl
     | some o=>
      rw[hwo] at hop;obtain ⟨b1,aR,cR,rfl,rfl,oR⟩:=hop;refine En.cb 0 I (fun h=>by simp at h) (fun h=>au ?_);refine cmp 0 I (fun h37=>?_) (fun h37=>?_)
      ·have hneed:wNeed (some o)=true:=decide_eq_true qo;refine cl 4 I (lastWC wb db W hW hlast) ?_;rintro v42 K42 hs42 ⟨rfl,rfl,rfl⟩;refine ar 0 I (u64back _ (by unfold wTop at hlast;omega)) (cl 0 rfl (beginWC wb db W hW D c oD.ok qo hb hd (W.first+W.recs.length) (by unfold wTop at hlast;omega)) ?_);rintro v44 K44 hs44 ⟨le,m',dh',rfl,hW',hd',rfl⟩;rw[<-hB] at hW' hd' ⊢;refine cmpS 0 I fun b45 h45=>fin 1 I (th (ifP h45 I (fun e12=>?_) (fun e12=>?_)))
       ·rw[if_pos hneed,if_pos e12];obtain ⟨ob2,aL2,cL2,aO2,cO2,oH2,rH2,gL2,gO2,rfl,hop2,hL2,hO2⟩:=id hW';refine au ?_;exact ret1 I I ⟨le,_,_,I,hW',hd',I⟩
       ·have e12:=Decidable.not_not.1 e12;refine sk ?_;exact jxK ((B.1,B.2),(m',dh'),K44) ⟨le,hW',hd',oB,bB,e12,oB2 e12,by rw[rB2.1,rB2.2];unfold wTop at hlast ⊢;omega,by simp_all⟩ ⟨rfl,rfl,trivial⟩ rfl rfl
      ·have hneed:¬wNeed (some o)=true:=by simp only[wNeed,decide_eq_true_eq];omega
       refine fin 9 I (th (ifF I (sk ?_)));exact jxK ((W,D),([_,_,_,_,_],dh),K21) ⟨Le.refl _,hW,hd,oD.up qo,hb.up qo,hcode,by rw[hwo];simp,by dsimp only;unfold wTop at hlast ⊢;omega,by rw[if_neg hneed]⟩ ⟨rfl,rfl,trivial⟩ rfl rfl
    ·clear oB2 rB2 bB oB hop hL hO;rintro ⟨⟨V,E⟩,⟨m1,eh⟩,K1⟩ ⟨le,hV,hE,oE,bV,hcV,hoV,hlV,heq⟩;dsimp only at *;rw[heq];clear heq;obtain ⟨ob,aL,cL,aO,cO,oH,rH,gL,gO,rfl,hop,hL,hO⟩:=id hV;obtain ⟨op,first,recs,old,next,code⟩:=V;dsimp only at *;subst hcV;cases op with
     | none=>exact absurd rfl hoV
     | some o=>
      obtain ⟨b1,aR,cR,rfl,rfl,oR⟩:=hop;have hq:=bV.op o rfl;have hr:=bV.rest o rfl rfl;have hrl:=bV.recs;unfold wMany at hq;dsimp only at hq hr hrl;have hpb:=putBytes_le (b:=b) qo;have eL:wLay ⟨some o,first,recs,old,next,0⟩ b E=(⟨some (wrO o (putBytes b) E).1,first,if (wrO o (putBytes b) E).2.2=0 then recs++[b] else recs,old,next,(wrO o (putBytes b) E).2.2⟩,(wrO o (putBytes b) E).2.1,(wrO o (putBytes b) E).2.2):=rfl;rw[eL];refine sq (sq (rg (WL.em ?_)));obtain ⟨hv',hin',lev⟩:=hin.le le;refine cl 2 I (putBytesC none 0 [] ab cb b (Own.nil _ _) (hin'.tail (_::_::_::_::_::[eh])) (x.le lev) (by decide) qo) ?_;rintro v53 K53 hs53 ⟨hu,rfl,rfl,ao',c',rfl,ou⟩;rw[List.nil_append] at ou;refine WL.frz fun K2 l1 l2=>?_;obtain ⟨hv2,hin2,lev2⟩:=hin'.le l1;refine cl 0 I (writeWC wb db b1 first _ _ next o aR cR oR qo E (c+2) oE.ok qo (hE.le l1) qo qo ao' c' (putBytes b) ⟨hpb.1,by omega⟩ (.inl I) (ou.isS.le l2)) ?_
      rintro v54 K54 hs54 ⟨le3,aR',cR',rH',dh',rfl,oR',hd',rfl⟩;obtain ⟨hv3,hin3,lev3⟩:=hin2.le le3;have le4:=le.trans (l1.trans le3);refine cmp 0 I (fun e14=>?_) (fun e14=>?_)
      ·refine au ?_;rw[if_pos e14];refine rga [pt wb (wlA db (some b1) first (.slice aL recs.length cL) (.slice aO old.length cO) next (wrO o (putBytes b) E).2.2) 192] 11 [0,2,4,6,8,10,13,15,17,18,20,23] (by simp) qk qk (au ?_);refine cl 0 I (cloneB ab cb b (hin3.tail (_::_::_::_::_::[dh'])) (((x.le lev).le lev2).le lev3) qo) ?_;rintro v62 K62 hs62 ⟨rfl,g,aoc,cc,rfl,rfl,og⟩;refine WL.frz fun K3 l3 l4=>dnxL (by simp) l3 (au ?_);refine lit 0 #[.slice aoc b.length cc] I (by decide) qk fun b63=>dnx (by simp) I (dact qk 0 I (appSq (R:=recR K3) 0 4 [.slice aoc b.length cc] b I I I (hL.imp fun _ _ h=>((h.le l1).le le3).le l3) ⟨aoc,cc,I,og.isS.le l4⟩ I (by simp[Value.oneCell']) I (by decide) (by show (recs.length+1)*24<=_;omega) (by simp only[maxLen];omega) fun ao64 c64 g64 o64=>dnx (by simp) rfl (dact qk 2 rfl (stp 0 1 rfl rfl rfl rfl (dnext (.inl qk) (dend qk 0 rfl (th (sq (rg (WL.drop (au ?_)))))))))))
       refine ret1 I I ⟨le4.trans l3,[_,_,_,_,_],dh',I,⟨some b1,ao64,c64,aO,cO,_,rH',g64,gO,?_,⟨b1,aR',cR',I,I,oR'⟩,?_,hO⟩,hd'.le l3,I⟩
       ·dsimp only;rw[List.length_append];rfl
       simp_all
      ·refine au ?_;rw[if_neg e14];refine au ?_;exact ret1 I I ⟨le4,[_,_,_,_,_],dh',I,⟨some b1,aL,cL,aO,cO,_,rH',gL,gO,I,⟨b1,aR',cR',I,I,oR'⟩,hL.imp fun _ _ h=>(h.le l1).le le3,hO⟩,hd',I⟩
theorem truncWC{w0:World}{K dh:PH}{m hs:List PH}(wb db:Nat)(W:Wl)(hW:WalM K wb db W m)(D:Dk)(c:Nat)(oD:DOk c D)(hc:c<=999999000)(hb:WBd c W)(hd:DskH K db D dh)(i:Nat)(hi:i<18446744073709551616):
  Ct Tryz.prog w0 197 [.pointer (some ⟨wb,0,none⟩),.int .u64 (i:Nat)] K (m++dh::hs)
   (fun v K' hs'=>Le K K'/\∃ m' dh',hs'=m'++dh'::hs/\WalM K' wb db (W.truncate i D).1 m'/\DskH K' db (W.truncate i D).2.1 dh'/\v=.int .i64 (W.truncate i D).2.2):=by
 obtain ⟨ob,aL,cL,aO,cO,oH,rH,gL,gO,rfl,hop,hL,hO⟩:=id hW;have hlast:=hb.last;have hrl:=hb.recs;unfold wTop at hlast;refine enter Tryz.func197 qk I I I (sq (rg (fin 1 I (th (sq (bk (sq (rg (ldp 3 0 I I I (cmpS 0 I fun b10 h10=>fin 1 I (th (ifP h10 I (fun e2=>?_) (fun e2=>?_)))))))))))))
 ·have e:W.truncate i D=(W,D,W.code):=by unfold Wl.truncate;rw[if_pos e2]
  rw[e];exact sq (rg (ldp 3 0 I I I (fin 1 I (th (rt (rB (rT (ret1 I I ⟨Le.refl _,_,_,I,hW,hd,I⟩))))))))
 ·have hcode:W.code=0:=Decidable.not_not.1 e2;refine sq (rga [pt wb (wlA db ob W.first (.slice aL W.recs.length cL) (.slice aO W.old.length cO) W.next W.code) 192] 22 [0,2,4,6,8,10,12,14,16,18,20,22,24,26,28,30,32,34,36,38,40,42] (by simp) qk qk (dldp qk 4 0 I I I (dcmp qk 0 (i<W.first) I (by simp) (fun h3=>?_) (fun h3=>?_))))
  ·have e:W.truncate i D=(W,D,51):=by unfold Wl.truncate;rw[if_neg e2,if_pos (.inl h3)]
   rw[e];exact dend qk 16 I (th (ifT I (sq (rg (fin 1 I (th (rt (rB (rT (ret1 I I ⟨Le.refl _,_,_,I,hW,hd,I⟩))))))))))
  ·refine dldp qk 5 0 I I I (dar qk 0 I (v':=.int .u64 (i-W.first:Nat)) (by rw[show ((i:Nat):Int)-((W.first:Nat):Int)=((i-W.first:Nat):Int) from by omega];exact u64w qo) (dldp qk 3 0 I I I (dar qk 1 I (u64w (x:=((W.recs.length:Nat):Int)) qo) (dcbS qk 0 (W.recs.length<i-W.first) I (by simp) fun b35 h35=>dend qk 2 I (th (ifP h35 I (fun e4=>?_) (fun e4=>?_)))))))
   ·have e:W.truncate i D=(W,D,51):=by unfold Wl.truncate;rw[if_neg e2,if_pos (.inr e4)]
    rw[e];exact sq (rg (fin 1 I (th (rt (rB (rT (ret1 I I ⟨Le.refl _,_,_,I,hW,hd,I⟩)))))))
   ·refine sq (rga [pt wb (wlA db ob W.first (.slice aL W.recs.length cL) (.slice aO W.old.length cO) W.next W.code) 192] 14 [0,2,4,6,8,10,12,14,16,18,20,22,24,26] (by simp) qk qk (dldp qk 4 0 I I I (dar qk 0 I (v':=.int .u64 (i-W.first:Nat)) (by rw[show ((i:Nat):Int)-((W.first:Nat):Int)=((i-W.first:Nat):Int) from by omega];exact u64w qo) (dldp qk 3 0 I I I (dar qk 1 I (u64w (x:=((W.recs.length:Nat):Int)) qo) (dcbS qk 0 (i-W.first=W.recs.length) I (by simp;omega) fun b50 h50=>dend qk 1 rfl (th (ifP h50 rfl (fun e5=>?_) (fun e5=>?_)))))))))
    ·have e:W.truncate i D=(W,D,0):=by unfold Wl.truncate;rw[if_neg e2,if_neg qo,if_pos e5]
     rw[e];exact sq (rg (fin 1 I (th (rt (rB (rT (ret1 I I ⟨Le.refl _,_,_,I,hW,hd,I⟩)))))))
    ·have e:W.truncate i D=(if (W.begin i D).1.code=0 then { (W.begin i D).1 with recs:=W.recs.take (i-W.first) } else (W.begin i D).1,(W.begin i D).2,(W.begin i D).1.code):=by
      unfold Wl.truncate;rw[if_neg e2,if_neg qo,if_neg e5]
     rw[e];refine sk (bl (th (sq (sq (rg (cl 2 I (beginWC wb db W hW D c oD.ok qo hb hd i hi) ?_))))));rintro v53 K53 hs53 ⟨le,m',dh',rfl,hW',hd',rfl⟩;have hr:=begin_recs W i D;obtain ⟨B,hB⟩:∃ B,B=W.begin i D:=⟨_,rfl⟩;rw[<-hB] at hW' hd' hr ⊢;refine cmpS 0 I fun b54 h54=>fin 0 I (th (ifP h54 I (fun e7=>?_) (fun e7=>?_)))
     ·rw[if_pos e7];obtain ⟨ob2,aL2,cL2,aO2,cO2,oH2,rH2,gL2,gO2,rfl,hop2,hL2,hO2⟩:=hW';obtain ⟨⟨op,first,recs,old,next,code⟩,E⟩:=B;dsimp only at *;obtain ⟨rfl,rfl⟩:=hr;have hcap:=hL2.caps;refine rga [pt wb (wlA db ob2 W.first (.slice aL2 W.recs.length cL2) (.slice aO2 old.length cO2) next code) 192] 14 [0,2,4,6,8,10,12,14,16,18,20,22,24,26,29] (by simp) qk qk (dldpw qk 4 0 I qk I I (dldpw qk 4 0 I qk I I (dar qk 0 I (v':=.int .u64 (i-W.first:Nat)) (by rw[show ((i:Nat):Int)-((W.first:Nat):Int)=((i-W.first:Nat):Int) from by omega];exact u64w qo) (dslx qk 0 0 (i-W.first) I I I (by show ((i-W.first:Nat):Int)=((0+(i-W.first):Nat):Int);omega) qo (dact qk 2 rfl (stp 0 0 rfl rfl rfl rfl (dnext (.inl qk) ?_)))))));obtain ⟨gL3,hg3,hL3⟩:=hL2.cut 0 (i-W.first) qo
      refine dend qk 0 I (th (sq (WC.loss 3 gL3 I hg3 (rg (ldp 3 0 I I I (fin 1 I (th (rt ?_))))))));have hlen:(W.recs.take (i-W.first)).length=i-W.first:=by rw[List.length_take];omega
      refine ret1 I I ⟨le,[_,_,_,_,_],dh',I,⟨ob2,cutA aL2 cL2 0 1,cL2-0,aO2,cO2,oH2,rH2,gL3,gO2,?_,hop2,?_,hO2⟩,hd',I⟩
      ·dsimp only;rw[hlen];rfl
      ·dsimp only;rw[hlen,<-List.drop_zero (l:=W.recs)];exact hL3
     ·rw[if_neg e7];obtain ⟨ob2,aL2,cL2,aO2,cO2,oH2,rH2,gL2,gO2,rfl,hop2,hL2,hO2⟩:=id hW';exact sk (th (sq (rg (ldp 3 0 I I I (fin 1 I (th (rt (ret1 I I ⟨le,_,_,I,hW',hd',I⟩))))))))
end
section
theorem SlZ.gets{α:Type}{R:List Value->α->Prop}{size e:Nat}{h:PH}{ao:Option Addr}{n cap:Nat}{xs:List α}(x:SlZ size e R h ao n cap xs)(hs:0<size){i:Nat}{y:α}(hy:xs[i]?=some y):
  ∃ c,R c y/\c.length=size/\∃ g off cur,ao=some ⟨g,off,none⟩/\h=pt g cur e/\∀ (j:Nat) v,c[j]?=some v->cur[off+i*size+j]?=some v:=by
 obtain ⟨css,h1,h2,h3,h4⟩:=x;obtain ⟨c,hc,hR⟩:=h3.get hy;have hl:=h4 c (List.mem_of_getElem? hc);have hi:i<n:=by grind
 refine ⟨c,hR,hl,?_⟩;rcases h2 with ⟨g1,g2,g3,⟨g4,g5,g6⟩|⟨g,off,cur,g4,g5,g6,g7⟩⟩|⟨rfl,_⟩
 ·omega
 ·refine ⟨g,off,cur,g4,g5,fun j v hv=>?_⟩;have hj:j<size:=by grind
  have hf:=flat_get h4 hc j v hv
  grind
 ·omega
theorem wfree_step(i f:Nat)(old:List (Nat×Nat))(D:Dk):wfree i (f+1) old D=if 1<old.length/\wfreed old i=true then
   (if (D.free (segA (old.headD (0,0)).1)).2≠0 then (old,(D.free (segA (old.headD (0,0)).1)).1,(D.free (segA (old.headD (0,0)).1)).2)
    else wfree i f (old.drop 1) (D.free (segA (old.headD (0,0)).1)).1)
  else (old,D,0):=rfl
attribute [local irreducible] Code.wp wpList Calls
theorem freedC{w0:World}{K oH rH gL gO:PH}{hs:List PH}(wb db:Nat)(ob:Option Nat)(first:Nat)(lv:Value)(next:Nat)(code:Int)(aO:Option Addr)(cO:Nat)(old:List (Nat×Nat))(hO:SlZ 2 197 segR gO aO old.length cO old)(h1:1<old.length)(hl:old.length<=1099511627776)(i:Nat):
  Ct Tryz.prog w0 210 [.pointer (some ⟨wb,0,none⟩),.int .u64 (i:Nat)] K (pt wb (wlA db ob first lv (.slice aO old.length cO) next code) 192::oH::rH::gL::gO::hs)
   (fun v K' hs'=>K'=K/\hs'=pt wb (wlA db ob first lv (.slice aO old.length cO) next code) 192::oH::rH::gL::gO::hs/\v=.bool (wfreed old i)):=by
 have hcap:=hO.caps;have hS:=hO.slS.cut 1 qo;obtain ⟨a,ha⟩:=hS.addr qo (by decide);rw[ha] at hS;obtain ⟨vs,xs⟩:=hS.isS;refine entA Tryz.func210 ?_;refine slx 0 1 (old.length-1) I I (by show ((old.length:Nat):Int)=_;omega) qo ?_;rw[show cutA aO cO 1 2=some a from ha];refine au ?_
 refine loop (σ:=Nat) (fun j=>[(1,.int .u64 (i:Nat)),(11,.slice (some a) (old.length-1) (cO-1)),(12,.int .i64 (old.length-1:Nat)),(13,.int .i64 (j:Nat))]) (fun _=>K) (fun _=>pt wb (wlA db ob first lv (.slice aO old.length cO) next code) 192::oH::rH::gL::gO::hs)
  (fun j=>j<=old.length-1/\((old.drop 1).take j).any (fun s=>decide (s.2<=i))=false) (fun j=>old.length-1-j) 0 ⟨Nat.zero_le _,rfl⟩ ⟨rfl,rfl,rfl,rfl,trivial⟩ rfl rfl ?_
 rintro j ⟨hj,hno⟩;refine sq (rg (cmp 0 I (fun e2=>?_) (fun e2=>?_)))
 ·refine au ?_;have hjl:j<(old.drop 1).length:=by rw[List.length_drop];omega
  obtain ⟨cs,hc,hcl,hcell⟩:=hS.cells (i:=j) (x:=(old.drop 1)[j]) (List.getElem?_eq_getElem hjl);obtain ⟨s,hs0⟩:∃ s,s=(old.drop 1)[j]:=⟨_,rfl⟩;rw[<-hs0] at hc;have hc:cs=[.int .u64 s.1,.int .u64 s.2]:=hc;subst hc;refine au ?_;refine ixs 0 j I I xs qo (by decide) fun a15 h15=>?_;cases h15;refine lds 0 [.int .u64 s.1,.int .u64 s.2] I qk (.inr ⟨4,I⟩) hcell (al 0 (.agg #[.int .u64 0,.int .u64 0]) I qk fun b6=>?_);refine stS 0 0 I I qk I I ?_;refine fin 0 I (th (sq (rg (ldp 1 0 I I I (cmpS 1 I fun b20 h20=>?_)))));have htk:((old.drop 1).take (j+1))=((old.drop 1).take j)++[s]:=by simp_all [List.take_add_one]
  refine fin 0 I<|th (ifP h20 I (fun e4=>?_) (fun e4=>?_))
  ·have he:wfreed old i=true:=by
    grind [wfreed]
   rw[he];exact sq (rg (fin 1 I (th (rt (rB (rT (rT (rB (rT (WQ.drop (ret1 I I ⟨I,I,I⟩)))))))))))
  ·refine sk<|bl (th<|rg (ar 0 I (i64w (x:=((j+1:Nat):Int)) qo)<|fin 1 I (WQ.drop<|again (x:=j) (j+1) ⟨I,I,I,I,trivial⟩ I I ⟨by omega,?_⟩ qo)))
   grind
 ·refine au ?_
  have he:wfreed old i=false:=by
   grind [List.length_drop,wfreed]
  rw[he];refine au ?_;exact ret1 I I ⟨I,I,I⟩
theorem compactWC{w0:World}{K dh:PH}{m hs:List PH}(wb db:Nat)(W:Wl)(hW:WalM K wb db W m)(D:Dk)(c:Nat)(oD:DOk c D)(hc:c<=499999000)(hb:WBd c W)(hol:W.old.length<=c)(hd:DskH K db D dh)(i:Nat)(hi:i<18446744073709551616):
  Ct Tryz.prog w0 160 [.pointer (some ⟨wb,0,none⟩),.int .u64 (i:Nat)] K (m++dh::hs)
   (fun v K' hs'=>Le K K'/\∃ m' dh',hs'=m'++dh'::hs/\WalM K' wb db (W.compact i D).1 m'/\DskH K' db (W.compact i D).2.1 dh'/\v=.int .i64 (W.compact i D).2.2):=by
 obtain ⟨ob,aL,cL,aO,cO,oH,rH,gL,gO,rfl,hop,hL,hO⟩:=id hW;have hlast:=hb.last;have hlast0:=hb.last;have hrl:=hb.recs;unfold wTop at hlast;refine entA Tryz.func160 ?_;refine cmp 0 I (fun e2=>?_) (fun e2=>?_)
 ·refine au ?_;have e:W.compact i D=(W,D,W.code):=by unfold Wl.compact;rw[if_pos e2]
  rw[e];refine au ?_;exact ret1 I I ⟨Le.refl _,_,_,I,hW,hd,I⟩
 ·refine au ?_;have hcode:W.code=0:=Decidable.not_not.1 e2;refine au ?_;refine cmpS 0 I fun b21 h21=>fin 1 I (th (ifP h21 I (fun e4=>?_) (fun e4=>?_)))
  ·have e:W.compact i D=(W,D,0):=by simp_all [Wl.compact]
   rw[e];refine au ?_;exact ret1 I I ⟨Le.refl _,_,_,I,hW,hd,I⟩
  ·refine sq (rga [pt wb (wlA db ob W.first (.slice aL W.recs.length cL) (.slice aO W.old.length cO) W.next W.code) 192] 14 [0,2,4,6,8,10,12,14,16,18,20,22,24,26] (by simp) qk qk (au ?_));refine dar qk 0 I (v':=.int .u64 (i-W.first:Nat)) (by grind [u64w]) (au ?_);refine dar qk 1 I (u64w (x:=((W.recs.length:Nat):Int)) qo) (dcbS qk 0 (W.recs.length<i-W.first) I (by simp) fun b35 h35=>au ?_);refine ifP h35 I (fun e5=>?_) (fun e5=>?_)
   ·have e:W.compact i D=(W,D,51):=by simp_all [Wl.compact]
    rw[e];refine au ?_;exact ret1 I I ⟨Le.refl _,_,_,I,hW,hd,I⟩
   ·refine sk (bl (th (jnK (σ:=(List PH×PH)×PH) (fun _=>[(0,.pointer (some ⟨wb,0,none⟩)),(1,.int .u64 (i:Nat))]) (fun s=>s.2) (fun s=>s.1.1++s.1.2::hs)
     (fun s=>Le K s.2/\WalM s.2 wb db (W.compact1 i D).1 s.1.1/\DskH s.2 db (W.compact1 i D).2 s.1.2) ?_ ?_)))
    ·refine sq (rg (cl 2 I (lastWC wb db W hW hlast0) ?_));rintro v38 K38 hs38 ⟨rfl,rfl,rfl⟩;refine ar 0 I (u64back _ qo) (cmpS 0 I fun b40 h40=>fin 0 I (th (ifP h40 I (fun e7=>?_) (fun e7=>?_))))
     ·have e:W.compact1 i D=W.begin i D:=by unfold Wl.compact1;rw[if_pos qo]
      rw[e];refine rg (cl 2 I (beginWC wb db W hW D c oD.ok qo hb hd i hi) ?_);rintro v43 K43 hs43 ⟨le,m',dh',rfl,hW',hd',rfl⟩;exact fin 0 I (jxK ((m',dh'),K43) ⟨le,hW',hd'⟩ ⟨I,I,trivial⟩ I I)
     ·have e:W.compact1 i D=(W,D):=by unfold Wl.compact1;rw[if_neg qo]
      rw[e];refine sk ?_;exact jxK (([_,_,_,_,_],dh),K38) ⟨Le.refl _,hW,hd⟩ ⟨I,I,trivial⟩ I I
    ·rintro ⟨⟨m1,eh⟩,K1⟩ ⟨le,hV,hE⟩;dsimp only at *;have o1:=oD.compact1 hb qo i hi;have b1:=hb.compact1 i D;have o2:=oD.compact2 hb qo i hi;have b2:=hb.compact2 i D;have r2:=compact2_recs W i D
     have hol2:(W.compact2 i D).1.old.length<=c+1:=by
      grind [Wl.sync_eq,Wl.compact2,Wl.compact1,Wl.begin]
     refine sq (sq (rg (cl 1 I (syncWC wb db (W.compact1 i D).1 hV (W.compact1 i D).2 (c+2) o1.ok qo (b1.up qo) hE) ?_)));rintro v45 K45 hs45 ⟨rfl,m2,eh2,rfl,hV2,hE2,rfl⟩;have hc2:((W.compact1 i D).1.sync (W.compact1 i D).2)=W.compact2 i D:=rfl;rw[hc2] at hV2 hE2 ⊢
     have e0:W.compact i D=if (W.compact2 i D).1.code≠0 then ((W.compact2 i D).1,(W.compact2 i D).2,(W.compact2 i D).1.code)
      else if (wfree i ((W.compact2 i D).1.old.length+1) (W.compact2 i D).1.old (W.compact2 i D).2).2.2≠0 then
       ({ (W.compact2 i D).1 with old:=(wfree i ((W.compact2 i D).1.old.length+1) (W.compact2 i D).1.old (W.compact2 i D).2).1,code:=(wfree i ((W.compact2 i D).1.old.length+1) (W.compact2 i D).1.old (W.compact2 i D).2).2.2 },(wfree i ((W.compact2 i D).1.old.length+1) (W.compact2 i D).1.old (W.compact2 i D).2).2.1,(wfree i ((W.compact2 i D).1.old.length+1) (W.compact2 i D).1.old (W.compact2 i D).2).2.2)
      else ({ (W.compact2 i D).1 with old:=(wfree i ((W.compact2 i D).1.old.length+1) (W.compact2 i D).1.old (W.compact2 i D).2).1,recs:=W.recs.drop (i-W.first),first:=i },(wfree i ((W.compact2 i D).1.old.length+1) (W.compact2 i D).1.old (W.compact2 i D).2).2.1,0):=by
      simp_all [if_neg,Wl.compact]
     rw[e0];clear e0 hc2;obtain ⟨Z,hZ⟩:∃ Z,Z=W.compact2 i D:=⟨_,rfl⟩;rw[<-hZ] at hV2 hE2 r2 o2 b2 hol2 ⊢;clear hZ hV hE o1 b1;obtain ⟨⟨op,first,recs,old,next,code⟩,E⟩:=Z;dsimp only at *;obtain ⟨rfl,rfl⟩:=r2;refine cmpS 0 I fun b46 h46=>fin 0 I (th (ifP h46 I (fun e9=>?_) (fun e9=>?_)))
     ·rw[if_pos e9];obtain ⟨ob2,aL2,cL2,aO2,cO2,oH2,rH2,gL2,gO2,rfl,hop2,hL2,hO2⟩:=id hV2;refine au ?_;exact ret1 I I ⟨le,_,_,I,hV2,hE2,I⟩
     ·obtain rfl:code=0:=Decidable.not_not.1 e9;rw[if_neg (by simp)];obtain ⟨ob2,aL2,cL2,aO2,cO2,oH2,rH2,gL2,gO2,rfl,hop2,hL2,hO2⟩:=hV2;dsimp only at *;have hcapL:=hL2.caps;obtain ⟨R,hR⟩:∃ R,R=wfree i (old.length+1) old E:=⟨_,rfl⟩;rw[<-hR];refine sk (th (sq (bk ?_)))
      refine loop (σ:=(Nat×List (Nat×Nat)×Dk)×(Option Addr×Nat×PH×PH)) (fun _=>[(0,.pointer (some ⟨wb,0,none⟩)),(1,.int .u64 (i:Nat))]) (fun _=>K45)
       (fun s=>pt wb (wlA db ob2 W.first (.slice aL2 W.recs.length cL2) (.slice s.2.1 s.1.2.1.length s.2.2.1) next 0) 192::oH2::rH2::gL2::s.2.2.2.1::s.2.2.2.2::hs)
       (fun s=>wfree i s.1.1 s.1.2.1 s.1.2.2=R/\s.1.2.1.length<s.1.1/\s.1.2.1.length<=old.length/\(∀ x∈s.1.2.1,x.1<=wMany+(c+1))/\DOk (c+3+(old.length-s.1.2.1.length)) s.1.2.2/\DskH K45 db s.1.2.2 s.2.2.2.2/\SlZ 2 197 segR s.2.2.2.1 s.2.1 s.1.2.1.length s.2.2.1 s.1.2.1)
       (fun s=>s.1.1) ((old.length+1,old,E),(aO2,cO2,gO2,eh2)) ⟨hR.symm,by simp,Nat.le_refl _,fun x hx=>(b2.olds x hx).1,by dsimp only;exact o2.up qo,hE2,hO2⟩ ⟨I,I,trivial⟩ I I ?_
      rintro ⟨⟨f,old1,E1⟩,⟨aO1,cO1,gO1,eh1⟩⟩ ⟨hw,hlf,hlo,hmany,oE,hE1,hO1⟩;dsimp only at *;obtain ⟨f,rfl⟩:∃ g,f=g+1:=⟨f-1,by omega⟩;rw[wfree_step] at hw;refine au ?_;refine cmpS 1 I fun b56 h56=>?_
      refine' bja (q:=wfreed old1 i=true) 1 4 61 [56,57] h56 I I I I I I I (fun hp1=>?x11) (fun b61 h61=>?_)
      case x11=>
       refine cl 2 I (freedC wb db ob2 W.first _ next 0 aO1 cO1 old1 hO1 qo qo i) ?_;rintro v60 K60 hs60 ⟨rfl,rfl,rfl⟩;exact nmS fun b60 h60=>fin 1 I (bjx h60 I I I)
      refine fin 0 I<|th (ifP h61 I (fun e12=>?_) (fun e12=>?_))
      ·rw[if_pos ⟨by omega,e12.2⟩] at hw;have hl1:1<old1.length:=by omega
       obtain ⟨s,hs0⟩:∃ s,old1[0]?=some s:=⟨old1[0]'qo,List.getElem?_eq_getElem qo⟩
       have hhd:old1.headD (0,0)=s:=by
        cases old1 with
        | nil=>simp at hl1
        | cons a l=>simpa using hs0
       rw[hhd] at hw;have hs1:=hmany s (List.mem_of_getElem? hs0);unfold wMany at hs1;obtain ⟨cs,hcs,hcl,g,off,cur,rfl,rfl,hcur⟩:=hO1.gets (by decide) hs0;have hcs:cs=[.int .u64 s.1,.int .u64 s.2]:=hcs;subst hcs;have hcap1:=hO1.caps;refine au ?_;refine rga [pt wb (wlA db ob2 W.first (.slice aL2 W.recs.length cL2) (.slice (some ⟨g,off,none⟩) old1.length cO1) next 0) 192,pt g cur 197] 14 [0,2,4,6,8,10,12,14,16,18,20,22,25,27,29,30] (by simp) qk qk (dldtp [13] qk 4 0 I qk I I (dldtp [13,12,11,10,9] qk 3 0 I qk I I (dixs qk 0 0 I I qo ?_)));simp only[add_mk,Nat.zero_mul,Nat.add_zero];refine dldtp [13,12] qk 1 1 I qk I (by simpa using hcur 0 _ rfl) (au ?_);refine cl 0 I (areaC s.1 qo) ?_;rintro v74 K74 hs74 ⟨rfl,rfl,rfl⟩;refine dnx (by simp) I (dact qk 0 I (cl 0 I (Ct.at 5 I (freeH db E1 _ oE.ok qo hE1 (segA s.1))) ?_))
       rintro v75 K75 hs75 ⟨eh3,rfl,rfl,hE3,rfl⟩;refine dnx (by simp) I (dact qk 0 I (cl 0 I (didC wb db ob2 W.first _ _ next 0 _) ?_));rintro v76 K76 hs76 ⟨_,rfl,rfl,rfl,rfl⟩;rw[if_pos rfl];refine au ?_;refine dcbS qk 0 ((E1.free (segA s.1)).2≠0) I (by simp) fun b77 h77=>au ?_;refine ifP h77 I (fun e13=>?_) (fun e13=>?_)
       ·rw[if_pos e13] at hw;rw[<-hw,if_pos e13];refine au ?_;exact ret1 I I ⟨le,[_,_,_,_,_],eh3,I,⟨ob2,aL2,cL2,some ⟨g,off,none⟩,cO1,oH2,rH2,gL2,_,I,hop2,hL2,hO1⟩,hE3,I⟩
       ·rw[if_neg e13] at hw;rw[Decidable.not_not.1 e13];obtain ⟨gO3,hg3,hO3⟩:=hO1.cut 1 (old1.length-1) qo;refine au ?_;refine slx 0 1 (old1.length-1) I I (by show ((old1.length:Nat):Int)=_;omega) qo (stp 2 0 rfl rfl rfl rfl (fin 0 rfl (bl (WQ.loss 4 gO3 rfl hg3 ?_))));have hdl:(old1.drop 1).length=old1.length-1:=by simp
        refine again (x:=((f+1,old1,E1),(some ⟨g,off,none⟩,cO1,pt g cur 197,eh1))) ((f,old1.drop 1,(E1.free (segA s.1)).1),(cutA (some ⟨g,off,none⟩) cO1 1 2,cO1-1,gO3,eh3)) ⟨I,I,trivial⟩ I ?_ ⟨hw,by dsimp only;omega,by dsimp only;omega,fun x hx=>hmany x (List.mem_of_mem_drop hx),by dsimp only;exact (oE.free _).up qo,hE3,?_⟩ (by simp)
        ·dsimp only;rw[hdl];rfl
        grind
      ·rw[if_neg (by grind)] at hw;rw[<-hw,if_neg (by simp)];dsimp only;refine au ?_;refine rga [pt wb (wlA db ob2 W.first (.slice aL2 W.recs.length cL2) (.slice aO1 old1.length cO1) next 0) 192] 14 [0,2,4,6,8,10,12,14,16,18,20,22,24,26,29] (by simp) qk qk (au ?_);refine dar qk 0 I (v':=.int .u64 (i-W.first:Nat)) (by grind [u64w]) (dslx qk 0 (i-W.first) (W.recs.length-(i-W.first)) I I I (by simp_all) qo (dact qk 2 I (stp 0 0 I I I I (dnext (.inl qk) ?_))));obtain ⟨gL3,hg3,hL3⟩:=hL2.cut (i-W.first) (W.recs.length-(i-W.first)) qo;refine dend qk 0 I (th (sq (WC.loss 3 gL3 I hg3 (rg (au ?_)))));have hlen:(W.recs.drop (i-W.first)).length=W.recs.length-(i-W.first):=by simp
       refine ret1 I I ⟨le,[_,_,_,_,_],eh1,I,⟨ob2,cutA aL2 cL2 (i-W.first) 1,cL2-(i-W.first),aO1,cO1,oH2,rH2,gL3,gO1,?_,hop2,?_,hO1⟩,hE1,I⟩
       ·dsimp only;rw[hlen];rfl
       grind
end
section
theorem areasL_bd{c:Nat}{D:Dk}(o:DOk c D):∀ k∈areasL D,0<=k/\k<=18446744073709551615:=fun k hk=>o.ar k ((srtI_perm _).mem_iff.1 hk)
theorem areasL_len{c:Nat}{D:Dk}(o:DOk c D):(areasL D).length<=c:=by
 unfold areasL;rw[(srtI_perm _).length_eq,List.length_map];exact o.len
theorem ivu_get{l:List Int}{j:Nat}{a:Int}(h:l[j]?=some a):(ivu l)[j]?=some (.int .u64 a):=by simp[ivu,h]
attribute [local irreducible] Code.wp wpList Calls
theorem resetWC{w0:World}{K dh:PH}{m hs:List PH}(wb db:Nat)(W:Wl)(hW:WalM K wb db W m)(D:Dk)(c:Nat)(oD:DOk c D)(hc:c<=499999000)(hb:WBd c W)(hd:DskH K db D dh)(first:Nat)(hfi:first<18446744073709551616):
  Ct Tryz.prog w0 201 [.pointer (some ⟨wb,0,none⟩),.int .u64 (first:Nat)] K (m++dh::hs)
   (fun v K' hs'=>Le K K'/\∃ m' dh',hs'=m'++dh'::hs/\WalM K' wb db (W.reset first D).1 m'/\DskH K' db (W.reset first D).2.1 dh'/\v=.int .i64 (W.reset first D).2.2):=by
 obtain ⟨ob,aL,cL,aO,cO,oH,rH,gL,gO,rfl,hop,hL,hO⟩:=id hW;refine enter Tryz.func201 qk I I I (sq (rg (fin 1 I (th (sq (bk (sq (rg (ldp 3 0 I I I (cmpS 0 I fun b12 h12=>fin 1 I (th (ifP h12 I (fun e2=>?_) (fun e2=>?_)))))))))))))
 ·have e:W.reset first D=(W,D,W.code):=by unfold Wl.reset;rw[if_pos e2]
  rw[e];exact sq (rg (ldp 3 0 I I I (fin 1 I (th (rt (rB (rT (ret1 I I ⟨Le.refl _,_,_,I,hW,hd,I⟩))))))))
 ·have hcode:W.code=0:=Decidable.not_not.1 e2;refine sq (rg (cmpS 1 I fun b19 h19=>fin 1 I (th (ifP h19 I (fun e4=>?_) (fun e4=>?_)))))
  ·have e:W.reset first D=(W,D,51):=by unfold Wl.reset;rw[if_neg e2,if_pos (by unfold wTop;omega)]
   rw[e];exact sq (rg (fin 1 I (th (rt (rB (rT (ret1 I I ⟨Le.refl _,_,_,I,hW,hd,I⟩)))))))
  ·have e0:W.reset first D=if (wreset (areasL D) D).2≠0 then ({ W with code:=(wreset (areasL D) D).2 },wreset (areasL D) D)
     else ({ W with op:=none,old:=[],recs:=[],first:=first },(wreset (areasL D) D).1,0):=by unfold Wl.reset;rw[if_neg e2,if_neg (by unfold wTop;omega)]
   rw[e0];clear e0;obtain ⟨R,hR⟩:∃ R,R=wreset (areasL D) D:=⟨_,rfl⟩;rw[<-hR];have hbd:=areasL_bd oD;have hal:=areasL_len oD;obtain ⟨l,hl⟩:∃ l,l=areasL D:=⟨_,rfl⟩;rw[<-hl] at hbd hal hR;obtain ⟨op,first0,recs,old,next,code⟩:=W;dsimp only at *;subst hcode;refine sk (bl (th (sq (sq (rg (ldp 3 0 I I I (cl 0 I (Ct.at 5 I (areasH db D c oD qo hd)) ?_)))))));rintro v24 K24 hs24 ⟨_,rfl,rfl,le,ao,cc,rfl,xA⟩;rw[<-hl] at xA ⊢;refine fin 2 I (th (bk ?_))
   refine loop (σ:=Nat×Dk×PH) (fun s=>[(0,.pointer (some ⟨wb,0,none⟩)),(1,.int .u64 (first:Nat)),(24,.slice ao l.length cc),(25,.int .i64 l.length),(26,.int .i64 s.1)]) (fun _=>K24)
    (fun s=>pt wb (wlA db ob first0 (.slice aL recs.length cL) (.slice aO old.length cO) next 0) 192::oH::rH::gL::gO::s.2.2::hs)
    (fun s=>s.1<=l.length/\wreset (l.drop s.1) s.2.1=R/\DOk (c+s.1) s.2.1/\DskH K24 db s.2.1 s.2.2) (fun s=>l.length-s.1) (0,D,_) ⟨Nat.zero_le _,hR.symm,oD,hd.le le⟩ ⟨rfl,rfl,rfl,rfl,rfl,trivial⟩ rfl rfl ?_
   rintro ⟨j,E,eh⟩ ⟨hj,hw,oE,hE⟩;dsimp only at *;refine sq (rg (cmpS 0 I fun b27 h27=>fin 0 I (th (sq (ifP h27 I (fun e6=>?_) (fun e6=>?_))))))
   ·have hjl:j<l.length:=by omega
    obtain ⟨a,ha⟩:∃ a,l[j]?=some a:=⟨l[j],List.getElem?_eq_getElem hjl⟩;have hab:=hbd a (List.mem_of_getElem? ha);obtain ⟨n,rfl⟩:=Int.eq_ofNat_of_zero_le hab.1;rw[List.drop_eq_getElem_cons hjl,show l[j]=((n:Nat):Int) from by rw[List.getElem?_eq_getElem hjl] at ha;exact Option.some.inj ha] at hw;unfold wreset at hw;refine sk (th (sq (bk (sq (rg (ix1 0 j I I I xA (ivu_get ha) fun a28 hc28=>ld 0 I (.inl I) hc28 (fin 1 I (th (sq (rg (ar 1 I (u_rem .u64 n 4) (cmp 0 I (fun h32=>?_) (fun h32=>?_)))))))))))))
    ·rw[if_pos qo] at hw;refine ldp 5 0 I I I (cl 1 I (Ct.at 5 I (freeH db E _ oE.ok qo hE ((n:Nat):Int))) ?_);rintro v40 K40 hs40 ⟨eh2,rfl,rfl,hE2,rfl⟩;refine cl 0 I (didC wb db ob first0 _ _ next 0 _) ?_;rintro v41 K41 hs41 ⟨_,rfl,rfl,rfl,rfl⟩;rw[if_pos rfl];refine cmpS 0 I fun b42 h42=>fin 1 I (th (ifP h42 I (fun e10=>?_) (fun e10=>?_)))
     ·rw[if_neg e10] at hw;rw[<-hw,if_pos e10];refine sq (rg (ldp 3 0 I I I (fin 1 I (th (rt (rB (rT (rT (rB (rT ?_))))))))));exact ret1 I I ⟨le,[_,_,_,_,_],eh2,I,⟨ob,aL,cL,aO,cO,oH,rH,gL,gO,I,hop,hL.imp fun _ _ h=>h.le le,hO⟩,hE2,I⟩
     ·have e10:=Decidable.not_not.1 e10;rw[if_pos e10] at hw;rw[e10];exact sk (bl (th (rg (ar 0 I (i64w (x:=((j+1:Nat):Int)) qo) (fin 1 I (again (x:=(j,E,eh)) (j+1,(E.free ((n:Nat):Int)).1,eh2) ⟨I,I,I,I,I,trivial⟩ I I ⟨by dsimp only;omega,hw,(oE.free _).up (by dsimp only;omega),hE2⟩ (by dsimp only;omega)))))))
    ·rw[if_neg qo] at hw;exact fin 11 I (th (ifF I (sk (bl (th (rg (ar 0 I (i64w (x:=((j+1:Nat):Int)) qo) (fin 1 I (again (x:=(j,E,eh)) (j+1,E,eh) ⟨I,I,I,I,I,trivial⟩ I I ⟨by dsimp only;omega,hw,oE.up (by dsimp only;omega),hE⟩ (by dsimp only;omega))))))))))
   ·obtain rfl:j=l.length:=by omega
    rw[List.drop_length] at hw;have hw:(E,(0:Int))=R:=hw;rw[<-hw,if_neg (by simp)];refine ex (xt (xt (xb (th (sq (rg (stp 7 0 I I I I (stp 2 0 I I I I (stp 2 0 I I I I (stp 2 0 I I I I (fin 0 I (th (sq (rg (fin 1 I (th (rt (WQ.loss 1 em I (.inr I) (WQ.loss 2 em I (.inr I) (WQ.loss 3 em I (.inr I) (WQ.loss 4 em I (.inr I) ?_)))))))))))))))))))));exact ret1 I I ⟨le,[_,_,_,_,_],eh,I,⟨none,none,0,none,0,em,em,em,em,I,⟨I,I,I⟩,SlZ.nil _ _,SlZ.nil _ _⟩,hE,I⟩
end
end Go.En
