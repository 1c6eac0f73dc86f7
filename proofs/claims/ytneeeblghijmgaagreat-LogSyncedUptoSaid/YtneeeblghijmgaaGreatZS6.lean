/-
  Part 6 of what the proof needs (texts Bd Be Bf Bg Bh Bi Bj).
-/
import Derived.Test.YtneeeblghijmgaaGreatZS5
set_option linter.unusedSectionVars false
set_option linter.unusedSimpArgs false
set_option linter.unusedVariables false
namespace Go.En
open Go.Proofs Go.Proofs.YtneeeblghijmgaaGreat
section
theorem cmn_cons(a b:Ent)(l s:List Ent):cmn (a::l) (b::s)=if a=b then cmn l s+1 else 0:=rfl
theorem cmn_drop:∀ (l s:List Ent) (i:Nat),i<=cmn l s->cmn (l.drop i) (s.drop i)+i=cmn l s
 | l,s,0,_=>rfl
 | [],s,i+1,h=>by simp[cmn] at h
 | a::l,[],i+1,h=>by simp[cmn] at h
 | a::l,b::s,i+1,h=>by
  rw[cmn_cons] at h ⊢
  by_cases e:a=b
  ·rw[if_pos e] at h ⊢;have:=cmn_drop l s i qo;rw[List.drop_succ_cons,List.drop_succ_cons];omega
  ·rw[if_neg e] at h;omega
theorem cmn_next{l s:List Ent}{i:Nat}{p q:Ent}(h:i<=cmn l s)(hp:l[i]?=some p)(hq:s[i]?=some q):if p=q then i+1<=cmn l s else cmn l s=i:=by
 have h1:=cmn_drop l s i h;obtain ⟨h2,h3⟩:=List.getElem?_eq_some_iff.1 hp;obtain ⟨h4,h5⟩:=List.getElem?_eq_some_iff.1 hq;rw[List.drop_eq_getElem_cons h2,List.drop_eq_getElem_cons h4,h3,h5,cmn_cons] at h1
 split
 ·rename_i e;rw[if_pos e] at h1;omega
 ·rename_i e;rw[if_neg e] at h1;omega
attribute [local irreducible] Code.wp wpList Calls
theorem RlS.parts{K:PH}{r:Rl}{d:AdL}(h:RlS K r (.agg (rlA r d))):IsS K d.aV r.sn.vot.length d.cV 1 (iv r.sn.vot)/\IsS K d.aD r.sn.data.length d.cD 1 (bv r.sn.data)/\SlS 4 (EntC K) K d.aL r.l.length d.cL r.l:=by
 obtain ⟨aV,cV,aD,cD,aL,cL,e,h1,h2,h3⟩:=h;cases e;exact ⟨h1,h2,h3⟩
theorem stepsW{w0:World}{K:PH}{hs:List PH}(r s:Rl)(n:Nat)(hr:RBd n r)(hsb:RBd n s)(hn:n<=1099511627)(dr ds:AdL)(xr:RlS K r (.agg (rlA r dr)))(xs:RlS K s (.agg (rlA s ds))):
  Ct Tryz.prog w0 50 [.agg (rlA r dr),.agg (rlA s ds)] K hs (fun v K' hs'=>Le K K'/\hs'=hs/\∃ ao cap,v=.slice ao (stepsL r s).length cap/\SlS 7 (RlC K') K' ao (stepsL r s).length cap (stepsL r s)):=by
 obtain ⟨xV,xD,xL⟩:=xr.parts;obtain ⟨xW,xE,xM⟩:=xs.parts;have hrl:=hr.len;have hsl:=hsb.len;have hrv:=hr.vot;refine enter Tryz.func50 qk I I I (sq (rg (bx hT 0 I fun b2=>bx hT 0 I fun b3=>WL.hs (pt b3 (rlA s ds) 37::pt b2 (rlA r dr) 37::hs) I (fin hT 1 I (th (sq (sq (rg (lds hT 1 (snV r.sn dr.aV dr.cV dr.aD dr.cD).toList I qk (.inr ⟨1,I⟩) (cells_sub _ I) (lds hT 1 (snV s.sn ds.aV ds.cV ds.aD ds.cD).toList I qk (.inr ⟨0,I⟩) (cells_sub _ I) (cl hT 0 I (sameSnapRC r.sn s.sn dr.aV ds.aV dr.aD ds.aD dr.cV ds.cV dr.cD ds.cD xV xW xD xE qo) ?_)))))))))));rintro v12 K12 hs12 ⟨rfl,rfl,b12,rfl,h12⟩;refine cbS hT 0 (¬r.sn=s.sn) I (by rw[<-h12];cases b12 <;> simp) fun b13 h13=>fin hT 0 rfl (th (ifP h13 rfl (fun e1=>?_) (fun e1=>?_)))
 ·have e:stepsL r s=[s]:=by unfold stepsL;rw[if_neg e1]
  rw[e];refine sq (rg (ldS hT 0 0 I I qk (lit hT 0 (rlA s ds) I (by decide) qk fun b15=>fin hT 1 I (th (rt (rT (WQ.frz fun K2 l1 l2=>WQ.drop (WQ.drop ?_))))))))
  have xv:IsS (pt b15 (rlA s ds) 37) (some ⟨b15,0,none⟩) 1 1 7 (rlA s ds).toList:=by
   simpa using (Own.ofPt (b:=b15) (c:=rlA s ds) (e:=37) (n:=1) (size:=7) (by simp[rlV]) (by simp[maxLen])).isS
  exact ret1 I I ⟨l1,I,some ⟨b15,0,none⟩,1,I,[(rlA s ds).toList],I,by simpa using xv.le l2,⟨RlS.le l1 xs,trivial⟩,by simp[rlV]⟩
 ·have e1:r.sn=s.sn:=Decidable.not_not.1 e1;have e:stepsL r s=(List.range (s.l.length+1-cmn r.l s.l)).map (fun j=>{ s with l:=s.l.take (cmn r.l s.l+j) }):=by unfold stepsL;rw[if_pos e1]
  obtain ⟨c1,c2⟩:=cmn_le r.l s.l;refine sk (th (sq (rg (fin hT 1 I (th (jn (σ:=Unit) (fun _=>[(3,.pointer (some ⟨b3,0,none⟩)),(5,.int .i64 (cmn r.l s.l:Nat))]) (fun _=>pt b3 (rlA s ds) 37::pt b2 (rlA r dr) 37::hs) (fun _=>True) ?_ ?_))))))
  ·refine bk (loop (σ:=Nat) (fun i=>[(2,.pointer (some ⟨b2,0,none⟩)),(3,.pointer (some ⟨b3,0,none⟩)),(5,.int .i64 (i:Nat))]) (fun _=>K12) (fun _=>pt b3 (rlA s ds) 37::pt b2 (rlA r dr) 37::hs) (fun i=>i<=cmn r.l s.l) (fun i=>r.l.length-i) 0 (Nat.zero_le _) ⟨I,I,I,trivial⟩ I I ?_);rintro i hi
   by_cases hc:i<r.l.length/\i<s.l.length
   ·obtain ⟨h2,h3⟩:=hc;obtain ⟨p,hp⟩:∃ p,r.l[i]?=some p:=⟨_,List.getElem?_eq_getElem h2⟩;obtain ⟨q,hq⟩:∃ q,s.l[i]?=some q:=⟨_,List.getElem?_eq_getElem h3⟩;have hnx:=cmn_next hi hp hq;obtain ⟨a,ap,cp,ha,xp,hcp⟩:=entR_cells xL hp;obtain ⟨a',aq,cq,ha',xq,hcq⟩:=entR_cells xM hq;refine sq (sq (rga [pt b3 (rlA s ds) 37,pt b2 (rlA r dr) 37] 25 [0,2,4,6,8,10,12,14,16,18,20,22,24,26,28,30,32,34,36,38,40,42,44,47,48] (by simp) qk qk (dldp hT qk 2 1 I I I (dcmp hT qk 1 (i<r.l.length) I (by simp) (fun _=>dldp hT qk 3 0 I I I (dcmp hT qk 1 (i<s.l.length) I (by simp) (fun _=>dldp hT qk 3 1 (v:=.slice (some a) r.l.length dr.cL) I I (by rw[<-ha];rfl) (dixs hT qk 1 i rfl rfl h2 (dlds hT qk 0 (p.v ap cp).toList rfl qk qk (.inl rfl) hcp (dldp hT qk 1 0 (v:=.slice (some a') s.l.length ds.cL) rfl rfl (by rw[<-ha'];rfl) (dixs hT qk 1 i rfl rfl h3 (dlds hT qk 0 (q.v aq cq).toList rfl qk qk (.inl rfl) hcq (dact hT qk 0 rfl ?_))))))) (fun h=>absurd h3 h))) (fun h=>absurd h2 h)))))
    refine cl hT 0 I (sameEntry p q ap aq cp cq (.inl I) (.inl I) xp xq) ?_;rintro v39 K12 hs39 ⟨rfl,rfl,b39,rfl,h39⟩;refine dnex [pt b3 (rlA s ds) 37,pt b2 (rlA r dr) 37] (by simp) (by simp) I (dend hT qk 1 I (th (ifB I (fun h4=>?_) (fun h4=>?_))))
    ·subst h4;rw[if_pos (h39.1 rfl)] at hnx;exact sk (th (bk (rg (ar hT 1 I (i64w qo) (fin hT 1 I (bl (again (x:=i) (i+1) ⟨I,I,I,trivial⟩ I I hnx qo)))))))
    ·rw[if_neg (fun e=>by have:=h39.2 e;rw[h4] at this;cases this)] at hnx;refine ex (xt (xt (xb ?_)));rw[<-hnx];exact jx () trivial ⟨I,I,trivial⟩ I I
   ·have he:i=cmn r.l s.l:=by omega
    subst he;refine sq (sq (rga [pt b3 (rlA s ds) 37,pt b2 (rlA r dr) 37] 25 [0,2,4,6,8,10,12,14,16,18,20,22,24,26,28,30,32,34,36,38,40,42,44,46,48] (by simp) qk qk (dldp hT qk 2 1 I I I (dcmp hT qk 1 (cmn r.l s.l<r.l.length) I (by simp) (fun h2=>?_) (fun h2=>?_)))))
    ·exact dldp hT qk 3 0 I I I<|dcmp hT qk 1 (cmn r.l s.l<s.l.length) I (by simp) (fun h3=>absurd ⟨h2,h3⟩ hc) (fun h3=>dend hT qk 14 I<|th (ifF I<|ex (xt<|xt (xb<|jx () trivial ⟨I,I,trivial⟩ I I))))
    ·exact dend hT qk 20 I<|th (ifF I<|ex (xt<|xt (xb<|jx () trivial ⟨I,I,trivial⟩ I I)))
  ·rintro - -;obtain ⟨X,hX⟩:∃ X,X=stepsL r s:=⟨_,rfl⟩;rw[<-hX] at e ⊢;have hXl:X.length=s.l.length+1-cmn r.l s.l:=by rw[e,List.length_map,List.length_range]
   have hXg:∀ j,j<X.length->X[j]?=some { s with l:=s.l.take (cmn r.l s.l+j) }:=fun j hj=>by
    rw[e,List.getElem?_map,List.getElem?_range qo]
    rfl
   refine sq<|rg (fin hT 1 I<|th (sq<|sq (rg<|fin hT 2 I (th<|bk (WC.em ?_)))))
   refine loop (σ:=Nat×(Option Addr×Nat×PH)) (fun x=>[(3,.pointer (some ⟨b3,0,none⟩)),(6,.slice x.2.1 x.1 x.2.2.1),(7,.int .i64 (cmn r.l s.l+x.1:Nat))]) (fun _=>K12)
    (fun x=>x.2.2.2::pt b3 (rlA s ds) 37::pt b2 (rlA r dr) 37::hs) (fun x=>x.1<=X.length/\SlZ 7 37 (RlC K12) x.2.2.2 x.2.1 x.1 x.2.2.1 (X.take x.1)) (fun x=>X.length-x.1)
    (0,(none,0,em)) ⟨Nat.zero_le _,SlZ.nil _ _⟩ ⟨rfl,rfl,rfl,trivial⟩ rfl rfl ?_
   rintro ⟨j,⟨ao,cap,g⟩⟩ ⟨hj,oG⟩;dsimp only at *;refine sq (sq (rg (ldp hT 2 1 (v:=.slice ds.aL s.l.length ds.cL) I I I (cmpS hT 1 I fun b48 h48=>fin hT 0 I (th (ifP h48 I (fun e6=>?_) (fun e6=>?_)))))))
   ·have hjX:j<X.length:=by omega
    obtain ⟨css,q1,q2,q3,q4⟩:=xM;obtain ⟨tl,htl⟩:∃ tl,tl=s.l.take (cmn r.l s.l+j):=⟨_,rfl⟩;have htll:tl.length=cmn r.l s.l+j:=by rw[htl,List.length_take];omega
    refine sk (th (sq (bk (rga [pt b3 (rlA s ds) 37,pt b2 (rlA r dr) 37] 13 [0,2,4,6,8,10,12,14,16,18,21,23,24] (by simp) qk qk (dlds hT qk 2 [.int .u64 s.kt,.int .i64 s.kv] I qk qk (.inr ⟨0,I⟩) (cells_sub _ I) (dlds hT qk 1 (snV s.sn ds.aV ds.cV ds.aD ds.cD).toList I qk qk (.inr ⟨0,I⟩) (cells_sub _ I) (dldp hT qk 1 0 (v:=.slice ds.aL s.l.length ds.cL) I I I (dsl hT qk 1 0 tl.length I I q2 I (by rw[htll];simp) qo (ys:=(css.take tl.length).flatten) (by rw[Nat.zero_mul,List.drop_zero];exact flat_take _ q4) fun ao59 c59 x59=>?_))))))));have xT:SlS 4 (EntC K12) K12 ao59 tl.length c59 tl:=⟨css.take tl.length,rfl,x59,by rw[htll,htl];exact q3.take _,fun d hd=>q4 d (List.mem_of_mem_take hd)⟩;exact dbd hT qk 0 (.agg (rlA { s with l:=tl } ⟨ds.aV,ds.cV,ds.aD,ds.cD,ao59,c59⟩)) I (fun w=>by kernel_rfl) (dact hT qk 0 I (lit hT 0 (rlA { s with l:=tl } ⟨ds.aV,ds.cV,ds.aD,ds.cD,ao59,c59⟩) I (by decide) qk fun b61=>dnex [pt b3 (rlA s ds) 37,pt b2 (rlA r dr) 37] (by simp) (by simp) I (dact hT qk 0 I (appSq hT 0 1 (rlA { s with l:=tl } ⟨ds.aV,ds.cV,ds.aD,ds.cD,ao59,c59⟩).toList { s with l:=tl } I I I oG ⟨_,_,_,_,_,_,I,xW,xE,xT⟩ I (by simp[rlV,Value.oneCell']) I (by decide) (by show (j+1)*104<=_;omega) (by simp only[maxLen];omega) fun ao62 c62 g62 o62=>dnex [pt b3 (rlA s ds) 37,pt b2 (rlA r dr) 37] (by simp) (by simp) rfl (dend hT qk 1 rfl (bl (th (rg (WL.drop (ar hT 1 rfl (i64w (x:=((cmn r.l s.l+(j+1):Nat):Int)) qo) (fin hT 1 rfl (again (x:=(j,(ao,cap,g))) (j+1,(ao62,c62,g62)) ⟨rfl,rfl,rfl,trivial⟩ rfl rfl ⟨by dsimp only;omega,by dsimp only;rw[List.take_add_one,hXg j hjX,<-htl];exact o62⟩ (by dsimp only;omega)))))))))))))
   ·obtain rfl:j=X.length:=by omega
    rw[List.take_length] at oG;exact ex (xt (xt (xb (th (sq (rg (fin hT 2 I (th (rt (WQ.frz fun K2 l1 l2=>WQ.drop (WQ.drop (ret1 I I ⟨l1,I,ao,cap,I,oG.slS.le l2 fun _ _ h=>h.le l1⟩))))))))))))
end
section
theorem appL{α:Type}{P:Program}{T:Tab}{w0:World}{ops:Array Oper}{Q:Exit->Act->World->Prop}{rest rest':List Oper}{n:Nat}{l l':Sl}{K:PH}{hs:List PH}{R:List Value->α->Prop}
  (hT:TabOK P T) (k i:Nat) {d:Nat} {si:SlI} {ao ao2:Option Addr} {n1 c1 n2 c2:Nat} {h h2:PH} {xs ys:List α} (h0:apAt T ops n k rest l=some (d,si,(ao,n1,c1),(ao2,n2,c2),rest',l'))
  (hi:hs[i]?=some h) (o:SlZ si.size si.elem R h ao n1 c1 xs) (hm:In K hs h2) (x:SlS si.size R h2 ao2 n2 c2 ys) (hc:∀ c y,R c y->∀ u∈c,u.oneCell'=true) (hz:si.zero.cells.size=si.size) (hsz:0<si.size) (hn2:0<n2) (hb:(n1+n2)*si.bytes<=140737488355328) (h63:n1+n2<=maxLen)
  (hk:∀ ao' cap' h',SlZ si.size si.elem R h' ao' (n1+n2) cap' (xs++ys)->WL P w0 ops Q rest' n ((d,.slice ao' (n1+n2) cap')::l') K (hs.set i h')):WL P w0 ops Q rest n l K hs:=by
 obtain ⟨css,q1,q2,q3,q4⟩:=o;obtain ⟨dss,p1,p2,p3,p4⟩:=x
 have hone:∀ u∈dss.flatten,u.oneCell'=true:=by
  intro u hu;obtain ⟨c,hcm,huc⟩:=List.mem_flatten.1 hu;obtain ⟨j,hj⟩:=List.mem_iff_getElem?.1 hcm;obtain ⟨h1,h2⟩:=List.getElem?_eq_some_iff.1 hj;have hl:=p3.len;obtain ⟨y,hy⟩:∃ y,ys[j]?=some y:=⟨_,List.getElem?_eq_getElem qo⟩;obtain ⟨c',hc',hr⟩:=p3.get hy;rw[hj] at hc';cases hc';exact hc c y hr u huc
 refine appq hT k i h0 hi q2 hm p2 hz hsz hone hn2 hb h63 fun ao' cap' h' o'=>hk ao' cap' h' (⟨css++dss,by simp[q1,p1],.inl (by simpa using o'),q3.append p3,fun d hd=>?_⟩);rcases List.mem_append.1 hd with hd|hd
 ·exact q4 d hd
 ·exact p4 d hd
end
section
structure CtB where
 M:Nat
 c:Nat
 q:Nat
 l:Nat
structure CtI (b:CtB) (fl:Bool) (k:Nat) (L:Lg) (D:Dk) (was:List Rl):Prop where
 cut:CutI [0,1,2] (b.M+102*k) (2100*(301-k)) L D was
 rn:Rn (b.c+(32303+b.q)*k) (b.q+103*k) L D
 len:L.l.length<=b.l+100*k
 wasb:∀ x∈was,RBd (b.l+100*k) x
 sim:fl=true->Sim k (101*k) L/\Liv (16777216-1300*k) D
theorem vot0_ok:(putConf [0,1,2]).isSome=true:=by decide
theorem CtI.rbd{b:CtB}{fl:Bool}{k:Nat}{L:Lg}{D:Dk}{was:List Rl}(o:CtI b fl k L D was):RBd (b.l+100*k) L.rl:=⟨o.rn.lb.kt,o.rn.lb.idx,o.rn.lb.st,o.rn.lb.vot,o.rn.lb.data,o.len,o.rn.lb.ents⟩
theorem steps_rbd{n:Nat}{r s:Rl}(h:RBd n s):∀ x∈stepsL r s,RBd n x:=by
 intro x hx;unfold stepsL at hx
 split at hx
 ·obtain ⟨j,_,rfl⟩:=List.mem_map.1 hx;exact ⟨h.kt,h.idx,h.st,h.vot,h.data,by dsimp only;rw[List.length_take];have:=h.len;omega,fun e he=>h.ents e (List.mem_of_mem_take he)⟩
 ·simp only[List.mem_singleton] at hx;rw[hx];exact h
def RB0(r:Rl):Prop:=r.kt<=mxU/\r.sn.idx<=lgTop/\r.sn.term<=mxU/\r.sn.vot.length<=7/\r.sn.data.length<=2097152/\∀ e∈r.l,entG e
theorem RBd.doo{n m:Nat}{r:Rl}(o:RBd n r)(p:ROp)(hp:p.bd m)(hl:p.low=true):RBd (n+100) (r.doo p).1:=by
 have hlen:=Rl.doo_len r p;have h4:=(ROp.low_ok hl).2.1;have h0:RB0 r:=⟨o.kt,o.idx,o.st,o.vot,o.data,o.ents⟩;have hx:∀ e∈p.x,e.idx<=mxU/\e.term<=mxU:=fun e he=>⟨(hp.ents e he).1,(hp.ents e he).2.1⟩
 have hsv:RB0 (r.save p.sn).1:=by
  unfold Rl.save
  split
  ·exact h0
  ·rename_i hf;obtain ⟨k1,k2,k3,k4⟩:=rfits_ok (Decidable.not_not.1 hf)
   split
   ·exact h0
   ·exact ⟨o.kt,by dsimp only;omega,hp.st,putConf_len k1,k2,fun e he=>o.ents e (List.mem_of_mem_drop he)⟩
 have hm:RB0 (r.merge p.idx p.term p.x).1:=by
  have h2:∀ (y:List Ent) (last:Nat),(∀ e∈y,entG e)->RB0 (r.merge2 y last).1:=fun y last hy=>by
   have hs:=skp_suf r.sn r.l y true;unfold Rl.merge2
   split
   ·exact h0
   ·rename_i e t h;rw[h] at hs;refine ⟨o.kt,o.idx,o.st,o.vot,o.data,fun a ha=>?_⟩;rcases List.mem_append.1 ha with ha|ha
    ·exact o.ents a<|List.mem_of_mem_take ha
    ·exact hy a<|hs.subset ha
  have h1:∀ (i t:Nat) (y:List Ent) (last:Nat),(∀ e∈y,entG e)->RB0 (r.merge1 i t y last).1:=fun i t y last hy=>by
   unfold Rl.merge1
   split
   ·exact h0
   ·exact h2 y last hy
  unfold Rl.merge
  split
  ·exact h0
  ·rename_i hf;have hok:=fol_ok (Decidable.not_not.1 hf);have hg:∀ e∈p.x,entG e:=fun e he=>⟨hok e he,hx e he⟩
   split
   ·split
    ·exact h0
    ·split
     ·exact h0
     ·exact h1 _ _ _ _ (fun e he=>hg e<|List.mem_of_mem_drop he)
   ·exact h1 _ _ _ _ hg
 have hr:RB0 (r.doo p).1:=by
  unfold Rl.doo
  split
  ·unfold Rl.setHard;dsimp only
   split
   ·exact h0
   ·split
    ·exact h0
    ·exact ⟨hp.ht,h0.2⟩
  ·split
   ·unfold Rl.append;dsimp only
    split
    ·exact h0
    ·rename_i hf;have hok:=fol_ok (Decidable.not_not.1 hf);refine ⟨o.kt,o.idx,o.st,o.vot,o.data,fun a ha=>?_⟩;rcases List.mem_append.1 ha with ha|ha
     ·exact o.ents a ha
     ·exact ⟨hok a ha,hx a ha⟩
   ·split
    ·exact hm
    ·split
     ·exact hsv
     ·split
      ·unfold Rl.install;dsimp only
       split
       ·exact h0
       ·rename_i hf;obtain ⟨k1,k2,k3,k4⟩:=rfits_ok (Decidable.not_not.1 hf)
        split
        ·exact hsv
        ·exact ⟨o.kt,by dsimp only;omega,hp.st,putConf_len k1,k2,by simp⟩
      ·exact h0
 have hol:=o.len;exact ⟨hr.1,hr.2.1,hr.2.2.1,hr.2.2.2.1,hr.2.2.2.2.1,by omega,hr.2.2.2.2.2⟩
theorem CtI.step{b:CtB}{fl:Bool}{k n:Nat}{L:Lg}{D:Dk}{was:List Rl}(o:CtI b fl k L D was)(hk:k<=300)(hM:b.M<=1900000)(hlb:b.l<=900000)(hc:b.c+(32303+b.q)*301<=499000000)(p:ROp)(hp:p.bd n)(hl:p.low=true):
  ((L.doo D p).2.1.dead=true/\fl=false/\Fnd [0,1,2] (b.M+102*(k+1)) (L.doo D p).2.1 [(L.kt,L.kv),((L.rl.doo p).1.kt,(L.rl.doo p).1.kv)] (Was (was++stepsL L.rl (L.rl.doo p).1))/\DOk (b.c+(32303+b.q)*(k+1)) (L.doo D p).2.1) \/
   ((L.doo D p).2.1.dead=false/\(L.doo D p).2.2=(L.rl.doo p).2/\(L.doo D p).1.rl=(L.rl.doo p).1/\CtI b fl (k+1) (L.doo D p).1 (L.doo D p).2.1 (was++stepsL L.rl (L.rl.doo p).1) /\
    ((p.kind=3\/p.kind=4\/p.kind=5)/\(L.rl.doo p).2.code=0->CtI b fl (k+1) (L.doo D p).1 (L.doo D p).2.1 [(L.rl.doo p).1])):=by
 have hmul:(32303+b.q)*k<=(32303+b.q)*301:=Nat.mul_le_mul_left _ qo;have hmul1:(32303+b.q)*(k+1)=(32303+b.q)*k+(32303+b.q):=Nat.mul_succ _ _;have hrn:=(o.rn.doo p hp hl qo).up (c':=b.c+(32303+b.q)*(k+1)) (q':=b.q+103*(k+1)) qo qo;have hlen:=o.len;have h3:=Rl.doo_len L.rl p;have h4:=(ROp.low_ok hl).2.1;have h6:L.rl.l=L.l:=rfl;rw[h6] at h3;have hst:=cut_step vot0_ok (n:=2100*(301-(k+1))) (by have:=o.cut;rw[show 2100*(301-k)=2100*(301-(k+1))+2100 by omega] at this;exact this) qo p hp hl;rw[show b.M+102*k+102=b.M+102*(k+1) by omega] at hst
 have hsim:fl=true->Sim (k+1) (101*(k+1)) (L.doo D p).1/\Liv (16777216-1300*(k+1)) (L.doo D p).2.1:=fun hf=>by
  obtain ⟨s1,s2⟩:=o.sim hf;have ht:=o.cut.top;have ht2:L.sn.idx+L.l.length<lgTop:=ht;have h1:=s1.doo (n:=16777216-1300*(k+1)) p hp hl (s2.mono qo) qo qo qo qo;exact ⟨h1.2.2.1.up qo qo,h1.2.1⟩
 rcases hst with ⟨g1,g2,g3⟩|⟨g1,g2,g3,g4,g5⟩
 ·refine .inl ⟨g1,?_,g2,hrn.ok⟩;cases hfl:fl with
  | false=>rfl
  | true=>have:=(hsim hfl).2.dead;rw[g1] at this;cases this
 ·have hl5:(L.doo D p).1.l=(L.rl.doo p).1.l:=congrArg Rl.l g3;have hlen2:(L.doo D p).1.l.length<=b.l+100*(k+1):=by rw[hl5];omega
  have hrb:RBd (b.l+100*(k+1)) (L.rl.doo p).1:=by
   rw[<-g3];exact ⟨hrn.lb.kt,hrn.lb.idx,hrn.lb.st,hrn.lb.vot,hrn.lb.data,hlen2,hrn.lb.ents⟩
  refine .inr ⟨g1,g2,g3,⟨g4,hrn,hlen2,fun x hx=>?_,hsim⟩,fun hc=>⟨g5 hc,hrn,hlen2,fun x hx=>?_,hsim⟩⟩
  ·rcases List.mem_append.1 hx with hx|hx
   ·exact (o.wasb x hx).up qo
   ·exact steps_rbd hrb x hx
  ·simp only[List.mem_singleton] at hx;rw[hx];exact hrb
end
section
attribute [local irreducible] Code.wp wpList Calls
theorem WQ.lgd{w0:World}{Q:Exit->Act->World->Prop}{e:Exit}{n:Nat}{l:Sl}{K h:PH}{hs:List PH}{lb db:Nat}{L:Lg}{D:Dk}(hL:LgH K lb db L D h)
  (hk:∀ dh,DskH K db D dh->WQ w0 Q e n l K (dh::hs)):WQ w0 Q e n l K (h::hs):=fun a w ha hw=>let ⟨dh,h1,h2⟩:=lg_disk hw hL;hk dh h1 a w ha h2
structure CtS where
 i:Nat
 k:Nat
 K:PH
 h:PH
 L:Lg
 D:Dk
 d:AdL
 was:List Rl
 aw:Option Addr
 cw:Nat
 gw:PH
 bh:Nat
theorem cutW{w0:World}{K dh:PH}{hs:List PH}(db:Nat)(D:Dk)(c:Nat)(oD:DOk c D)(hc:c<=199000000)(hD:DskH K db D dh)(at_:Int)(hat : -9223372036854775808<=at_/\at_<=9223372036854775807)(ao:Option Addr)(cap:Nat)(ops:List ROp)(xs:SlS 10 (OpC K) K ao ops.length cap ops)(hb:∀ o∈ops,o.bd 1048576)(hn:ops.length<=301)
  (b:CtB) (fl:Bool) (L0:Lg) (E0:Dk) (hO:lOpen D [0,1,2]=(some L0,E0,0)) (h0:CtI b fl 0 L0 (E0.arm at_) [L0.rl]) (hr0:Rn b.c b.q L0 E0) (hM:b.M<=1900000) (hlb:b.l<=900000) (hcb:b.c+(32303+b.q)*301<=499000000):
  Ct Tryz.prog w0 25 [.pointer (some ⟨db,0,none⟩),.int .i64 at_,.slice ao ops.length cap] K (dh::hs)
   (fun v K' hs'=>∃ was hard D' dh' aw cw ah ch,hs'=dh'::hs/\Le K K'/\DskH K' db D' dh'/\DOk (b.c+(32303+b.q)*301) D'/\Fnd [0,1,2] (b.M+102*301) D' hard (Was was)/\(∀ x∈was,RBd (b.l+30100) x)/\SlS 7 (RlC K') K' aw was.length cw was/\SlS 2 HdC K' ah hard.length ch hard /\
    v=.tuple #[.slice aw was.length cw,.slice ah hard.length ch,.bool true]/\(fl=true->(∃ o,ops.getLast?=some o/\o.kind=3/\o.low=true)->was.length=1)/\was.length<=1000000000/\hard.length<=2):=by
 have hlen0:=h0.len;refine enter Tryz.func25 qk I I I (sq (rg (fin hT 3 I (th (sq (rg (cl hT 1 I firstW ?_)))))));rintro v21 K1 hs21 ⟨le1,rfl,ao1,cap1,rfl,x1⟩;refine cl hT 0 I (openH db D c oD hc (hD.le le1) [0,1,2] (by simp) ao1 cap1 x1) ?_;rintro v22 K2 hs22 ⟨h,rfl,le2,hX⟩;rw[hO] at hX;rcases hX with ⟨hn',_⟩|⟨L',lb,hL',rfl,hL⟩
 ·cases hn'
 cases hL';refine fin hT 5 I (th (sq (sq (rg (fin hT 2 I (th (ifF I (sk (th (sq (rg (cl hT 1 I (takenW lb db L0 E0 b.c hr0.lb qo hL qo) ?_))))))))))));rintro v28 K3 hs28 ⟨h',rfl,hh,le3,hR⟩;subst hh;obtain ⟨d,rfl,hR⟩:=hR.ad;refine al hT 0 (.agg #[.int .u64 0,.int .i64 0,.int .u64 0,.int .u64 0,.slice none 0 0,.slice none 0 0,.slice none 0 0]) I qk fun b11=>stS hT 0 0 I I qk I I (WL.hs (pt b11 (rlA L0.rl d) 37::h'::hs) I (fin hT 0 I (th (sq (rg (ldS hT 0 0 I I qk (lit hT 0 (rlA L0.rl d) I (by decide) qk fun b30=>fin hT 1 I (th (sq (rg (lds hT 1 [.int .u64 L0.kt,.int .i64 L0.kv] I qk (.inr ⟨1,I⟩) (cells_sub _ I) (lit hT 0 #[.int .u64 L0.kt,.int .i64 L0.kv] I (by decide) qk fun b33=>fin hT 1 I (th (sq (rg (cl hT 2 I (Ct.at 3 I (armL (hL.le le3) at_ hat)) ?_))))))))))))))));rintro v36 K4 hs36 ⟨h4,rfl,le4,hL4,rfl⟩
 refine fin hT 0 I<|th (sq<|sq (rg<|fin hT 3 I (th<|bk ?_)))
 have hw0:SlZ 7 37 (RlC K4) (pt b30 (rlA L0.rl d) 37) (some ⟨b30,0,none⟩) [L0.rl].length 1 [L0.rl]:=
  ⟨[(rlA L0.rl d).toList],rfl,.inl (by simpa using (Own.ofPt (b:=b30) (c:=rlA L0.rl d) (e:=37) (n:=1) (size:=7) (by simp[rlV]) (by simp[maxLen]))),⟨RlS.le le4 hR,trivial⟩,by simp[rlV]⟩
 refine loop (σ:=CtS) (fun s=>[(0,.pointer (some ⟨db,0,none⟩)),(9,.pointer (some ⟨lb,0,none⟩)),(11,.pointer (some ⟨b11,0,none⟩)),(12,.slice s.aw s.was.length s.cw),(13,.slice (some ⟨s.bh,0,none⟩) 1 1),(37,.slice ao ops.length cap),(38,.int .i64 ops.length),(39,.int .i64 s.i)]) (fun s=>s.K)
  (fun s=>pt s.bh #[.int .u64 s.L.kt,.int .i64 s.L.kv] 25::s.gw::pt b11 (rlA s.L.rl s.d) 37::s.h::hs)
  (fun s=>s.i<=ops.length/\s.k<=s.i/\Le K s.K/\LgH s.K lb db s.L s.D s.h/\CtI b fl s.k s.L s.D s.was/\RlS s.K s.L.rl (.agg (rlA s.L.rl s.d))/\SlZ 7 37 (RlC s.K) s.gw s.aw s.was.length s.cw s.was/\s.was.length<=1+2000000*s.i /\
   ∀ o,0<s.i->ops[s.i-1]?=some o->o.kind=3->o.low=true->s.was.length=1) (fun s=>ops.length-s.i) ⟨0,0,K4,h4,L0,E0.arm at_,d,[L0.rl],some ⟨b30,0,none⟩,1,pt b30 (rlA L0.rl d) 37,b33⟩
  ⟨Nat.zero_le _,Nat.le_refl _,((le1.trans le2).trans le3).trans le4,hL4,h0,hR.le le4,hw0,by simp,fun o h=>absurd h (Nat.lt_irrefl _)⟩ ⟨rfl,rfl,rfl,rfl,rfl,rfl,rfl,rfl,trivial⟩ rfl rfl ?_
 rintro ⟨i,k,K1,h1,L,D1,d1,was,aw,cw,gw,bh⟩ ⟨hi,hk,le,hL,hB,hR,hW,hwl,hlast⟩;dsimp only at *;refine sq (rg (cmpS hT 0 I fun b40 h40=>fin hT 0 I (th (sq (ifP h40 I (fun e4=>?_) (fun e4=>?_))))))
 ·have hi1:i<ops.length:=by omega
  obtain ⟨o,ho⟩:∃ o,ops[i]?=some o:=⟨_,List.getElem?_eq_getElem hi1⟩;have hbo:=hb o (List.mem_of_getElem? ho);have xs1:SlS 10 (OpC K1) K1 ao ops.length cap ops:=xs.le le fun _ _ h=>h.le le;obtain ⟨a,dO,rfl,xo,hco⟩:=op_cells xs1 ho;obtain ⟨vs,hvs⟩:=xs1.isS;refine sk (th (sq (bk (sq (rg (ixs hT 0 i I I hvs hi1 (by decide) fun a41 h41=>?_))))));cases h41;refine lds hT 0 (opV o dO).toList I qk (.inl I) hco (al hT 0 (.agg #[.int .i64 0,.int .u64 0,.int .i64 0,.int .u64 0,.int .u64 0,.slice none 0 0,.int .u64 0,.int .u64 0,.slice none 0 0,.slice none 0 0]) I qk fun b15=>stS hT 0 0 I I qk I I (WL.hs (pt b15 (opV o dO) 34::pt bh #[.int .u64 L.kt,.int .i64 L.kv] 25::gw::pt b11 (rlA L.rl d1) 37::h1::hs) I (fin hT 0 I (th (sq (sq (rg (ldS hT 0 0 I I qk (cl hT 0 I (lowW o 1048576 hbo qo dO xo) ?_)))))))));rintro v44 K1 hs44 ⟨rfl,rfl,rfl⟩;refine cbS hT 0 (¬o.low=true) I (by cases o.low <;> simp) fun b45 h45=>?_
  refine' bjo (q:=o.kind=6) hT 1 4 50 [45,46] h45 I I I I I I I (fun _=>?x5) (fun b50 h50=>?_)
  case x5=>
   exact ldp hT 1 0 I I I (cmpS hT 0 I fun b49 h49=>fin hT 1 I<|bjx h49 I I I)
  refine fin hT 0 I<|th (ifP h50 I (fun e7=>?_) (fun e7=>?_))
  ·refine ex (xt (xb (th (rg (ar hT 0 I (i64w qo) (fin hT 1 I (WQ.drop (again (x:=(⟨i,k,K1,h1,L,D1,d1,was,aw,cw,gw,bh⟩:CtS)) (⟨i+1,k,K1,h1,L,D1,d1,was,aw,cw,gw,bh⟩:CtS) ⟨I,I,I,I,I,I,I,I,trivial⟩ I I ⟨by dsimp only;omega,by dsimp only;omega,le,hL,hB,hR,hW,by dsimp only;omega,fun o2 _ h2 h3 h4=>?_⟩ (by (try dsimp only);omega)))))))));dsimp only at h2;rw[Nat.add_sub_cancel,ho] at h2;cases h2;rcases e7 with e7|e7
   ·exact absurd h4 e7
   ·omega
  ·have e7':=not_or.1 e7;have hlow:o.low=true:=by simpa using e7'.1
   have hk3:k<=300:=by omega
   have hst:=hB.step hk3 hM hlb hcb o hbo hlow;have hrn:=hB.rn;have hmul:(32303+b.q)*k<=(32303+b.q)*301:=Nat.mul_le_mul_left _ qo;have hol:=(ROp.low_ok hlow).2.1;refine sk (th (sq (rg (ldS hT 0 3 I I qk (ldS hT 0 0 I I qk (cl hT 0 I (doRC L.rl (b.l+100*k) 1048576 hB.rbd _ hR o hbo qo dO xo) ?_))))));rintro v54 K54 hs54 ⟨le54,rfl,v1,rfl,hR1⟩;obtain ⟨d2,rfl,hR1⟩:=hR1.ad;refine al hT 3 (.agg #[.int .u64 0,.int .i64 0,.int .u64 0,.int .u64 0,.slice none 0 0,.slice none 0 0,.slice none 0 0]) I qk fun b16=>al hT 0 (.agg #[.int .u64 0,.bool false,.int .i64 0]) I qk fun b17=>stS hT 0 1 I I qk I I (stS hT 0 0 I I qk I I (WL.hs (pt b17 (ansV (L.rl.doo o).2) 59::pt b16 (rlA (L.rl.doo o).1 d2) 37::pt b15 (opV o dO) 34::pt bh #[.int .u64 L.kt,.int .i64 L.kv] 25::gw::pt b11 (rlA L.rl d1) 37::h1::hs) I (fin hT 0 I (th (sq (rg (ldS hT 1 2 I I qk (cl hT 0 I (Ct.at 6 I (doesW lb db L D1 (b.c+(32303+b.q)*k) 1048576 hrn.lb qo hrn.ok (hL.le le54) o hbo qo hol dO (xo.le le54))) ?_))))))))
   rintro v59 K59 hs59 ⟨h2,rfl,le59,hL2,rfl⟩;refine al hT 0 (.agg #[.int .u64 0,.bool false,.int .i64 0]) I qk fun b18=>stS hT 0 0 I I qk I I (WL.hs (pt b18 (ansV (L.doo D1 o).2.2) 59::pt b17 (ansV (L.rl.doo o).2) 59::pt b16 (rlA (L.rl.doo o).1 d2) 37::pt b15 (opV o dO) 34::pt bh #[.int .u64 L.kt,.int .i64 L.kv] 25::gw::pt b11 (rlA L.rl d1) 37::h2::hs) I (fin hT 0 I (th (sq (rg ?_)))));have hrb2:=hB.rbd.doo o hbo hlow;refine ldS hT 1 6 I I qk (ldS hT 0 2 I I qk (cl hT 0 I (stepsW L.rl (L.rl.doo o).1 (b.l+100*k+100) (hB.rbd.up qo) hrb2 qo d1 d2 (hR.le (le54.trans le59)) (hR1.le le59)) ?_));rintro v63 K63 hs63 ⟨le63,rfl,as63,cs63,rfl,xs63⟩
   have hsl:0<(stepsL L.rl (L.rl.doo o).1).length/\(stepsL L.rl (L.rl.doo o).1).length<=2000000:=by
    have hl2:=hrb2.len;have hc2:=(cmn_le L.rl.l (L.rl.doo o).1.l).2;unfold stepsL
    split
    ·rw[List.length_map,List.length_range];omega
    ·simp
   refine appL hT 0 5 I I (hW.imp fun _ _ h=>h.le ((le54.trans le59).trans le63)) (.inl I) xs63 (fun c y hcy u hu=>?_) I (by decide) hsl.1 (by show (was.length+_)*104<=_;omega) (by simp only[maxLen];omega) fun ao64 c64 g64 o64=>?_
   ·obtain ⟨dd,hdd,_⟩:=RlS.ad hcy;obtain rfl:c=(rlA y dd).toList:=by cases hdd;rfl
    simp[rlV] at hu;rcases hu with rfl|rfl|rfl|rfl|rfl|rfl|rfl <;> rfl
   refine fin hT 1 I (th (sq (sq (rg (cl hT 1 I (Ct.keep 7 I (deadL (hL2.le le63))) ?_)))));rintro v66 K63 hs66 ⟨rfl,rfl,rfl⟩;rcases hst with ⟨g1,g2,g3,g4⟩|⟨g1,g2,g3,g4,g5⟩
   ·rw[g1];refine fin hT 0 I (th (ifT I (sq (rg (lds hT 3 [.int .u64 (((L.rl.doo o).1.kt:Nat):Int),.int .i64 (L.rl.doo o).1.kv] I qk (.inr ⟨2,I⟩) (cells_sub _ I) (lit hT 0 #[.int .u64 (((L.rl.doo o).1.kt:Nat):Int),.int .i64 (L.rl.doo o).1.kv] I (by decide) qk fun b71=>?_))))))
    have hh0:SlZ 2 25 HdC (pt bh #[.int .u64 L.kt,.int .i64 L.kv] 25) (some ⟨bh,0,none⟩) 1 1 [(L.kt,L.kv)]:=
     ⟨[[.int .u64 L.kt,.int .i64 L.kv]],rfl,.inl (by simpa using (Own.ofPt (b:=bh) (c:=#[.int .u64 L.kt,.int .i64 L.kv]) (e:=25) (n:=1) (size:=2) (by simp) (by simp[maxLen]))),⟨rfl,trivial⟩,by simp⟩
    refine appSq hT 0 5 [.int .u64 (((L.rl.doo o).1.kt:Nat):Int),.int .i64 (L.rl.doo o).1.kv] ((L.rl.doo o).1.kt,(L.rl.doo o).1.kv) I I I hh0 I I (by intro u hu;simp at hu;rcases hu with rfl|rfl <;> rfl) rfl (by decide) (by decide) (by simp[maxLen]) fun ao72 c72 g72 o72=>fin hT 3 rfl (th (rt (rT (rB (rT (rT (rB (rT (WQ.drop (WQ.drop (WQ.drop (WQ.drop (WQ.drop (WQ.frz fun K2 l1 l2=>WQ.frz fun K3 l3 l4=>WQ.drop (WQ.lgd ((hL2.le le63).le (l1.trans l3)) fun dh' hdh=>?_)))))))))))))));have leF:Le K K3:=le.trans (((le54.trans le59).trans le63).trans (l1.trans l3));refine ret3 I I I I ⟨was++stepsL L.rl (L.rl.doo o).1,[(L.kt,L.kv),((L.rl.doo o).1.kt,(L.rl.doo o).1.kv)],(L.doo D1 o).2.1,dh',ao64,c64,ao72,c72,I,leF,hdh,?_,?_,?_,?_,?_,?_,?_⟩
    ·exact g4.up<|Nat.add_le_add_left (Nat.mul_le_mul_left _ qo) _
    ·exact g3.up qo
    ·intro x hx;rcases List.mem_append.1 hx with hx|hx
     ·exact (hB.wasb x hx).up qo
     ·exact (steps_rbd hrb2 x hx).up qo
    ·rw[List.length_append];exact o64.slS.le l4 fun _ _ h=>h.le (l1.trans l3)
    ·exact o72.slS.le (l2.trans l3) fun _ _ h=>h
    ·rw[List.length_append];rfl
    ·exact ⟨fun hf=>by (rw[g2] at hf;cases hf),by rw[List.length_append];omega,by simp⟩
   ·rw[g1];refine fin hT 0 I (th (ifF I (sk (th (sq (sq (rg (ldS hT 0 1 I I qk (ldS hT 0 0 I I qk ?_)))))))));rw[g2];refine eqs hT 0 I qk (fun w=>eqAns _ w) (fin hT 0 I (th (ifF I (sk (th (sq (rg (ldS hT 0 2 I I qk (stS hT 0 6 I I qk I I (WL.hs (pt b18 (ansV (L.rl.doo o).2) 59::pt b17 (ansV (L.rl.doo o).2) 59::pt b16 (rlA (L.rl.doo o).1 d2) 37::pt b15 (opV o dO) 34::pt bh #[.int .u64 L.kt,.int .i64 L.kv] 25::g64::pt b11 (rlA (L.rl.doo o).1 d2) 37::h2::hs) I (fin hT 0 I (th (sq (rg (lds hT 1 [.int .u64 (((L.rl.doo o).1.kt:Nat):Int),.int .i64 (L.rl.doo o).1.kv] I qk (.inr ⟨6,I⟩) (cells_sub _ I) (lit hT 0 #[.int .u64 (((L.rl.doo o).1.kt:Nat):Int),.int .i64 (L.rl.doo o).1.kv] I (by decide) qk fun b79=>fin hT 1 I (th (sq (rg ?_)))))))))))))))))));have hkt:(L.doo D1 o).1.kt=(L.rl.doo o).1.kt:=congrArg Rl.kt g3
    have hkv:(L.doo D1 o).1.kv=(L.rl.doo o).1.kv:=congrArg Rl.kv g3;have leN:Le K K63:=le.trans ((le54.trans le59).trans le63);refine ldp hT 1 4 (v:=.int .i64 o.kind) I I I (cmpS hT 0 I fun b82 h82=>?_)
    refine' bja (q:=o.kind<=5) hT 1 4 87 [82,83] h82 I I I I I I I (fun _=>?x6) (fun b87 h87=>?_)
    case x6=>
     exact ldp hT 1 4 (v:=.int .i64 o.kind) I I I (cmpS hT 0 I fun b86 h86=>fin hT 1 I<|bjx h86 I I I)
    refine' bja (q:=(L.rl.doo o).2.code=0) hT 1 4 92 [87,88] h87 I I I I I I I (fun _=>?x7) (fun b92 h92=>?_)
    case x7=>
     exact ldp hT 1 2 (v:=.int .i64 (L.rl.doo o).2.code) I I I (cmpS hT 0 I fun b91 h91=>fin hT 1 I<|bjx h91 I I I)
    refine fin hT 0 I<|th (ifP h92 I (fun e9=>?_) (fun e9=>?_))
    ·refine rg<|ldS hT 0 7 I I qk (lit hT 0 (rlA (L.rl.doo o).1 d2) I (by decide) qk fun b94=>fin hT 1 I<|bl (th<|rg (ar hT 0 I (i64w qo)<|fin hT 1 I (WQ.fr 7 I<|WQ.drop (WQ.fr 6 I<|WQ.drop (WQ.fr 5 I<|WQ.drop (WQ.fr 4 I<|WQ.drop (WQ.fr 3 I<|WQ.drop (WQ.fr 2 I<|WQ.drop (WQ.fr 1 I ?_))))))))))
     have hw1:SlZ 7 37 (RlC K63) (pt b94 (rlA (L.rl.doo o).1 d2) 37) (some ⟨b94,0,none⟩) [(L.rl.doo o).1].length 1 [(L.rl.doo o).1]:=
      ⟨[(rlA (L.rl.doo o).1 d2).toList],rfl,.inl (by simpa using (Own.ofPt (b:=b94) (c:=rlA (L.rl.doo o).1 d2) (e:=37) (n:=1) (size:=7) (by simp[rlV]) (by simp[maxLen]))),⟨RlS.le (le59.trans le63) hR1,trivial⟩,by simp[rlV]⟩
     have g6:=g5 ⟨by omega,e9.2⟩;refine again (x:=(⟨i,k,K1,h1,L,D1,d1,was,aw,cw,gw,bh⟩:CtS)) (⟨i+1,k+1,K63,h2,(L.doo D1 o).1,(L.doo D1 o).2.1,d2,[(L.rl.doo o).1],some ⟨b94,0,none⟩,1,pt b94 (rlA (L.rl.doo o).1 d2) 37,b79⟩:CtS) ⟨I,I,I,I,I,I,I,I,trivial⟩ I (by dsimp only;rw[hkt,hkv,g3];rfl) ⟨by dsimp only;omega,by dsimp only;omega,leN,hL2.le le63,g6,by dsimp only;rw[g3];exact hR1.le (le59.trans le63),hw1,by simp,fun o2 _ h2 h3 h4=>I⟩ (by (try dsimp only);omega)
    ·refine sk (bl (th (rg (ar hT 0 I (i64w qo) (fin hT 1 I (WQ.fr 5 I (WQ.drop (WQ.fr 4 I (WQ.drop (WQ.fr 3 I (WQ.drop (WQ.fr 2 I (WQ.drop (WQ.fr 1 I (WQ.drop (again (x:=(⟨i,k,K1,h1,L,D1,d1,was,aw,cw,gw,bh⟩:CtS)) (⟨i+1,k+1,K63,h2,(L.doo D1 o).1,(L.doo D1 o).2.1,d2,was++stepsL L.rl (L.rl.doo o).1,ao64,c64,g64,b79⟩:CtS) ⟨I,I,I,by dsimp only;rw[List.length_append];rfl,rfl,rfl,rfl,rfl,trivial⟩ rfl (by dsimp only;rw[hkt,hkv,g3];rfl) ⟨by dsimp only;omega,by dsimp only;omega,leN,hL2.le le63,g4,by dsimp only;rw[g3];exact hR1.le (le59.trans le63),by dsimp only;rw[List.length_append];exact o64,by dsimp only;rw[List.length_append];omega,fun o2 _ h2 h3 h4=>?_⟩ (by (try dsimp only);omega)))))))))))))))));dsimp only at h2;rw[Nat.add_sub_cancel,ho] at h2;cases h2
     exfalso
     refine e9 ⟨⟨by omega,by omega⟩,?_⟩;unfold Rl.doo;rw[if_neg qo,if_neg qo,if_neg qo,if_neg qo,if_neg qo]
 ·have hi2:i=ops.length:=by omega
  subst hi2;refine ex (xt (xt (xb (th (sq (rg (fin hT 5 I (th (rt (WQ.frz fun K2 l1 l2=>WQ.frz fun K3 l3 l4=>WQ.drop (WQ.lgd (hL.le (l1.trans l3)) fun dh' hdh=>?_)))))))))))
  have hh0:SlZ 2 25 HdC (pt bh #[.int .u64 L.kt,.int .i64 L.kv] 25) (some ⟨bh,0,none⟩) 1 1 [(L.kt,L.kv)]:=
   ⟨[[.int .u64 L.kt,.int .i64 L.kv]],rfl,.inl (by simpa using (Own.ofPt (b:=bh) (c:=#[.int .u64 L.kt,.int .i64 L.kv]) (e:=25) (n:=1) (size:=2) (by simp) (by simp[maxLen]))),⟨rfl,trivial⟩,by simp⟩
  refine ret3 I I I I ⟨was,[(L.kt,L.kv)],D1,dh',aw,cw,some ⟨bh,0,none⟩,1,I,le.trans (l1.trans l3),hdh,?_,?_,?_,?_,?_,I,?_⟩
  ·exact hB.rn.ok.up<|Nat.add_le_add_left (Nat.mul_le_mul_left _ qo) _
  ·exact (cut_end vot0_ok hB.cut qo).up qo
  ·exact fun x hx=>(hB.wasb x hx).up qo
  ·exact hW.slS.le l4 fun _ _ h=>h.le<|l1.trans l3
  ·exact hh0.slS.le (l2.trans l3) fun _ _ h=>h
  ·refine ⟨?_,by omega,by simp⟩;rintro hf ⟨o,h1,h2,h3⟩
   have hne:0<ops.length:=by
    cases ops with
    | nil=>cases h1
    | cons a q=>simp
   exact hlast o hne (by rw[<-List.getLast?_eq_getElem?];exact h1) h2 h3
end
section
structure CrI where
 j:Nat
 K:PH
 mm:Ar
 mv:List (Int×Value)
 hl:PH
 room:Int
 ps:List Int
 ap:Option Addr
 cp:Nat
structure CrO where
 i:Nat
 K:PH
 m:List (Int×Ar)
 ins:Ins
 ho:PH
 room:Int
 ps:List Int
 ap:Option Addr
 cp:Nat
abbrev dkE(room:Int)(m:List (Int×Ar)):Dk:=⟨room,0,m,-1,false⟩
theorem crL_some{l:Ar}{n:Int}{r ps:List Int}{m:Ar}{room:Int}{s:Sec}{v:List UInt8}(h:(mget n l).getD Sec0=s)(hf:fndS s (pckP s ps)=some v):crL l (n::r) ps m room=crL l r (pckR s ps) (mset n ⟨[v],true⟩ m) room:=by
 subst h;simp only[crL];rw[hf]
theorem crL_none{l:Ar}{n:Int}{r ps:List Int}{m:Ar}{room:Int}{s:Sec}(h:(mget n l).getD Sec0=s)(hf:fndS s (pckP s ps)=none):crL l (n::r) ps m room=crL l r (pckR s ps) m (room+1):=by
 subst h;simp only[crL];rw[hf]
theorem crA_one{D:Dk}{a:Int}{r qs rs:List Int}{m:List (Int×Ar)}{mm:Ar}{room rm:Int}(h:(mm,rs,rm)=crL (D.ar a) (srtI ((D.ar a).map (·.1))) qs [] room):crA D (a::r) qs m room=crA D r rs (if mm.length=0 then m else mset a mm m) rm:=by
 simp only[crA];rw[<-h]
theorem iv_drop1(ps:List Int)(n:Nat)(h:ps.length=n+1):((iv ps).drop (1*1)).take (n*1)=iv (ps.drop 1):=by
 unfold iv;rw[Nat.mul_one,Nat.mul_one,<-List.map_drop,List.take_of_length_le (by simp;omega)]
attribute [local irreducible] Code.wp wpList Calls
theorem crashC{w0:World}{K:PH}{hs m:List PH}(b:Nat)(D:Dk)(c:Nat)(o:DOk c D)(hc:c<=1000000000)(hm:DskM K b D m)(ps:List Int)(hps:∀ p∈ps,-9223372036854775808<=p/\p<=9223372036854775807)(ap:Option Addr)(cp:Nat)(xp:IsS K ap ps.length cp 1 (iv ps))(hpl:ps.length<1099511627776):
  Ct Tryz.prog w0 26 [.pointer (some ⟨b,0,none⟩),.slice ap ps.length cp] K (m++hs)
   (fun v K' hs'=>Le K K'/\∃ b2 m2,hs'=m2++(m++hs)/\DskM K' b2 (D.crash ps) m2/\v=.pointer (some ⟨b2,0,none⟩)):=by
 obtain ⟨bo,ho,ins,rfl,hO,hI⟩:=hm;have hroom:=o.ok.room;refine enter Tryz.func26 qk I I I (sq (rg (fin hT 1 I (th (sq (rg (ldp hT 3 0 I I I (cl hT 0 I (newDC D.room hroom) ?_))))))));rintro v19 K19 hs19 ⟨rfl,cb,mE,rfl,⟨boE,hoE,insE,rfl,hOE,hIE⟩,rfl⟩
 have hinsE:insE=[]:=by
  cases insE with
  | nil=>rfl
  | cons x r=>exact hIE.elim
 subst hinsE;have hmax:max D.room 0=D.room:=by omega
 have hks:∀ k∈areasL D,k∈D.areas.map (·.1):=fun k hk=>(srtI_perm _).mem_iff.1 hk;have hknd:(areasL D).Nodup:=(srtI_perm _).symm.nodup o.ok.keys;have hkl:(areasL D).length=D.areas.length:=by unfold areasL;rw[(srtI_perm _).length_eq,List.length_map]
 have hlen:=o.len;refine fin hT 1 I (th (sq (sq (rg (WL.perm (hs':=(pt b (dkA D bo) 108::ho::insH ins)++([pt cb (dkA (dk0 D.room) boE) 108,hoE]++hs)) (List.perm_append_comm_assoc [_,_] (pt b (dkA D bo) 108::ho::insH ins) hs) (cl hT 1 I (areasC b D c o.ok qo (fun k hk=>(o.ar k hk).1) ⟨bo,ho,ins,I,hO,hI⟩) ?_))))));rintro v21 K21 hs21 ⟨le1,rfl,ak,ck,rfl,xk⟩;refine WL.perm (hs':=[pt cb (dkA (dkE D.room []) boE) 108,hoE]++((pt b (dkA D bo) 108::ho::insH ins)++(insH ([]:Ins)++hs))) (List.perm_append_comm_assoc (pt b (dkA D bo) 108::ho::insH ins) [_,_] hs) (fin hT 2 I (th (bk ?_)))
 refine loop (σ:=CrO) (fun s=>[(0,.pointer (some ⟨b,0,none⟩)),(1,.slice s.ap s.ps.length s.cp),(5,.pointer (some ⟨cb,0,none⟩)),(21,.slice ak (areasL D).length ck),(22,.int .i64 (((areasL D).length:Nat):Int)),(23,.int .i64 s.i)]) (fun s=>s.K)
  (fun s=>[pt cb (dkA (dkE s.room s.m) boE) 108,s.ho]++((pt b (dkA D bo) 108::ho::insH ins)++(insH s.ins++hs)))
  (fun s=>s.i<=(areasL D).length/\Le K21 s.K/\crA D ((areasL D).drop s.i) s.ps s.m s.room=crA D (areasL D) ps [] D.room/\MpO encU encB s.ho boE (insO s.ins)/\InsR s.K s.ins s.m/\IsS s.K s.ap s.ps.length s.cp 1 (iv s.ps)/\(∀ p∈s.ps,p∈ps)/\s.ps.length<=ps.length /\
   (∀ k∈s.m.map (·.1),k∈(areasL D).take s.i)/\0<=s.room/\s.room<=1099511627776+((c*s.i:Nat):Int)) (fun s=>(areasL D).length-s.i) ⟨0,K21,[],[],hoE,D.room,ps,ap,cp⟩
  ⟨Nat.zero_le _,Le.refl _,rfl,hOE,trivial,xp.le le1,fun _ h=>h,Nat.le_refl _,by simp,hroom.1,by dsimp only;omega⟩ ⟨rfl,rfl,rfl,rfl,rfl,rfl,trivial⟩ rfl rfl ?_
 rintro ⟨i,K1,m,insE,hoE,room,qs,aq,cq⟩ ⟨hi,le,hR,hOE,hIE,xq,hsub,hql,hkm,hr0,hr1⟩;dsimp only at *;refine sq (rg (cmpS hT 0 I fun b24 h24=>fin hT 0 I (th (sq (ifP h24 I (fun e2=>?_) (fun e2=>?_))))))
 ·have hi1:i<(areasL D).length:=by omega
  have hcm:c*(i+1)<=1000000000*1000000000:=Nat.mul_le_mul hc qo;have hcm2:c*(i+1)=c*i+c:=Nat.mul_succ c i;obtain ⟨a,ha⟩:∃ a,(areasL D)[i]?=some a:=⟨_,List.getElem?_eq_getElem hi1⟩;have hamem:a∈areasL D:=List.mem_of_getElem? ha
  have hdrop:(areasL D).drop i=a::(areasL D).drop (i+1):=by
   rw[List.drop_eq_getElem_cons hi1,(List.getElem?_eq_some_iff.1 ha).2]
  obtain ⟨bi,h,tl,hAr,hperm⟩:=arH (hI.le (le1.trans le)) a (insH insE++hs);have hmo:=mget_insO (hI.le (le1.trans le)) hAr;rcases hAr with ⟨g1,_⟩|⟨bi,i1,mv,i2,q1,q2,rfl,g2,g3,g4,g5,g6,hMv,hMR,rfl⟩
  ·exact absurd (hks a hamem)<|mget_none.1 g1
  have hp:=(hperm (pt b (dkA D bo) 108) ho).2 (by simp);have haD:(a,D.ar a)∈D.areas:=by rw[g3];simp
  have hns:=o.ok.ns _ haD;have hat:=o.ok.at_ _ haD;have hvs:=o.ok.vs _ haD;dsimp only at hns hat hvs;have hkeys:=hMR.keys;have hmvl:=hMR.len;obtain ⟨ns,hnsd⟩:∃ ns,ns=srtI ((D.ar a).map (·.1)):=⟨_,rfl⟩;have hnsl:ns.length=(D.ar a).length:=by rw[hnsd,(srtI_perm _).length_eq,List.length_map]
  refine sk (th (sq (bk (sq (rg (ix1 hT 0 i I I I (xk.le le) (show (ivu (areasL D))[i]?=some (.int .u64 a) by unfold ivu;rw[List.getElem?_map,ha];rfl) fun a25 hc25=>?_))))));refine ld hT 0 I (.inl I) hc25 (fin hT 1 I (th (sq (rg (mkm hT 0 I fun bq=>?_)))));have hmap0:=MpO.empty (enc:=encI) (encv:=(id:Value->Value)) bq 0;refine WL.perm (hs':=pt cb (dkA (dkE room m) boE) 108::hoE::sg bq (.map #[] 0)::h::pt b (dkA D bo) 108::ho::(insH i1++(insH i2++(insH insE++hs)))) ((List.perm_append_comm_assoc [_] [_,_] _).trans (((hp.cons _).cons _).cons _)) (fin hT 1 I (th (sq (sq (rg (ldp hT 3 4 I I I (lku hT 1 (z:=.map none) a I Tryz.underlying106 qk keyU I (.inr ⟨5,I⟩) hO ?_)))))));rw[hmo];refine cl hT 0 I (keysC false bi) ?_;rintro v34 K34 hs34 ⟨rfl,b1,rfl,rfl⟩
  refine cl hT 0 I (sortedC false (m:=mv) _ [.pointer (some ⟨b1,0,none⟩)] (by rw[hkeys];exact hns.1) (by rw[hkeys];intro k hk;obtain ⟨y,hy,rfl⟩:=List.mem_map.1 hk;exact (hat y hy).1) (KeyRd h b1 bi) (keysI false id h b1 bi mv (by rw[hkeys];exact hns.1) hMv) qk qo
   (fun x y fr=>⟨⟨_,.inr ⟨2,rfl⟩,Cell.pt rfl⟩,.inr ⟨6,rfl⟩⟩)) ?_
  rintro v35 K35 hs35 ⟨le2,rfl,an,cn,rfl,xn⟩;rw[hkeys,<-hnsd] at xn;rw[show mv.length=ns.length from by omega] at xn ⊢;refine WL.drop (fin hT 2 I (th (bk ?_)))
  refine loop (σ:=CrI) (fun s=>[(0,.pointer (some ⟨b,0,none⟩)),(1,.slice s.ap s.ps.length s.cp),(5,.pointer (some ⟨cb,0,none⟩)),(7,.int .u64 a),(8,.map (some bq)),(21,.slice ak (areasL D).length ck),(22,.int .i64 (((areasL D).length:Nat):Int)),(23,.int .i64 (i:Nat)),(35,.slice an ns.length cn),(36,.int .i64 ns.length),(37,.int .i64 s.j)]) (fun s=>s.K)
   (fun s=>pt cb (dkA (dkE s.room m) boE) 108::hoE::s.hl::h::pt b (dkA D bo) 108::ho::(insH i1++(insH i2++(insH insE++hs))))
   (fun s=>s.j<=ns.length/\Le K35 s.K/\crL (D.ar a) (ns.drop s.j) s.ps s.mm s.room=crL (D.ar a) ns qs [] room/\MpO encI id s.hl bq s.mv/\MR (SecR s.K) s.mv s.mm/\IsS s.K s.ap s.ps.length s.cp 1 (iv s.ps)/\(∀ p∈s.ps,p∈qs)/\s.ps.length<=qs.length/\room<=s.room/\s.room<=room+((s.j:Nat):Int)) (fun s=>ns.length-s.j)
   ⟨0,K35,[],[],sg bq (.map #[] 0),room,qs,aq,cq⟩ ⟨Nat.zero_le _,Le.refl _,rfl,hmap0,trivial,xq.le le2,fun _ h=>h,Nat.le_refl _,Int.le_refl _,by dsimp only;omega⟩ ⟨rfl,rfl,rfl,rfl,rfl,rfl,rfl,rfl,rfl,rfl,rfl,trivial⟩ rfl rfl ?_
  rintro ⟨j,K2,mm,mw,hl,rm,rs,aR,cr⟩ ⟨hj,le3,hQ,hMl,hMRl,xr,hsub2,hrl,hrm0,hrm1⟩;dsimp only at *;refine sq (rg (cmpS hT 0 I fun b38 h38=>fin hT 0 I (th (sq (ifP h38 I (fun e4=>?_) (fun e4=>?_))))))
  ·have hj1:j<ns.length:=by omega
   obtain ⟨n,hn⟩:∃ n,ns[j]?=some n:=⟨_,List.getElem?_eq_getElem hj1⟩;have hnd:ns.drop j=n::ns.drop (j+1):=by rw[List.drop_eq_getElem_cons hj1,(List.getElem?_eq_some_iff.1 hn).2]
   have hnmem:n∈(D.ar a).map (·.1):=by
    have:=List.mem_of_getElem? hn;rw[hnsd] at this;exact (srtI_perm _).mem_iff.1 this
   rcases MR.get n (hMR.imp fun _ _ h=>SecR.le (le2.trans le3) h) with ⟨_,h2⟩|⟨v,s,q1',q2',hsec⟩
   ·exact absurd hnmem<|mget_none.1 h2
   have hsv:=hvs _ (mget_mem q2');dsimp only at hsv;have hgd:(mget n (D.ar a)).getD Sec0=s:=by rw[q2'];rfl
   obtain ⟨av,cv,rfl,xv⟩:=hsec;refine sk (th (sq (bk (sq (rg (ix1 hT 0 j I I I (xn.le le3) (show (ivk false ns)[j]?=some (.int .i64 n) by unfold ivk;rw[List.getElem?_map,hn];rfl) fun a39 hc39=>?_))))));refine ld hT 0 I (.inl I) hc39 (fin hT 1 I (th (sq (rg (ldp hT 3 4 I I I (lku hT 1 (z:=.map none) a I Tryz.underlying106 qk keyU I (.inr ⟨5,I⟩) hO ?_))))));rw[hmo];refine lku hT 1 (z:=.agg #[.slice none 0 0,.bool false]) n I Tryz.underlying113 qk keyI I (.inr ⟨3,I⟩) hMv ?_;rw[q1'];refine al hT 0 (.agg #[.slice none 0 0,.bool false]) I qk fun b11=>stS hT 0 0 I I qk I I (WL.hs (pt b11 #[.slice av s.vs.length cv,.bool s.syn] 120::pt cb (dkA (dkE rm m) boE) 108::hoE::hl::h::pt b (dkA D bo) 108::ho::(insH i1++(insH i2++(insH insE++hs)))) I (fin hT 0 I (th (sq (rg (fin hT 1 I (th ?_)))))))
   refine jn (σ:=Option Addr×Nat) (fun z=>[(0,.pointer (some ⟨b,0,none⟩)),(1,.slice z.1 (pckR s rs).length z.2),(5,.pointer (some ⟨cb,0,none⟩)),(7,.int .u64 a),(8,.map (some bq)),(10,.int .i64 n),(11,.pointer (some ⟨b11,0,none⟩)),(12,.int .i64 (pckP s rs)),(21,.slice ak (areasL D).length ck),(22,.int .i64 (((areasL D).length:Nat):Int)),(23,.int .i64 (i:Nat)),(35,.slice an ns.length cn),(36,.int .i64 ns.length),(37,.int .i64 (j:Nat))])
    (fun _=>pt b11 #[.slice av s.vs.length cv,.bool s.syn] 120::pt cb (dkA (dkE rm m) boE) 108::hoE::hl::h::pt b (dkA D bo) 108::ho::(insH i1++(insH i2++(insH insE++hs)))) (fun z=>IsS K2 z.1 (pckR s rs).length z.2 1 (iv (pckR s rs))) ?_ ?_
   ·refine sq<|rg (cmpS hT 2 I fun b51 h51=>?_)
    refine' bja (q:=s.syn=false\/1<s.vs.length) hT 1 10 62 [51,52] h51 I I I I I I I (fun _=>?x6) (fun b62 h62=>?_)
    case x6=>
     refine ldp hT 1 0 I I I (cbS hT 0 (s.syn=false) I (by cases s.syn <;> simp) fun b55 h55=>?_)
     refine' bjo (q:=1<s.vs.length) hT 1 5 61 [55,56] h55 I I I I I I I (fun _=>?x7) (fun b61 h61=>?_)
     case x7=>
      exact ldp hT 1 0 I I I (cmpS hT 1 I fun b60 h60=>fin hT 1 I<|bjx (h60.trans qo) I I I)
     exact fin hT 1 I<|bjx h61 I I I
    refine fin hT 0 I<|th (ifP h62 I (fun e9=>?_) (fun e9=>?_))
    ·have hu:usesP s rs:=⟨by have:=e9.1;omega,e9.2⟩;obtain ⟨k,hk⟩:∃ k,rs.length=k+1:=⟨rs.length-1,by have:=hu.1;omega⟩;have e1:pckP s rs=rs.headD 0:=if_pos hu;have e2':pckR s rs=rs.drop 1:=if_pos hu;have hkl2:(rs.drop 1).length=k:=by simp;omega
     exact sq (rg (ix1 hT 1 0 I I I xr (u:=.int .i64 (rs.headD 0)) (by cases rs with|nil=>simp at hk|cons x r=>rfl) fun a64 hc64=>ld hT 0 I (.inl I) hc64 (fin hT 1 I (th (rg (sl hT 1 1 k I xr I (by show ((rs.length:Nat):Int)=_;omega) qo (iv_drop1 rs k hk) fun ao67 c67 x67=>fin hT 1 rfl (jx (ao67,c67) (by rw[e2',hkl2];exact x67) ⟨I,by rw[e2',hkl2];rfl,rfl,rfl,rfl,rfl,rfl,by rw[e1];rfl,rfl,rfl,rfl,rfl,rfl,rfl,trivial⟩ rfl rfl)))))))
    ·have hu:¬usesP s rs:=fun h=>e9 ⟨by have:=h.1;omega,h.2⟩;have e1:pckP s rs=0:=if_neg hu;have e2':pckR s rs=rs:=if_neg hu;exact sk (jx (aR,cr) (by rw[e2'];exact xr) ⟨I,by rw[e2'];rfl,rfl,rfl,rfl,rfl,rfl,by rw[e1];rfl,rfl,rfl,rfl,rfl,rfl,rfl,trivial⟩ rfl rfl)
   ·rintro ⟨ar2,cr2⟩ xr2;dsimp only at *
    have hpick : -9223372036854775808<=pckP s rs/\pckP s rs<=9223372036854775807:=by
     unfold pckP
     split
     ·rename_i hu;cases rs with
      | nil=>exact absurd hu.1 (by simp)
      | cons x r=>exact hps x (hsub x (hsub2 x (by simp)))
     ·omega
    have hsubR:∀ p∈pckR s rs,p∈qs:=fun p hp'=>hsub2 p (by
     unfold pckR at hp'
     split at hp'
     ·exact List.mem_of_mem_drop hp'
     ·exact hp')
    have hlenR:(pckR s rs).length<=qs.length:=by
     unfold pckR
     split
     ·simp;omega
     ·exact hrl
    refine sq (rg (ldS hT 0 0 I I qk (cl hT 1 I (secFoundC s _ ⟨av,cv,I,xv⟩ hsv.1 qo (pckP s rs) hpick) ?_)));rintro v71 K71 hs71 ⟨rfl,rfl,rfl⟩;refine fin hT 5 I (th (sq (rg ?_)));cases hf:fndS s (pckP s rs) with
    | some vb=>
     have hstep:crL (D.ar a) (ns.drop j) rs mm rm=crL (D.ar a) (ns.drop (j+1)) (pckR s rs) (mset n ⟨[vb],true⟩ mm) rm:=by
      rw[hnd];exact crL_some hgd hf
     refine fin hT 1 I (th (ifT I (rg (lit hT 3 #[str vb] I (by decide) qk fun b78=>WL.frz fun K3 l1 l2=>?_))));have x78:IsS K3 (some ⟨b78,0,none⟩) 1 1 1 (tvv [vb]):=(Own.ofPt (b:=b78) (c:=#[str vb]) (e:=9) (n:=1) (size:=1) rfl (by decide)).isS.le l2;refine bd hT 0 (.agg #[.slice (some ⟨b78,0,none⟩) 1 1,.bool true]) I (fun w=>by kernel_rfl) (mpu hT 0 3 n (.agg #[.slice (some ⟨b78,0,none⟩) 1 1,.bool true]) I I Tryz.underlying113 keyI I I hMl fun hl' hMl'=>WL.hs (pt b11 #[.slice av s.vs.length cv,.bool s.syn] 120::pt cb (dkA (dkE rm m) boE) 108::hoE::hl'::h::pt b (dkA D bo) 108::ho::(insH i1++(insH i2++(insH insE++hs)))) I (WL.drop (fin hT 0 I (bl (th (rg (ar hT 0 I (i64w (x:=((j+1:Nat):Int)) qo) (fin hT 1 I ?_))))))))
     exact again (x:=(⟨j,K71,mm,mw,hl,rm,rs,aR,cr⟩:CrI)) (⟨j+1,K3,mset n ⟨[vb],true⟩ mm,mset n (.agg #[.slice (some ⟨b78,0,none⟩) 1 1,.bool true]) mw,hl',rm,pckR s rs,ar2,cr2⟩:CrI) ⟨I,I,I,I,I,I,I,I,I,I,I,trivial⟩ I I
      ⟨by dsimp only;omega,le3.trans l1,hstep.symm.trans hQ,hMl',(hMRl.imp fun _ _ h=>SecR.le l1 h).set ⟨_,1,rfl,x78⟩,xr2.le l1,hsubR,hlenR,hrm0,by dsimp only;omega⟩ (by dsimp only;omega)
    | none=>
     have hstep:crL (D.ar a) (ns.drop j) rs mm rm=crL (D.ar a) (ns.drop (j+1)) (pckR s rs) mm (rm+1):=by
      rw[hnd];exact crL_none hgd hf
     refine fin hT 1 I<|th (ifF I<|rg (ldp hT 3 1 I I I<|ar hT 0 I (i64w (x:=rm+1) qo) (stp hT 2 1 I I I I<|WL.hs (pt b11 #[.slice av s.vs.length cv,.bool s.syn] 120::pt cb (dkA (dkE (rm+1) m) boE) 108::hoE::hl::h::pt b (dkA D bo) 108::ho::(insH i1++(insH i2++(insH insE++hs)))) I (WL.drop<|fin hT 0 I (bl<|th (rg<|ar hT 0 I (i64w (x:=((j+1:Nat):Int)) qo) (fin hT 1 I ?_)))))))
     exact again (x:=(⟨j,K71,mm,mw,hl,rm,rs,aR,cr⟩:CrI)) (⟨j+1,K71,mm,mw,hl,rm+1,pckR s rs,ar2,cr2⟩:CrI) ⟨I,I,I,I,I,I,I,I,I,I,I,trivial⟩ I I
      ⟨by dsimp only;omega,le3,hstep.symm.trans hQ,hMl,hMRl,xr2,hsubR,hlenR,by dsimp only;omega,by dsimp only;omega⟩ (by dsimp only;omega)
  ·obtain rfl:j=ns.length:=by omega
   rw[List.drop_length] at hQ;have hQ':(mm,rs,rm)=crL (D.ar a) (srtI ((D.ar a).map (·.1))) qs [] room:=by rw[<-hnsd];exact hQ
   have hstepA:crA D ((areasL D).drop i) qs m room=crA D ((areasL D).drop (i+1)) rs (if mm.length=0 then m else mset a mm m) rm:=by
    rw[hdrop];exact crA_one hQ'
   have hnotin:a∉m.map (·.1):=fun hm'=>by
    have h1:=hkm a hm';have h2:=List.nodup_append.1 (by rw[List.take_append_drop];exact hknd:((areasL D).take i++(areasL D).drop i).Nodup);exact h2.2.2 a h1 a (by rw[hdrop];simp) rfl
   have htk:(areasL D).take (i+1)=(areasL D).take i++[a]:=by rw[List.take_add_one,ha];rfl
   refine ex (xt (xt (xb (th (sq (rg (mln hT 1 I Tryz.underlying113 (.inr ⟨2,I⟩) hMl ?_)))))));have hml:=hMRl.len;refine cmpS hT 0 I fun b90 h90=>fin hT 0 I (th (ifP h90 I (fun e13=>?_) (fun e13=>?_)))
   ·have hm0:mm.length≠0:=by omega
    rw[if_neg hm0] at hstepA;have hnew:mset a mm m=m++[(a,mm)]:=mset_new (mget_none.2 hnotin)
    have hnew2:mset a bq (insO insE)=insO (insE++[(a,bq,hl)]):=by
     rw[mset_new (mget_none.2 (by rw[insO_keys,insKeys hIE];exact hnotin))];simp[insO]
    have hP:(hl::((pt b (dkA D bo) 108::ho::insH ins)++(insH insE++hs))).Perm ((pt b (dkA D bo) 108::ho::insH ins)++(insH (insE++[(a,bq,hl)])++hs)):=by
     have h1:=(List.perm_middle (a:=hl) (l₁:=(pt b (dkA D bo) 108::ho::insH ins)++insH insE) (l₂:=hs)).symm;have h2:insH (insE++[(a,bq,hl)])=insH insE++[hl]:=by simp[insH]
     rw[h2];simpa[List.append_assoc] using h1
    refine rg (ldp hT 3 0 I I I (mpu hT 2 1 a bq I I Tryz.underlying106 keyU I I hOE fun hoE' hOE'=>?_));rw[hnew2] at hOE';refine WL.perm (hs':=[pt cb (dkA (dkE rm (mset a mm m)) boE) 108,hoE']++((pt b (dkA D bo) 108::ho::insH ins)++(insH (insE++[(a,bq,hl)])++hs))) ((((hp.symm.cons _).trans hP).cons _).cons _) (fin hT 0 I (bl (th (rg (ar hT 0 I (i64w (x:=((i+1:Nat):Int)) qo) (fin hT 1 I ?_))))))
    refine again (x:=(⟨i,K21,m,insE,hoE,room,qs,aq,cq⟩:CrO)) (⟨i+1,K2,mset a mm m,insE++[(a,bq,hl)],hoE',rm,rs,aR,cr⟩:CrO) ⟨I,I,I,I,I,I,trivial⟩ I I
     ⟨by dsimp only;omega,(le.trans le2).trans le3,hstepA.symm.trans hR,hOE',?_,xr,fun p hp'=>hsub p (hsub2 p hp'),by dsimp only;omega,?_,by dsimp only;omega,by dsimp only;omega⟩ (by dsimp only;omega)
    ·dsimp only;rw[hnew];exact InsR.app (hIE.le (le2.trans le3)) ⟨I,⟨mw,hMl,hMRl⟩,trivial⟩
    ·dsimp only;intro k hk;rw[hnew,List.map_append] at hk;rw[htk];rcases List.mem_append.1 hk with hk|hk
     ·exact List.mem_append.2 (.inl<|hkm k hk)
     ·exact List.mem_append.2 (.inr (by simpa using hk))
   ·have hm0:mm.length=0:=by omega
    rw[if_pos hm0] at hstepA;refine sk (WQ.perm (hs':=hl::([pt cb (dkA (dkE rm m) boE) 108,hoE]++((pt b (dkA D bo) 108::ho::insH ins)++(insH insE++hs)))) ((((hp.symm.cons _).cons _).cons _).trans (perm_front _ 2 _ I)) (WQ.drop (bl (th (rg (ar hT 0 I (i64w (x:=((i+1:Nat):Int)) qo) (fin hT 1 I ?_)))))))
    refine again (x:=(⟨i,K21,m,insE,hoE,room,qs,aq,cq⟩:CrO)) (⟨i+1,K2,m,insE,hoE,rm,rs,aR,cr⟩:CrO) ⟨I,I,I,I,I,I,trivial⟩ I I
     ⟨by dsimp only;omega,(le.trans le2).trans le3,hstepA.symm.trans hR,hOE,hIE.le (le2.trans le3),xr,fun p hp'=>hsub p (hsub2 p hp'),by dsimp only;omega,fun k hk=>by dsimp only;rw[htk];exact List.mem_append.2 (.inl (hkm k hk)),by dsimp only;omega,by dsimp only;omega⟩ (by dsimp only;omega)
 ·obtain rfl:i=(areasL D).length:=by omega
  rw[List.drop_length] at hR;have hR':(m,room)=crA D (areasL D) ps [] D.room:=hR;have hD:D.crash ps=dkE room m:=by unfold Dk.crash;rw[hmax,<-hR']
  exact ex (xt (xt (xb (th (sq (rg (fin hT 2 I (th (rt (WQ.perm (hs':=(pt cb (dkA (dkE room m) boE) 108::hoE::insH insE)++((pt b (dkA D bo) 108::ho::insH ins)++hs)) (((List.perm_append_comm_assoc (pt b (dkA D bo) 108::ho::insH ins) (insH insE) hs).cons _).cons _) (ret1 I I ⟨le1.trans le,cb,_,I,by rw[hD];exact ⟨boE,hoE,insE,I,hOE,hIE⟩,I⟩)))))))))))
end
section
theorem fndS_mem{s:Sec}{p:Int}{v:List UInt8}(h:fndS s p=some v):v∈s.vs:=by
 unfold fndS at h
 split at h
 ·exact List.mem_of_getElem? h
 ·split at h
  ·cases h
  ·exact List.mem_of_getElem? h
def CrQ(l:Ar)(y:Int×Sec):Prop:=∃ s,mget y.1 l=some s/\∃ v∈s.vs,y.2=⟨[v],true⟩
theorem crL_q(l:Ar):∀ (ns:List Int) (ps:List Int) (m:Ar) (room:Int),(∀ y∈m,CrQ l y)->(∀ n∈ns,∃ s,mget n l=some s)->∀ y∈(crL l ns ps m room).1,CrQ l y
 | [],ps,m,room,h,_=>h
 | n::r,ps,m,room,h,hl=>by
  obtain ⟨s,hs⟩:=hl n (by simp);have e:(mget n l).getD Sec0=s:=by rw[hs];rfl
  unfold crL;rw[e];cases hf:fndS s (pckP s ps) with
  | some v=>
   refine crL_q l r _ _ _ (fun y hy=>?_) (fun j hj=>hl j (by simp[hj]));rcases mset_mem hy with rfl|hy
   ·exact ⟨s,hs,v,fndS_mem hf,I⟩
   ·exact h y hy
  | none=>exact crL_q l r _ _ _ h (fun j hj=>hl j (by simp[hj]))
def CrX(D:Dk)(x:Int×Ar):Prop:=(x.2.map (·.1)).Nodup/\x.2.length<=(D.ar x.1).length/\∀ y∈x.2,CrQ (D.ar x.1) y
def sumA(D:Dk)(ks:List Int):Nat:=(ks.map fun a=>(D.ar a).length).sum
theorem crA_q{c:Nat}{D:Dk}(o:D.Ok c):∀ (ks:List Int) (ps:List Int) (m:List (Int×Ar)) (room:Int),ks.Nodup->(∀ a∈ks,mget a m=none)->(∀ x∈m,CrX D x) ->
  (∀ x∈(crA D ks ps m room).1,CrX D x)/\(crA D ks ps m room).2+(totA (crA D ks ps m room).1:Int)<=room+(totA m:Int)+(sumA D ks:Int)
 | [],ps,m,room,_,_,h=>⟨h,by simp[crA,sumA]⟩
 | a::r,ps,m,room,hn,hma,h=>by
  have hn:=List.nodup_cons.1 hn
  have hnd:((D.ar a).map (·.1)).Nodup:=by
   unfold Dk.ar;cases hg:mget a D.areas with
   | none=>simp
   | some l=>exact (o.ns _ (mget_mem hg)).1
  have hvs:∀ n∈srtI ((D.ar a).map (·.1)),∃ s,mget n (D.ar a)=some s/\s.vs≠[]:=by
   intro n hn;have hn:=(srtI_perm _).mem_iff.1 hn;cases hg:mget n (D.ar a) with
   | none=>exact absurd hn (mget_none.1 hg)
   | some s=>
    refine ⟨s,I,?_⟩;have h1:=mget_mem hg;unfold Dk.ar at h1;cases hg2:mget a D.areas with
    | none=>rw[hg2] at h1;simp at h1
    | some l=>rw[hg2] at h1;exact (o.vs _ (mget_mem hg2) _ h1).1
  obtain ⟨q1,q2,q3,q4,q5,q6⟩:=crL_run (D.ar a) (srtI ((D.ar a).map (·.1))) ps [] room ((srtI_perm _).symm.nodup hnd) (fun _ _=>rfl) hvs (by simp);have q7:=crL_q (D.ar a) (srtI ((D.ar a).map (·.1))) ps [] room (by simp) (fun n hn=>let ⟨s,h1,_⟩:=hvs n hn;⟨s,h1⟩);have hsl:(srtI ((D.ar a).map (·.1))).length=(D.ar a).length:=by rw[(srtI_perm _).length_eq,List.length_map]
  have hsum:sumA D (a::r)=(D.ar a).length+sumA D r:=by simp[sumA]
  unfold crA;generalize crL (D.ar a) (srtI ((D.ar a).map (·.1))) ps [] room=R at q1 q2 q3 q4 q5 q6 q7;obtain ⟨l,ps',room'⟩:=R;dsimp only at q1 q2 q3 q4 q5 q6 q7 ⊢;rw[hsl] at q5 q6;simp only[List.length_nil] at q6
  by_cases h0:l.length=0
  ·rw[if_pos h0];obtain ⟨r1,r2⟩:=crA_q o r ps' m room' hn.2 (fun b hb=>hma b (by simp[hb])) h;exact ⟨r1,by rw[hsum];omega⟩
  ·rw[if_neg h0];have ht:=totA_mset (a:=a) (l:=l) m;rw[hma a (by simp)] at ht;simp only[Option.getD_none,List.length_nil] at ht
   obtain ⟨r1,r2⟩:=crA_q o r ps' (mset a l m) room' hn.2 (fun b hb=>by rw[mget_mset,if_neg (fun e=>hn.1 (by rw[<-e];exact hb))];exact hma b (by simp[hb])) (fun x hx=>by
    rcases mset_mem hx with rfl|hx
    ·exact ⟨q3,by dsimp only;omega,q7⟩
    ·exact h x hx)
   exact ⟨r1,by rw[hsum];omega⟩
theorem mget_of_mem{κ ν:Type}[DecidableEq κ]:∀ {m:List (κ×ν)},(m.map (·.1)).Nodup->∀ x∈m,mget x.1 m=some x.2
 | (k,v)::m,h,x,hx=>by
  simp only[List.map_cons,List.nodup_cons] at h;rcases List.mem_cons.1 hx with rfl|hx
  ·simp[mget]
  ·have hne:¬x.1=k:=fun e=>h.1 (by rw[<-e];exact List.mem_map.2 ⟨x,hx,I⟩);simp only[mget,hne,if_false];exact mget_of_mem h.2 x hx
theorem sumA_tot{c:Nat}{D:Dk}(o:D.Ok c):sumA D (areasL D)=totA D.areas:=by
 unfold sumA areasL totA;rw[((srtI_perm (D.areas.map (·.1))).map fun a=>(D.ar a).length).sum_nat,List.map_map]
 congr 1
 refine List.map_congr_left fun x hx=>?_;simp only[Function.comp_apply];unfold Dk.ar;rw[mget_of_mem o.keys x hx]
 rfl
theorem DOk.crash{c:Nat}{D:Dk}(o:DOk c D)(ps:List Int):DOk (c+1) (D.crash ps):=by
 obtain ⟨r1,r2,r3,r4,r5,r6⟩:=crA_run o.ok (areasL D) ps [] (max D.room 0) ((srtI_perm _).symm.nodup o.ok.keys) (fun _ _=>rfl) (by simp) (by simp);obtain ⟨s1,s2⟩:=crA_q o.ok (areasL D) ps [] (max D.room 0) ((srtI_perm _).symm.nodup o.ok.keys) (fun _ _=>rfl) (by simp);rw[sumA_tot o.ok] at s2;have hroom:=o.ok.room;have hcap:=o.cap
 have hk:∀ k∈(D.crash ps).areas.map (·.1),k∈D.areas.map (·.1):=fun k hk=>by
  rcases r6 k hk with h|h
  ·exact (srtI_perm _).mem_iff.1 h
  ·simp at h
 have hsum:(D.crash ps).room+(totA (D.crash ps).areas:Int)<=D.room+(totA D.areas:Int):=by
  have:(totA ([]:List (Int×Ar)):Int)=0:=rfl;show (crA D (areasL D) ps [] (max D.room 0)).2+(totA (crA D (areasL D) ps [] (max D.room 0)).1:Int)<=_;omega
 have har:∀ x∈(D.crash ps).areas,∃ l,(x.1,l)∈D.areas/\D.ar x.1=l:=fun x hx=>by
  obtain ⟨y,hy,he⟩:=List.mem_map.1 (hk x.1 (List.mem_map.2 ⟨x,hx,rfl⟩));refine ⟨y.2,by rw[<-he];exact hy,?_⟩;unfold Dk.ar;rw[<-he,mget_of_mem o.ok.keys y hy]
  rfl
 refine ⟨⟨r3,fun x hx=>?_,fun x hx y hy=>?_,?_,⟨Int.le_refl 0,by show (0:Int)<=_;omega⟩,⟨by show (-1:Int) <= -1;omega,by show (-1:Int)<=_;omega⟩,fun x hx y hy=>?_⟩,fun k h=>o.ar k (hk k h),?_,by omega⟩
 ·obtain ⟨h1,h2,_⟩:=s1 x hx;obtain ⟨l,hl,e⟩:=har x hx;have:=(o.ok.ns _ hl).2;dsimp only at this;exact ⟨h1,by rw[e] at h2;omega⟩
 ·obtain ⟨_,_,h3⟩:=s1 x hx;obtain ⟨l,hl,e⟩:=har x hx;obtain ⟨s,g1,v,g2,g3⟩:=h3 y hy;rw[e] at g1;have hv:=o.ok.vs _ hl _ (mget_mem g1);rw[g3];exact ⟨by simp,by simp,fun b hb=>by rw[List.mem_singleton.1 hb];exact hv.2.2 v g2⟩
 ·show 0<=(crA D (areasL D) ps [] (max D.room 0)).2/\(crA D (areasL D) ps [] (max D.room 0)).2<=1099511627776;have:(D.crash ps).room=(crA D (areasL D) ps [] (max D.room 0)).2:=rfl;omega
 ·obtain ⟨_,_,h3⟩:=s1 x hx;obtain ⟨l,hl,e⟩:=har x hx;obtain ⟨s,g1,_⟩:=h3 y hy;rw[e] at g1;have h:=o.ok.at_ _ hl _ (mget_mem g1);exact h
 ·have h1:=List.Nodup.length_le_of_subset r3 (l₂:=D.areas.map fun x:Int×Ar=>x.1) (fun k h=>hk k h);have h2:=o.len;simp only[List.length_map] at h1;show (crA D (areasL D) ps [] (max D.room 0)).1.length<=c+1;omega
attribute [local irreducible] Code.wp wpList Calls
theorem crashH{w0:World}{K dh:PH}{hs:List PH}(b:Nat)(D:Dk)(c:Nat)(o:DOk c D)(hc:c<=1000000000)(hD:DskH K b D dh)(ps:List Int)(hps:∀ p∈ps,-9223372036854775808<=p/\p<=9223372036854775807)(ap:Option Addr)(cp:Nat)(xp:IsS K ap ps.length cp 1 (iv ps))(hpl:ps.length<1099511627776):
  Ct Tryz.prog w0 26 [.pointer (some ⟨b,0,none⟩),.slice ap ps.length cp] K (dh::hs)
   (fun v K' hs'=>∃ b2 d2,hs'=d2::dh::hs/\Le K K'/\DskH K' b2 (D.crash ps) d2/\v=.pointer (some ⟨b2,0,none⟩)):=by
 obtain ⟨m,rfl,d,hm⟩:=hD;refine ⟨(crashC (w0:=w0) (hs:=hs) b D c o hc hm ps hps ap cp xp hpl).1,fun w hw=>((crashC (w0:=w0) (hs:=hs) b D c o hc hm ps hps ap cp xp hpl).2 w (hw.split d)).mono ?_⟩;rintro e w' ⟨v,K',hs',rfl,⟨le,b2,m2,rfl,hm2,rfl⟩,hS⟩;obtain ⟨d2,hS2⟩:=Sat.join m2 hS;have hS4:Sat w0 w' K' (m++(uns m2::hs)):=hS2.perm (List.perm_append_comm_assoc [uns m2] m hs);obtain ⟨_,hS5⟩:=Sat.join m hS4;exact ⟨_,K',_,I,⟨b2,uns m2,I,le,⟨m2,I,d2,hm2⟩,I⟩,hS5.perm (List.Perm.swap _ _ _)⟩
end
section
def op3:ROp:=⟨3,0,0,0,0,[],⟨0,0,[],[]⟩⟩
def ad3:AdO:=⟨none,0,none,0,none,0⟩
theorem op3_bd{n:Nat}:op3.bd n:=⟨Nat.zero_le _,by decide,Nat.zero_le _,Nat.zero_le _,Nat.zero_le _,by simp[op3],Nat.zero_le _,Nat.zero_le _,Nat.zero_le _,by simp[op3],Nat.zero_le _⟩
theorem DOk.arm{c:Nat}{D:Dk}(o:DOk c D)(i:Int)(hi:i<=9223372036854775807):DOk c (D.arm i):=by
 unfold Dk.arm
 split
 ·exact o
 ·exact ⟨⟨o.ok.keys,o.ok.ns,o.ok.vs,o.ok.room,o.ok.steps,⟨by dsimp only;omega,by dsimp only;omega⟩,o.ok.at_⟩,o.ar,o.len,o.cap⟩
theorem arm_areas(D:Dk)(i:Int):(D.arm i).areas=D.areas:=by
 unfold Dk.arm
 split <;> rfl
attribute [local irreducible] Code.wp wpList Calls
theorem armm1:(dk0 16777216).arm (-1)=dk0 16777216:=by kernel_rfl
theorem new_inv:∃ S,LInv [0,1,2] 0 lg0 (dk0 16777216) S none/\Cn 0 lg0:=by
 have hc:=crash_cr (dk0_DOk (r:=16777216) qo) [];rw[show (dk0 16777216).crash []=dk0 16777216 from by kernel_rfl] at hc;obtain ⟨L,E,S,h1,_,_,h4,h5,_⟩:=fnd_new vot0_ok (D:=dk0 16777216) rfl _ hc.1 hc.2;rw[open0] at h1;cases h1;exact ⟨S,h4,h5⟩
theorem ct0(b:CtB)(hb:b=⟨0,0,0,0⟩)(i:Int)(hi:i<=9223372036854775807)(fl:Bool)(hf:fl=true->i = -1):CtI b fl 0 lg0 ((dk0 16777216).arm i) [lg0.rl]:=by
 subst hb;obtain ⟨S,h1,h2⟩:=new_inv;have r:=bg0.rn;refine ⟨cut_begin h1 h2 (bg0.liv.mono qo) (by simp[dk0]) (by simp[dk0]) (by decide) i,⟨r.lb,?_,r.old,?_⟩,Nat.le_refl _,?_,fun hf'=>?_⟩
 ·exact r.ok.arm i hi
 ·rw[arm_areas];exact r.ar
 ·intro x hx;rw[List.mem_singleton.1 hx];exact ⟨r.lb.kt,r.lb.idx,r.lb.st,r.lb.vot,r.lb.data,Nat.le_refl _,r.lb.ents⟩
 ·rw[hf hf',armm1];exact ⟨bg0.sim,bg0.liv⟩
theorem lawSynced{w0:World}{K:PH}{hs:List PH}(ao:Option Addr)(cap:Nat)(ops:List ROp)(xs:SlS 10 (OpC K) K ao ops.length cap ops)(hb:∀ o∈ops,o.bd 1048576)(hn:ops.length<1099511627776)
  (ap:Option Addr) (cp:Nat) (ps:List Int) (xp:IsS K ap ps.length cp 1 (iv ps)) (hps:∀ p∈ps,-9223372036854775808<=p/\p<=9223372036854775807) (hpl:ps.length<1099511627776):
  Ct Tryz.prog w0 7 [.slice ao ops.length cap,.slice ap ps.length cp] K hs (fun v K' _=>K'=K/\v=.bool true):=by
 refine Ct.fix2 (R:=fun v K' _=>Le K K'/\v=.bool true) (enter Tryz.func7 qk I I I (sq (rg (fin hT 1 I (th (sq (rg (cl hT 0 I (newH 16777216 qo) ?_)))))))) fun w v K' hs' hS h=>⟨K,hs',⟨I,h.2⟩,hS.weak h.1⟩;rintro v11 K11 hs11 ⟨rfl,db,dh,rfl,hD,rfl⟩;refine fin hT 1 I (th (sq (sq (rg (cbS hT 1 (False) I (by simp) fun b13 h13=>?_)))))
 refine' bjo (q:=False) hT 1 3 17 [13,14] h13 I I I I I I I (fun _=>?x2) (fun b17 h17=>?_)
 case x2=>
  refine cl hT 0 I aliveW ?_;rintro v15 K15 hs15 ⟨rfl,rfl,rfl⟩;exact cbS hT 0 (False) I (by simp) fun b16 h16=>fin hT 1 I (bjx h16 I I I)
 refine fin hT 0 I<|th (ifP h17 I (fun e3=>?_) (fun e3=>?_))
 ·exact absurd e3 (by simp)
 refine sk (th (sq (sq (rg (cl hT 1 I (fewW ao ops.length cap hn) ?_)))));rintro v19 K19 hs19 ⟨rfl,rfl,rfl⟩;refine cbS hT 0 (¬ops.length<=300) I (by by_cases h:ops.length<=300 <;> simp[h]) fun b20 h20=>fin hT 0 rfl (th (ifP h20 rfl (fun e4=>?_) (fun e4=>?_)))
 ·exact sq<|rg (fin hT 1 I<|th (rt<|rT (ret1 I I ⟨Le.refl _,I⟩)))
 have hfew:ops.length<=300:=by omega
 refine sk (th (sq (rg ?_)));obtain ⟨dss,p1,p2,p3,p4⟩:=xs
 have hone:∀ u∈dss.flatten,u.oneCell'=true:=by
  intro u hu;obtain ⟨c,hcm,huc⟩:=List.mem_flatten.1 hu;obtain ⟨j,hj⟩:=List.mem_iff_getElem?.1 hcm;obtain ⟨h1,h2⟩:=List.getElem?_eq_some_iff.1 hj;have hl:=p3.len;obtain ⟨y,hy⟩:∃ y,ops[j]?=some y:=⟨_,List.getElem?_eq_getElem qo⟩;obtain ⟨c',hc',dd,rfl,_⟩:=p3.get hy;rw[hj] at hc';cases hc';simp[opV] at huc;rcases huc with rfl|rfl|rfl|rfl|rfl|rfl|rfl|rfl|rfl|rfl <;> rfl
 refine lit hT 1 #[] I (by decide) qk fun b23=>app hT 1 0 I I (Own.ofPt (c:=#[]) (n:=0) (by simp) (by simp[maxLen])) (.inl I) p2 I (by decide) hone (by show (0+ops.length)*128<=_;omega) (by simp[maxLen];omega) fun ao25 c25 g25 o25=>?_;have s25:SlZ 10 34 (OpC K19) g25 ao25 (0+ops.length) c25 ops:=⟨dss,by omega,.inl (by simpa using o25),p3,p4⟩;refine bd hT 0 (.agg (opV op3 ad3)) I (fun w=>by kernel_rfl) (lit hT 0 (opV op3 ad3) I (by decide) qk fun b27=>appSq hT 0 1 (opV op3 ad3).toList op3 I I I s25 ⟨ad3,I,SlS.nil _ _ _ _,IsS.nil _ _ _ _,IsS.nil _ _ _ _⟩ I (by intro u hu;simp[opV] at hu;rcases hu with rfl|rfl|rfl|rfl|rfl|rfl|rfl|rfl|rfl|rfl <;> rfl) rfl (by decide) (by show (0+ops.length+1)*128<=_;omega) (by simp only[maxLen];omega) fun ao28 c28 g28 o28=>?_);have hl28:0+ops.length+1=(ops++[op3]).length:=by simp
 rw[hl28] at o28 ⊢;refine WL.drop (WL.frz fun K2 l1 l2=>?_);have x28:SlS 10 (OpC K2) K2 ao28 (ops++[op3]).length c28 (ops++[op3]):=o28.slS.le l2 fun _ _ h=>h.le l1;refine cl hT 0 I (cutW db (dk0 16777216) 0 (dk0_DOk qo) qo (hD.le l1) (-1) (by decide) ao28 c28 (ops++[op3]) x28 (fun o ho=>?_) (by rw[<-hl28];omega) ⟨0,0,0,0⟩ true lg0 (dk0 16777216) open0 (ct0 _ rfl _ (by decide) _ fun _=>rfl) bg0.rn (by decide) (by decide) (by decide)) ?_
 ·rcases List.mem_append.1 ho with h|h
  ·exact hb o h
  ·rw[List.mem_singleton.1 h];exact op3_bd
 rintro v29 K29 hs29 ⟨was,hard,D',dh',aw,cw,ah,ch,rfl,le29,hD',oD',hF,hwb,xw,xh,rfl,hw1,hwn,hhn⟩;have hwl:was.length=1:=hw1 rfl ⟨op3,by simp,rfl,by decide⟩;refine fin hT 7 I (th (sq (rg (cl hT 2 I (crashH db D' _ oD' (by decide) hD' ps hps ap cp (xp.le (l1.trans le29)) hpl) ?_))));rintro v35 K35 hs35 ⟨b2,d2,rfl,le35,hC,rfl⟩;have oC:=oD'.crash ps;have hcr:=crash_cr oD' ps;refine fin hT 1 I (th (sq (sq (rg (cbS hT 1 (False) I (by simp) fun b37 h37=>?_)))))
 refine' bjo (q:=False) hT 1 3 41 [37,38] h37 I I I I I I I (fun _=>?x5) (fun b41 h41=>?_)
 case x5=>
  exact cbS hT 1 (False) I (by simp) fun b40 h40=>fin hT 1 I<|bjx h40 I I I
 refine' bjo (q:=¬((was.length:Nat):Int)=1) hT 1 4 46 [41,42] h41 I I I I I I I (fun _=>?x7) (fun b46 h46=>?_)
 case x7=>
  exact cmpS hT 2 I fun b45 h45=>fin hT 1 I<|bjx h45 I I I
 refine fin hT 0 I<|th (ifP h46 I (fun e9=>?_) (fun e9=>?_))
 ·exfalso
  rcases e9 with (e9|e9)|e9
  ·exact e9
  ·exact e9
  ·exact e9 qo
 refine sk (th (sq (rg (cl hT 1 I firstW ?_))));rintro v49 K49 hs49 ⟨le49,rfl,a49,c49,rfl,x49⟩;refine cl hT 0 I (openH b2 (D'.crash ps) _ oC (by decide) (hC.le le49) [0,1,2] (by simp) a49 c49 x49) ?_;rintro v50 K50 hs50 ⟨h,rfl,le50,hX⟩;obtain ⟨L,E,S,g1,g2,g3,_⟩:=hF _ hcr.1 hcr.2;have hRn:=(Rn.opened oC oC.len (first:=[0,1,2]) (L:=L) (by rw[g1])).1;rw[g1] at hX hRn;rcases hX with ⟨hn',_⟩|⟨L',lb,hL',rfl,hL⟩
 ·cases hn'
 cases hL';obtain ⟨x,hx,hx1,hx2⟩:=g3
 have hLl:L.l.length<=1048576:=by
  have:=(hwb x hx).len;rw[hx2] at this;exact Nat.le_trans this (by decide)
 have hlb:=hRn.lb;have leF:Le K29 K50:=(le35.trans le49).trans le50;refine fin hT 5 I (th (sq (rg (cmpS hT 1 I fun b54 h54=>?_))))
 refine' bja (q:=True) hT 1 5 60 [54,55] h54 I I I I I I I (fun _=>?x11) (fun b60 h60=>?_)
 case x11=>
  refine cl hT 3 I (Ct.fix2 (foundW lb b2 L E _ hlb (by decide) hL hLl ⟨hlb.kt,hlb.idx,hlb.st,hlb.vot,hlb.data,hLl,hlb.ents⟩ aw ah cw ch was hard (xw.le leF fun _ _ h=>h.le leF) (xh.le leF fun _ _ h=>h) (fun r hr=>(hwb r hr).up (by decide)) qo qo)
   (R':=fun v K' hs'=>K'=K50/\hs'=h::dh'::hs/\v=.bool true) (fun w v K' hs' hS ⟨h',e1,e2,le,b,e3,e4⟩=>⟨K50,h::dh'::hs,⟨rfl,rfl,by rw[e3,e4.2 ⟨g2,x,hx,hx1,hx2⟩]⟩,by subst e1 e2;exact hS.weak le⟩)) ?_
  rintro v59 K59 hs59 ⟨rfl,rfl,rfl⟩;exact fin hT 1 I (bjx (show true=true↔True by simp) I I I)
 have e60:b60=true:=h60.2 ⟨by rfl,trivial⟩;subst e60;exact fin hT 1 I (th (rt (ret1 I I ⟨(l1.trans le29).trans leF,I⟩)))
end
end Go.En
