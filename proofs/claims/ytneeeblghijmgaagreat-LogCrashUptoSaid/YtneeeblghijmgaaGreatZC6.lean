/-
  Part 6 of what the proof needs (texts Bd Be Bk Bf Bg Bh Bi Bj Bl Bm Zj).
-/
import Derived.Test.YtneeeblghijmgaaGreatZC5
set_option linter.unusedSectionVars false
set_option linter.unusedSimpArgs false
set_option linter.unusedVariables false
namespace Go.En
open Go.Proofs Go.Proofs.YtneeeblghijmgaaGreat
section
theorem cmn_cons(a b:Ent)(l s:List Ent):cmn (a::l) (b::s)=if a=b then cmn l s+1 else 0:=rfl
theorem cmn_drop:∀ (l s:List Ent) (i:Nat),i<=cmn l s->cmn (l.drop i) (s.drop i)+i=cmn l s
 | l,s,0,_=>rfl
 | [],s,i+1,h=>by simp[cmn] at h
 | a::l,[],i+1,h=>by simp[cmn] at h
 | a::l,b::s,i+1,h=>by
  rw[cmn_cons] at h ⊢
  by_cases e:a=b
  ·rw[if_pos e] at h ⊢;have:=cmn_drop l s i qo;rw[List.drop_succ_cons,List.drop_succ_cons];omega
  ·rw[if_neg e] at h;omega
theorem cmn_next{l s:List Ent}{i:Nat}{p q:Ent}(h:i<=cmn l s)(hp:l[i]?=some p)(hq:s[i]?=some q):if p=q then i+1<=cmn l s else cmn l s=i:=by
 have h1:=cmn_drop l s i h;obtain ⟨h2,h3⟩:=List.getElem?_eq_some_iff.1 hp;obtain ⟨h4,h5⟩:=List.getElem?_eq_some_iff.1 hq;rw[List.drop_eq_getElem_cons h2,List.drop_eq_getElem_cons h4,h3,h5,cmn_cons] at h1
 split
 ·rename_i e;rw[if_pos e] at h1;omega
 ·rename_i e;rw[if_neg e] at h1;omega
attribute [local irreducible] Code.wp wpList Calls
theorem RlS.parts{K:PH}{r:Rl}{d:AdL}(h:RlS K r (.agg (rlA r d))):IsS K d.aV r.sn.vot.length d.cV 1 (iv r.sn.vot)/\IsS K d.aD r.sn.data.length d.cD 1 (bv r.sn.data)/\SlS 4 (EntC K) K d.aL r.l.length d.cL r.l:=by
 obtain ⟨aV,cV,aD,cD,aL,cL,e,h1,h2,h3⟩:=h;cases e;exact ⟨h1,h2,h3⟩
theorem stepsW{w0:World}{K:PH}{hs:List PH}(r s:Rl)(n:Nat)(hr:RBd n r)(hsb:RBd n s)(hn:n<=1099511627)(dr ds:AdL)(xr:RlS K r (.agg (rlA r dr)))(xs:RlS K s (.agg (rlA s ds))):
  Ct Tryz.prog w0 50 [.agg (rlA r dr),.agg (rlA s ds)] K hs (fun v K' hs'=>Le K K'/\hs'=hs/\∃ ao cap,v=.slice ao (stepsL r s).length cap/\SlS 7 (RlC K') K' ao (stepsL r s).length cap (stepsL r s)):=by
 obtain ⟨xV,xD,xL⟩:=xr.parts;obtain ⟨xW,xE,xM⟩:=xs.parts;have hrl:=hr.len;have hsl:=hsb.len;have hrv:=hr.vot;refine enter Tryz.func50 qk I I I (sq (rg (bx hT 0 I fun b2=>bx hT 0 I fun b3=>WL.hs (pt b3 (rlA s ds) 37::pt b2 (rlA r dr) 37::hs) I (fin hT 1 I (th (sq (sq (rg (lds hT 1 (snV r.sn dr.aV dr.cV dr.aD dr.cD).toList I qk (.inr ⟨1,I⟩) (cells_sub _ I) (lds hT 1 (snV s.sn ds.aV ds.cV ds.aD ds.cD).toList I qk (.inr ⟨0,I⟩) (cells_sub _ I) (cl hT 0 I (sameSnapRC r.sn s.sn dr.aV ds.aV dr.aD ds.aD dr.cV ds.cV dr.cD ds.cD xV xW xD xE qo) ?_)))))))))));rintro v12 K12 hs12 ⟨rfl,rfl,b12,rfl,h12⟩;refine cbS hT 0 (¬r.sn=s.sn) I (by rw[<-h12];cases b12 <;> simp) fun b13 h13=>fin hT 0 rfl (th (ifP h13 rfl (fun e1=>?_) (fun e1=>?_)))
 ·have e:stepsL r s=[s]:=by unfold stepsL;rw[if_neg e1]
  rw[e];refine sq (rg (ldS hT 0 0 I I qk (lit hT 0 (rlA s ds) I (by decide) qk fun b15=>fin hT 1 I (th (rt (rT (WQ.frz fun K2 l1 l2=>WQ.drop (WQ.drop ?_))))))))
  have xv:IsS (pt b15 (rlA s ds) 37) (some ⟨b15,0,none⟩) 1 1 7 (rlA s ds).toList:=by
   simpa using (Own.ofPt (b:=b15) (c:=rlA s ds) (e:=37) (n:=1) (size:=7) (by simp[rlV]) (by simp[maxLen])).isS
  exact ret1 I I ⟨l1,I,some ⟨b15,0,none⟩,1,I,[(rlA s ds).toList],I,by simpa using xv.le l2,⟨RlS.le l1 xs,trivial⟩,by simp[rlV]⟩
 ·have e1:r.sn=s.sn:=Decidable.not_not.1 e1;have e:stepsL r s=(List.range (s.l.length+1-cmn r.l s.l)).map (fun j=>{ s with l:=s.l.take (cmn r.l s.l+j) }):=by unfold stepsL;rw[if_pos e1]
  obtain ⟨c1,c2⟩:=cmn_le r.l s.l;refine sk (th (sq (rg (fin hT 1 I (th (jn (σ:=Unit) (fun _=>[(3,.pointer (some ⟨b3,0,none⟩)),(5,.int .i64 (cmn r.l s.l:Nat))]) (fun _=>pt b3 (rlA s ds) 37::pt b2 (rlA r dr) 37::hs) (fun _=>True) ?_ ?_))))))
  ·refine bk (loop (σ:=Nat) (fun i=>[(2,.pointer (some ⟨b2,0,none⟩)),(3,.pointer (some ⟨b3,0,none⟩)),(5,.int .i64 (i:Nat))]) (fun _=>K12) (fun _=>pt b3 (rlA s ds) 37::pt b2 (rlA r dr) 37::hs) (fun i=>i<=cmn r.l s.l) (fun i=>r.l.length-i) 0 (Nat.zero_le _) ⟨I,I,I,trivial⟩ I I ?_);rintro i hi
   by_cases hc:i<r.l.length/\i<s.l.length
   ·obtain ⟨h2,h3⟩:=hc;obtain ⟨p,hp⟩:∃ p,r.l[i]?=some p:=⟨_,List.getElem?_eq_getElem h2⟩;obtain ⟨q,hq⟩:∃ q,s.l[i]?=some q:=⟨_,List.getElem?_eq_getElem h3⟩;have hnx:=cmn_next hi hp hq;obtain ⟨a,ap,cp,ha,xp,hcp⟩:=entR_cells xL hp;obtain ⟨a',aq,cq,ha',xq,hcq⟩:=entR_cells xM hq;refine sq (sq (rga [pt b3 (rlA s ds) 37,pt b2 (rlA r dr) 37] 25 [0,2,4,6,8,10,12,14,16,18,20,22,24,26,28,30,32,34,36,38,40,42,44,47,48] (by simp) qk qk (dldp hT qk 2 1 I I I (dcmp hT qk 1 (i<r.l.length) I (by simp) (fun _=>dldp hT qk 3 0 I I I (dcmp hT qk 1 (i<s.l.length) I (by simp) (fun _=>dldp hT qk 3 1 (v:=.slice (some a) r.l.length dr.cL) I I (by rw[<-ha];rfl) (dixs hT qk 1 i rfl rfl h2 (dlds hT qk 0 (p.v ap cp).toList rfl qk qk (.inl rfl) hcp (dldp hT qk 1 0 (v:=.slice (some a') s.l.length ds.cL) rfl rfl (by rw[<-ha'];rfl) (dixs hT qk 1 i rfl rfl h3 (dlds hT qk 0 (q.v aq cq).toList rfl qk qk (.inl rfl) hcq (dact hT qk 0 rfl ?_))))))) (fun h=>absurd h3 h))) (fun h=>absurd h2 h)))))
    refine cl hT 0 I (sameEntry p q ap aq cp cq (.inl I) (.inl I) xp xq) ?_;rintro v39 K12 hs39 ⟨rfl,rfl,b39,rfl,h39⟩;refine dnex [pt b3 (rlA s ds) 37,pt b2 (rlA r dr) 37] (by simp) (by simp) I (dend hT qk 1 I (th (ifB I (fun h4=>?_) (fun h4=>?_))))
    ·subst h4;rw[if_pos (h39.1 rfl)] at hnx;exact sk (th (bk (rg (ar hT 1 I (i64w qo) (fin hT 1 I (bl (again (x:=i) (i+1) ⟨I,I,I,trivial⟩ I I hnx qo)))))))
    ·rw[if_neg (fun e=>by have:=h39.2 e;rw[h4] at this;cases this)] at hnx;refine ex (xt (xt (xb ?_)));rw[<-hnx];exact jx () trivial ⟨I,I,trivial⟩ I I
   ·have he:i=cmn r.l s.l:=by omega
    subst he;refine sq (sq (rga [pt b3 (rlA s ds) 37,pt b2 (rlA r dr) 37] 25 [0,2,4,6,8,10,12,14,16,18,20,22,24,26,28,30,32,34,36,38,40,42,44,46,48] (by simp) qk qk (dldp hT qk 2 1 I I I (dcmp hT qk 1 (cmn r.l s.l<r.l.length) I (by simp) (fun h2=>?_) (fun h2=>?_)))))
    ·exact dldp hT qk 3 0 I I I<|dcmp hT qk 1 (cmn r.l s.l<s.l.length) I (by simp) (fun h3=>absurd ⟨h2,h3⟩ hc) (fun h3=>dend hT qk 14 I<|th (ifF I<|ex (xt<|xt (xb<|jx () trivial ⟨I,I,trivial⟩ I I))))
    ·exact dend hT qk 20 I<|th (ifF I<|ex (xt<|xt (xb<|jx () trivial ⟨I,I,trivial⟩ I I)))
  ·rintro - -;obtain ⟨X,hX⟩:∃ X,X=stepsL r s:=⟨_,rfl⟩;rw[<-hX] at e ⊢;have hXl:X.length=s.l.length+1-cmn r.l s.l:=by rw[e,List.length_map,List.length_range]
   have hXg:∀ j,j<X.length->X[j]?=some { s with l:=s.l.take (cmn r.l s.l+j) }:=fun j hj=>by
    rw[e,List.getElem?_map,List.getElem?_range qo]
    rfl
   refine sq<|rg (fin hT 1 I<|th (sq<|sq (rg<|fin hT 2 I (th<|bk (WC.em ?_)))))
   refine loop (σ:=Nat×(Option Addr×Nat×PH)) (fun x=>[(3,.pointer (some ⟨b3,0,none⟩)),(6,.slice x.2.1 x.1 x.2.2.1),(7,.int .i64 (cmn r.l s.l+x.1:Nat))]) (fun _=>K12)
    (fun x=>x.2.2.2::pt b3 (rlA s ds) 37::pt b2 (rlA r dr) 37::hs) (fun x=>x.1<=X.length/\SlZ 7 37 (RlC K12) x.2.2.2 x.2.1 x.1 x.2.2.1 (X.take x.1)) (fun x=>X.length-x.1)
    (0,(none,0,em)) ⟨Nat.zero_le _,SlZ.nil _ _⟩ ⟨rfl,rfl,rfl,trivial⟩ rfl rfl ?_
   rintro ⟨j,⟨ao,cap,g⟩⟩ ⟨hj,oG⟩;dsimp only at *;refine sq (sq (rg (ldp hT 2 1 (v:=.slice ds.aL s.l.length ds.cL) I I I (cmpS hT 1 I fun b48 h48=>fin hT 0 I (th (ifP h48 I (fun e6=>?_) (fun e6=>?_)))))))
   ·have hjX:j<X.length:=by omega
    obtain ⟨css,q1,q2,q3,q4⟩:=xM;obtain ⟨tl,htl⟩:∃ tl,tl=s.l.take (cmn r.l s.l+j):=⟨_,rfl⟩;have htll:tl.length=cmn r.l s.l+j:=by rw[htl,List.length_take];omega
    refine sk (th (sq (bk (rga [pt b3 (rlA s ds) 37,pt b2 (rlA r dr) 37] 13 [0,2,4,6,8,10,12,14,16,18,21,23,24] (by simp) qk qk (dlds hT qk 2 [.int .u64 s.kt,.int .i64 s.kv] I qk qk (.inr ⟨0,I⟩) (cells_sub _ I) (dlds hT qk 1 (snV s.sn ds.aV ds.cV ds.aD ds.cD).toList I qk qk (.inr ⟨0,I⟩) (cells_sub _ I) (dldp hT qk 1 0 (v:=.slice ds.aL s.l.length ds.cL) I I I (dsl hT qk 1 0 tl.length I I q2 I (by rw[htll];simp) qo (ys:=(css.take tl.length).flatten) (by rw[Nat.zero_mul,List.drop_zero];exact flat_take _ q4) fun ao59 c59 x59=>?_))))))));have xT:SlS 4 (EntC K12) K12 ao59 tl.length c59 tl:=⟨css.take tl.length,rfl,x59,by rw[htll,htl];exact q3.take _,fun d hd=>q4 d (List.mem_of_mem_take hd)⟩;exact dbd hT qk 0 (.agg (rlA { s with l:=tl } ⟨ds.aV,ds.cV,ds.aD,ds.cD,ao59,c59⟩)) I (fun w=>by kernel_rfl) (dact hT qk 0 I (lit hT 0 (rlA { s with l:=tl } ⟨ds.aV,ds.cV,ds.aD,ds.cD,ao59,c59⟩) I (by decide) qk fun b61=>dnex [pt b3 (rlA s ds) 37,pt b2 (rlA r dr) 37] (by simp) (by simp) I (dact hT qk 0 I (appSq hT 0 1 (rlA { s with l:=tl } ⟨ds.aV,ds.cV,ds.aD,ds.cD,ao59,c59⟩).toList { s with l:=tl } I I I oG ⟨_,_,_,_,_,_,I,xW,xE,xT⟩ I (by simp[rlV,Value.oneCell']) I (by decide) (by show (j+1)*104<=_;omega) (by simp only[maxLen];omega) fun ao62 c62 g62 o62=>dnex [pt b3 (rlA s ds) 37,pt b2 (rlA r dr) 37] (by simp) (by simp) rfl (dend hT qk 1 rfl (bl (th (rg (WL.drop (ar hT 1 rfl (i64w (x:=((cmn r.l s.l+(j+1):Nat):Int)) qo) (fin hT 1 rfl (again (x:=(j,(ao,cap,g))) (j+1,(ao62,c62,g62)) ⟨rfl,rfl,rfl,trivial⟩ rfl rfl ⟨by dsimp only;omega,by dsimp only;rw[List.take_add_one,hXg j hjX,<-htl];exact o62⟩ (by dsimp only;omega)))))))))))))
   ·obtain rfl:j=X.length:=by omega
    rw[List.take_length] at oG;exact ex (xt (xt (xb (th (sq (rg (fin hT 2 I (th (rt (WQ.frz fun K2 l1 l2=>WQ.drop (WQ.drop (ret1 I I ⟨l1,I,ao,cap,I,oG.slS.le l2 fun _ _ h=>h.le l1⟩))))))))))))
end
section
theorem appL{α:Type}{P:Program}{T:Tab}{w0:World}{ops:Array Oper}{Q:Exit->Act->World->Prop}{rest rest':List Oper}{n:Nat}{l l':Sl}{K:PH}{hs:List PH}{R:List Value->α->Prop}
  (hT:TabOK P T) (k i:Nat) {d:Nat} {si:SlI} {ao ao2:Option Addr} {n1 c1 n2 c2:Nat} {h h2:PH} {xs ys:List α} (h0:apAt T ops n k rest l=some (d,si,(ao,n1,c1),(ao2,n2,c2),rest',l'))
  (hi:hs[i]?=some h) (o:SlZ si.size si.elem R h ao n1 c1 xs) (hm:In K hs h2) (x:SlS si.size R h2 ao2 n2 c2 ys) (hc:∀ c y,R c y->∀ u∈c,u.oneCell'=true) (hz:si.zero.cells.size=si.size) (hsz:0<si.size) (hn2:0<n2) (hb:(n1+n2)*si.bytes<=140737488355328) (h63:n1+n2<=maxLen)
  (hk:∀ ao' cap' h',SlZ si.size si.elem R h' ao' (n1+n2) cap' (xs++ys)->WL P w0 ops Q rest' n ((d,.slice ao' (n1+n2) cap')::l') K (hs.set i h')):WL P w0 ops Q rest n l K hs:=by
 obtain ⟨css,q1,q2,q3,q4⟩:=o;obtain ⟨dss,p1,p2,p3,p4⟩:=x
 have hone:∀ u∈dss.flatten,u.oneCell'=true:=by
  intro u hu;obtain ⟨c,hcm,huc⟩:=List.mem_flatten.1 hu;obtain ⟨j,hj⟩:=List.mem_iff_getElem?.1 hcm;obtain ⟨h1,h2⟩:=List.getElem?_eq_some_iff.1 hj;have hl:=p3.len;obtain ⟨y,hy⟩:∃ y,ys[j]?=some y:=⟨_,List.getElem?_eq_getElem qo⟩;obtain ⟨c',hc',hr⟩:=p3.get hy;rw[hj] at hc';cases hc';exact hc c y hr u huc
 refine appq hT k i h0 hi q2 hm p2 hz hsz hone hn2 hb h63 fun ao' cap' h' o'=>hk ao' cap' h' (⟨css++dss,by simp[q1,p1],.inl (by simpa using o'),q3.append p3,fun d hd=>?_⟩);rcases List.mem_append.1 hd with hd|hd
 ·exact q4 d hd
 ·exact p4 d hd
end
section
def Rm(k:Nat)(D E:Dk):Prop:=D.room<=E.room+(k:Int)
theorem Rm.refl(k:Nat)(D:Dk):Rm k D D:=by unfold Rm;omega
theorem Rm.up{k j:Nat}{D E:Dk}(h:Rm k D E)(g:k<=j):Rm j D E:=by unfold Rm at *;omega
theorem Rm.trans{k j:Nat}{D E F:Dk}(h:Rm k D E)(g:Rm j E F):Rm (k+j) D F:=by unfold Rm at *;omega
theorem rm_write(D:Dk)(a n:Int)(b:List UInt8):Rm 1 D (D.write a n b).1:=by
 unfold Dk.write
 split
 ·exact Rm.refl _ D
 ·split
  ·exact Rm.refl _ D
  ·split
   ·exact Rm.refl _ D
   ·show D.room<=(if (D.sec a n).isSome=true then D.room else D.room-1)+1
    split <;> omega
theorem rm_sync(D:Dk)(a:Int):Rm 0 D (D.sync a).1:=by
 unfold Dk.sync
 split
 ·exact Rm.refl _ D
 ·split
  ·exact Rm.refl _ D
  ·exact Rm.refl _ D
theorem rm_free(D:Dk)(a:Int):Rm 0 D (D.free a).1:=by
 unfold Dk.free
 split
 ·exact Rm.refl _ D
 ·split
  ·exact Rm.refl _ D
  ·show D.room<=D.room+((D.ar a).length:Int)+0;omega
theorem rm_save(S:Slt)(area:Nat)(D:Dk)(v:List UInt8):Rm 1 D (S.save area D v).2.1:=by
 unfold Slt.save
 split
 ·exact Rm.refl _ D
 ·split
  ·exact (rm_write D _ _ _).trans<|rm_sync _ _
  ·exact rm_write D _ _ _
theorem rm_wrL:∀ (f:Nat) (o:WOp) (D:Dk),Rm (o.rest.length / 63+1) D (wrL f o D).2.1
 | 0,o,D=>Rm.refl _ D
 | f+1,o,D=>by
  have hw:=rm_write D (segA o.num) o.full (UInt8.ofNat (min o.rest.length 63)::o.rest.take (min o.rest.length 63));rw[wrL_step]
  split
  ·exact hw.up qo
  ·rename_i h1
   split
   ·exact hw.up qo
   ·have:=not_or.1 h1;have h2:=rm_wrL f { o with full:=o.full+1,rest:=o.rest.drop 63 } (D.write (segA o.num) o.full (UInt8.ofNat (min o.rest.length 63)::o.rest.take (min o.rest.length 63))).1;dsimp only at h2;rw[List.length_drop] at h2;exact (hw.trans h2).up qo
theorem rm_wrO(o:WOp)(b:List UInt8)(D:Dk):Rm ((o.rest.length+b.length) / 63+1) D (wrO o b D).2.1:=by
 have h:=rm_wrL (o.rest.length+b.length+1) { o with rest:=o.rest++b } D;dsimp only at h
 rwa [List.length_append] at h
theorem rm_wsync(W:Wl)(D:Dk):Rm 0 D (W.sync D).2:=by
 unfold Wl.sync
 split
 ·exact Rm.refl _ D
 ·split
  ·exact Rm.refl _ D
  ·exact rm_sync D _
theorem rm_begin(W:Wl)(i:Nat)(hi:i<18446744073709551616)(D:Dk):Rm 1 D (W.begin i D).2:=by
 have hu:=uint_le10 hi;unfold Wl.begin
 split
 ·exact (rm_wsync W D).up qo
 ·have h:=rm_wrO ⟨W.next,i,0,[]⟩ (uint i) (W.sync D).2;simp only[List.length_nil] at h;exact ((rm_wsync W D).trans h).up qo
theorem rm_wlay(W:Wl){b:List UInt8}(hb:b.length<=512)(D:Dk)(hr:∀ q,W.op=some q->q.rest.length<=62):Rm 10 D (wLay W b D).2.1:=by
 have hp:=(putBytes_le hb).2;unfold wLay;cases hop:W.op with
 | none=>exact Rm.refl _ D
 | some q=>exact (rm_wrO q (putBytes b) D).up (by have:=hr q hop;omega)
theorem rm_wappend{c:Nat}{W:Wl}(o:WBd c W)(b:List UInt8)(D:Dk):Rm 11 D (W.append b D).2.1:=by
 have hl:=o.last;unfold Wl.append
 split
 ·exact Rm.refl _ D
 ·rename_i hw
  split
  ·exact Rm.refl _ D
  ·rename_i hb
   split
   ·exact Rm.refl _ D
   ·split
    ·have h1:=rm_begin W (W.first+W.recs.length) (by unfold wTop at hl;omega) D
     split
     ·exact h1.up qo
     ·rename_i h2;have o1:=o.begin (W.first+W.recs.length) hl D;exact h1.trans (rm_wlay _ qo _ fun q hq=>o1.rest q hq (Decidable.not_not.1 h2))
    ·exact (rm_wlay W qo D fun q hq=>o.rest q hq<|Decidable.not_not.1 hw).up qo
theorem rm_wtrunc(W:Wl)(i:Nat)(hi:i<18446744073709551616)(D:Dk):Rm 1 D (W.truncate i D).2.1:=by
 unfold Wl.truncate
 split
 ·exact Rm.refl _ D
 ·split
  ·exact Rm.refl _ D
  ·split
   ·exact Rm.refl _ D
   ·exact rm_begin W i hi D
theorem rm_wfree(i:Nat):∀ (f:Nat) (old:List (Nat×Nat)) (D:Dk),Rm 0 D (wfree i f old D).2.1
 | 0,old,D=>Rm.refl _ D
 | f+1,old,D=>by
  unfold Go.En.wfree
  split
  ·split
   ·exact rm_free D _
   ·exact (rm_free D _).trans<|rm_wfree i f _ _
  ·exact Rm.refl _ D
theorem rm_compact(W:Wl)(i:Nat)(hi:i<18446744073709551616)(D:Dk):Rm 1 D (W.compact i D).2.1:=by
 have h2:Rm 1 D (W.compact2 i D).2:=by
  unfold Wl.compact2 Wl.compact1
  split
  ·exact (rm_begin W i hi D).trans<|rm_wsync _ _
  ·exact (rm_wsync _ _).up qo
 have h3:=h2.trans (rm_wfree i ((W.compact2 i D).1.old.length+1) (W.compact2 i D).1.old (W.compact2 i D).2);unfold Wl.compact
 split
 ·exact Rm.refl _ D
 ·split
  ·exact Rm.refl _ D
  ·split
   ·exact Rm.refl _ D
   ·split
    ·exact h2
    ·split
     ·exact h3
     ·exact h3
theorem rm_wreset:∀ (l:List Int) (D:Dk),Rm 0 D (wreset l D).1
 | [],D=>Rm.refl _ D
 | a::r,D=>by
  unfold Go.En.wreset
  split
  ·split
   ·exact (rm_free D a).trans<|rm_wreset r _
   ·exact rm_free D a
  ·exact rm_wreset r D
theorem rm_reset(W:Wl)(first:Nat)(D:Dk):Rm 0 D (W.reset first D).2.1:=by
 have h1:=rm_wreset (areasL D) D;unfold Wl.reset
 split
 ·exact Rm.refl _ D
 ·split
  ·exact Rm.refl _ D
  ·split
   ·exact h1
   ·exact h1
theorem rm_setHard(L:Lg)(D:Dk)(t:Nat)(v:Int):Rm 1 D (L.setHard D t v).2.1:=by
 have h:=rm_save L.hard 0 D (uint t++uint (v+1).toNat);unfold Lg.setHard
 split
 ·exact Rm.refl _ D
 ·split
  ·exact Rm.refl _ D
  ·split
   ·exact Rm.refl _ D
   ·split <;> exact h
theorem rm_app1:∀ (x:List Ent) (L:Lg) (D:Dk) (c:Nat),LBd c L->(∀ e∈x,entG e)->Rm (11*x.length) D (Lg.app1 x L D).2.1
 | [],L,D,c,_,_=>Rm.refl _ D
 | e::r,L,D,c,o,hx=>by
  have h1:=rm_wappend o.w e.bytes D;rw[app1_step]
  split
  ·exact h1.up (by simp only[List.length_cons];omega)
  ·exact (h1.trans (rm_app1 r _ _ (c+12) (o.w2 e.bytes D e (hx e (by simp))) (fun y hy=>hx y (by simp[hy])))).up (by simp only[List.length_cons];omega)
theorem rm_append{c:Nat}{L:Lg}(o:LBd c L){D:Dk}(x:List Ent)(hx:∀ e∈x,e.idx<=mxU/\e.term<=mxU):Rm (11*x.length) D (L.append x D).2.1:=by
 unfold Lg.append
 split
 ·exact Rm.refl _ D
 ·split
  ·exact Rm.refl _ D
  ·rename_i h;have hok:=fol_ok (Decidable.not_not.1 h);exact rm_app1 x L D c o (fun e he=>⟨hok e he,hx e he⟩)
theorem rm_merge3{c:Nat}{L:Lg}(o:LBd c L){D:Dk}(x:List Ent)(last:Nat)(hx:∀ e∈x,e.idx<=mxU/\e.term<=mxU):Rm (11*x.length) D (L.merge3 x last D).2.1:=by
 have:=rm_append o (D:=D) x hx;unfold Lg.merge3
 split <;> exact this
theorem rm_merge2{c:Nat}{L:Lg}(o:LBd c L){D:Dk}(y:List Ent)(last:Nat)(hy:∀ e∈y,e.idx<=mxU/\e.term<=mxU):Rm (1+11*y.length) D (L.merge2 y last D).2.1:=by
 have hsuf:=skp_suf L.sn L.l y true;have hmem:∀ e∈(skp L.sn L.l y true).1,e.idx<=mxU/\e.term<=mxU:=fun e he=>hy e (hsuf.subset he);have hlen:=hsuf.length_le;unfold Lg.merge2
 split
 ·exact (rm_merge3 o [] last (by simp)).up (by simp)
 ·rename_i e r h;rw[h] at hmem hlen;have hr:=rm_wtrunc L.w e.idx (by have:=(hmem e (by simp)).1;unfold mxU at this;omega) D
  split
  ·split
   ·exact hr.up qo
   ·exact (hr.trans<|rm_merge3 (o.cutAt e.idx D) (e::r) last hmem).up qo
  ·exact (rm_merge3 o (e::r) last hmem).up qo
theorem rm_merge1{c:Nat}{L:Lg}(o:LBd c L){D:Dk}(i t:Nat)(y:List Ent)(last:Nat)(hy:∀ e∈y,e.idx<=mxU/\e.term<=mxU):Rm (1+11*y.length) D (L.merge1 i t y last D).2.1:=by
 unfold Lg.merge1
 split
 ·exact Rm.refl _ D
 ·exact rm_merge2 o y last hy
theorem rm_merge{c:Nat}{L:Lg}(o:LBd c L){D:Dk}(i t:Nat)(x:List Ent)(hx:∀ e∈x,e.idx<=mxU/\e.term<=mxU):Rm (1+11*x.length) D (L.merge i t x D).2.1:=by
 unfold Lg.merge
 split
 ·exact Rm.refl _ D
 ·split
  ·exact Rm.refl _ D
  ·split
   ·split
    ·exact Rm.refl _ D
    ·split
     ·exact Rm.refl _ D
     ·exact (rm_merge1 o _ _ _ _ (fun e he=>hx e (List.mem_of_mem_drop he))).up (by rw[List.length_drop];omega)
   ·exact rm_merge1 o i t x _ hx
theorem rm_lsync(L:Lg)(D:Dk):Rm 0 D (L.sync D).2.1:=by
 unfold Lg.sync
 split
 ·exact Rm.refl _ D
 ·exact rm_wsync L.w D
theorem rm_lgW(place:Nat):∀ (f n:Nat) (b:List UInt8) (D:Dk),Rm ((b.length+63) / 64) D (lgW place f n b D).1
 | 0,_,_,D=>Rm.refl _ D
 | f+1,n,b,D=>by
  rw[lgW_step]
  split
  ·exact Rm.refl _ D
  ·rename_i hb;have hb:=List.length_pos_iff.2 hb;have h1:=rm_write D (lgA4 place) n (b.take 64)
   split
   ·exact h1.up qo
   ·exact (h1.trans (rm_lgW place f (n+1) (b.drop 64) _)).up (by rw[List.length_drop];omega)
theorem rm_lay(L:Lg)(s:Snp)(fr:Nat)(D:Dk):Rm ((s.data.length+63) / 64+1) D (L.lay s fr D).2.1:=by
 have h1:=rm_lgW (L.place+1) (s.data.length+1) 0 s.data D;unfold Lg.lay
 split
 ·exact h1.up qo
 ·unfold Lg.lay1;have h2:=h1.trans (rm_sync _ (lgA4 (L.place+1)))
  split
  ·exact h2.up qo
  ·unfold Lg.lay2;have h3:=h2.trans (rm_save L.head 4 _ (Lg.say s (L.place+1) fr))
   split
   ·exact h3.up qo
   ·unfold Lg.lay3;exact (h3.trans (rm_free _ (lgA4 L.place))).up qo
theorem rm_lsave(L:Lg)(s:Snp)(hst:s.term<=mxU)(D:Dk):Rm ((s.data.length+63) / 64+2) D (L.save s D).2.1:=by
 unfold Lg.save
 split
 ·exact Rm.refl _ D
 ·rename_i hf;have hs:=(fits_ok (Decidable.not_not.1 hf)).2.2.2
  split
  ·exact Rm.refl _ D
  ·unfold Lg.save1;have h1:=rm_lsync L D
   split
   ·exact h1.up qo
   ·unfold Lg.save2;have h2:=h1.trans (rm_lay (L.sync D).1 s (L.sync D).1.fr (L.sync D).2.1)
    split
    ·exact h2.up qo
    ·exact (h2.trans (rm_compact _ (s.idx+1) (by unfold lgTop at hs;omega) _)).up qo
theorem rm_install(L:Lg)(s:Snp)(hst:s.term<=mxU)(D:Dk):Rm ((s.data.length+63) / 64+2) D (L.install s D).2.1:=by
 unfold Lg.install
 split
 ·exact Rm.refl _ D
 ·split
  ·exact rm_lsave L s hst D
  ·unfold Lg.inst1;have h2:=rm_lay L s L.w.next D
   split
   ·exact h2.up qo
   ·exact (h2.trans<|rm_reset _ (s.idx+1) _).up qo
theorem rm_doo{c n:Nat}{L:Lg}(o:LBd c L)(D:Dk)(p:ROp)(hp:p.bd n)(hl:p.low=true):Rm 1101 D (L.doo D p).2.1:=by
 obtain ⟨h1,h2,h3⟩:=ROp.low_ok hl;have hx:∀ e∈p.x,e.idx<=mxU/\e.term<=mxU:=fun e he=>⟨(hp.ents e he).1,(hp.ents e he).2.1⟩;unfold Lg.doo
 split
 ·exact (rm_setHard L D p.ht p.hv).up qo
 ·split
  ·exact (rm_append o p.x hx).up qo
  ·split
   ·exact (rm_merge o p.idx p.term p.x hx).up qo
   ·split
    ·exact (rm_lsync L D).up qo
    ·split
     ·exact (rm_lsave L p.sn hp.st D).up qo
     ·split
      ·exact (rm_install L p.sn hp.st D).up qo
      ·exact Rm.refl _ D
end
section
structure CtB where
 M:Nat
 c:Nat
 q:Nat
 l:Nat
 r:Int
structure CtI (b:CtB) (fl:Bool) (k:Nat) (L:Lg) (D:Dk) (was:List Rl):Prop where
 cut:CutI [0,1,2] (b.M+102*k) (2100*(301-k)) L D was
 rn:Rn (b.c+(32303+b.q)*k) (b.q+103*k) L D
 len:L.l.length<=b.l+100*k
 wasb:∀ x∈was,RBd (b.l+100*k) x
 sim:fl=true->Sim k (101*k) L/\Liv (16777216-1300*k) D
 room:b.r<=D.room+((1101*k:Nat):Int)
theorem vot0_ok:(putConf [0,1,2]).isSome=true:=by decide
theorem CtI.rbd{b:CtB}{fl:Bool}{k:Nat}{L:Lg}{D:Dk}{was:List Rl}(o:CtI b fl k L D was):RBd (b.l+100*k) L.rl:=⟨o.rn.lb.kt,o.rn.lb.idx,o.rn.lb.st,o.rn.lb.vot,o.rn.lb.data,o.len,o.rn.lb.ents⟩
theorem steps_rbd{n:Nat}{r s:Rl}(h:RBd n s):∀ x∈stepsL r s,RBd n x:=by
 intro x hx;unfold stepsL at hx
 split at hx
 ·obtain ⟨j,_,rfl⟩:=List.mem_map.1 hx;exact ⟨h.kt,h.idx,h.st,h.vot,h.data,by dsimp only;rw[List.length_take];have:=h.len;omega,fun e he=>h.ents e (List.mem_of_mem_take he)⟩
 ·simp only[List.mem_singleton] at hx;rw[hx];exact h
def RB0(r:Rl):Prop:=r.kt<=mxU/\r.sn.idx<=lgTop/\r.sn.term<=mxU/\r.sn.vot.length<=7/\r.sn.data.length<=2097152/\∀ e∈r.l,entG e
theorem RBd.doo{n m:Nat}{r:Rl}(o:RBd n r)(p:ROp)(hp:p.bd m)(hl:p.low=true):RBd (n+100) (r.doo p).1:=by
 have hlen:=Rl.doo_len r p;have h4:=(ROp.low_ok hl).2.1;have h0:RB0 r:=⟨o.kt,o.idx,o.st,o.vot,o.data,o.ents⟩;have hx:∀ e∈p.x,e.idx<=mxU/\e.term<=mxU:=fun e he=>⟨(hp.ents e he).1,(hp.ents e he).2.1⟩
 have hsv:RB0 (r.save p.sn).1:=by
  unfold Rl.save
  split
  ·exact h0
  ·rename_i hf;obtain ⟨k1,k2,k3,k4⟩:=rfits_ok (Decidable.not_not.1 hf)
   split
   ·exact h0
   ·exact ⟨o.kt,by dsimp only;omega,hp.st,putConf_len k1,k2,fun e he=>o.ents e (List.mem_of_mem_drop he)⟩
 have hm:RB0 (r.merge p.idx p.term p.x).1:=by
  have h2:∀ (y:List Ent) (last:Nat),(∀ e∈y,entG e)->RB0 (r.merge2 y last).1:=fun y last hy=>by
   have hs:=skp_suf r.sn r.l y true;unfold Rl.merge2
   split
   ·exact h0
   ·rename_i e t h;rw[h] at hs;refine ⟨o.kt,o.idx,o.st,o.vot,o.data,fun a ha=>?_⟩;rcases List.mem_append.1 ha with ha|ha
    ·exact o.ents a<|List.mem_of_mem_take ha
    ·exact hy a<|hs.subset ha
  have h1:∀ (i t:Nat) (y:List Ent) (last:Nat),(∀ e∈y,entG e)->RB0 (r.merge1 i t y last).1:=fun i t y last hy=>by
   unfold Rl.merge1
   split
   ·exact h0
   ·exact h2 y last hy
  unfold Rl.merge
  split
  ·exact h0
  ·rename_i hf;have hok:=fol_ok (Decidable.not_not.1 hf);have hg:∀ e∈p.x,entG e:=fun e he=>⟨hok e he,hx e he⟩
   split
   ·split
    ·exact h0
    ·split
     ·exact h0
     ·exact h1 _ _ _ _ (fun e he=>hg e<|List.mem_of_mem_drop he)
   ·exact h1 _ _ _ _ hg
 have hr:RB0 (r.doo p).1:=by
  unfold Rl.doo
  split
  ·unfold Rl.setHard;dsimp only
   split
   ·exact h0
   ·split
    ·exact h0
    ·exact ⟨hp.ht,h0.2⟩
  ·split
   ·unfold Rl.append;dsimp only
    split
    ·exact h0
    ·rename_i hf;have hok:=fol_ok (Decidable.not_not.1 hf);refine ⟨o.kt,o.idx,o.st,o.vot,o.data,fun a ha=>?_⟩;rcases List.mem_append.1 ha with ha|ha
     ·exact o.ents a ha
     ·exact ⟨hok a ha,hx a ha⟩
   ·split
    ·exact hm
    ·split
     ·exact hsv
     ·split
      ·unfold Rl.install;dsimp only
       split
       ·exact h0
       ·rename_i hf;obtain ⟨k1,k2,k3,k4⟩:=rfits_ok (Decidable.not_not.1 hf)
        split
        ·exact hsv
        ·exact ⟨o.kt,by dsimp only;omega,hp.st,putConf_len k1,k2,by simp⟩
      ·exact h0
 have hol:=o.len;exact ⟨hr.1,hr.2.1,hr.2.2.1,hr.2.2.2.1,hr.2.2.2.2.1,by omega,hr.2.2.2.2.2⟩
theorem CtI.step{b:CtB}{fl:Bool}{k n:Nat}{L:Lg}{D:Dk}{was:List Rl}(o:CtI b fl k L D was)(hk:k<=300)(hM:b.M<=1900000)(hlb:b.l<=900000)(hc:b.c+(32303+b.q)*301<=499000000)(p:ROp)(hp:p.bd n)(hl:p.low=true):
  ((L.doo D p).2.1.dead=true/\fl=false/\Fnd [0,1,2] (b.M+102*(k+1)) (L.doo D p).2.1 [(L.kt,L.kv),((L.rl.doo p).1.kt,(L.rl.doo p).1.kv)] (Was (was++stepsL L.rl (L.rl.doo p).1))/\DOk (b.c+(32303+b.q)*(k+1)) (L.doo D p).2.1/\(∀ x∈was++stepsL L.rl (L.rl.doo p).1,x.top<lgTop)/\(L.doo D p).2.1.areas.length<=b.q+103*(k+1)/\b.r<=(L.doo D p).2.1.room+((1101*(k+1):Nat):Int)) \/
   ((L.doo D p).2.1.dead=false/\(L.doo D p).2.2=(L.rl.doo p).2/\(L.doo D p).1.rl=(L.rl.doo p).1/\CtI b fl (k+1) (L.doo D p).1 (L.doo D p).2.1 (was++stepsL L.rl (L.rl.doo p).1) /\
    ((p.kind=3\/p.kind=4\/p.kind=5)/\(L.rl.doo p).2.code=0->CtI b fl (k+1) (L.doo D p).1 (L.doo D p).2.1 [(L.rl.doo p).1])):=by
 have hmul:(32303+b.q)*k<=(32303+b.q)*301:=Nat.mul_le_mul_left _ qo;have hmul1:(32303+b.q)*(k+1)=(32303+b.q)*k+(32303+b.q):=Nat.mul_succ _ _;have hrn:=(o.rn.doo p hp hl qo).up (c':=b.c+(32303+b.q)*(k+1)) (q':=b.q+103*(k+1)) qo qo
 have hrm:b.r<=(L.doo D p).2.1.room+((1101*(k+1):Nat):Int):=by
  have h1:=rm_doo o.rn.lb D p hp hl;have h2:=o.room;unfold Rm at h1;omega
 have hlen:=o.len;have h3:=Rl.doo_len L.rl p;have h4:=(ROp.low_ok hl).2.1;have h6:L.rl.l=L.l:=rfl;rw[h6] at h3;have hst:=cut_step vot0_ok (n:=2100*(301-(k+1))) (by have:=o.cut;rw[show 2100*(301-k)=2100*(301-(k+1))+2100 by omega] at this;exact this) qo p hp hl;rw[show b.M+102*k+102=b.M+102*(k+1) by omega] at hst
 have hsim:fl=true->Sim (k+1) (101*(k+1)) (L.doo D p).1/\Liv (16777216-1300*(k+1)) (L.doo D p).2.1:=fun hf=>by
  obtain ⟨s1,s2⟩:=o.sim hf;have ht:=o.cut.top;have ht2:L.sn.idx+L.l.length<lgTop:=ht;have h1:=s1.doo (n:=16777216-1300*(k+1)) p hp hl (s2.mono qo) qo qo qo qo;exact ⟨h1.2.2.1.up qo qo,h1.2.1⟩
 rcases hst with ⟨g1,g2,g3⟩|⟨g1,g2,g3,g4,g5⟩
 ·refine .inl ⟨g1,?_,g2,hrn.ok,g3,hrn.ar,hrm⟩;cases hfl:fl with
  | false=>rfl
  | true=>have:=(hsim hfl).2.dead;rw[g1] at this;cases this
 ·have hl5:(L.doo D p).1.l=(L.rl.doo p).1.l:=congrArg Rl.l g3;have hlen2:(L.doo D p).1.l.length<=b.l+100*(k+1):=by rw[hl5];omega
  have hrb:RBd (b.l+100*(k+1)) (L.rl.doo p).1:=by
   rw[<-g3];exact ⟨hrn.lb.kt,hrn.lb.idx,hrn.lb.st,hrn.lb.vot,hrn.lb.data,hlen2,hrn.lb.ents⟩
  refine .inr ⟨g1,g2,g3,⟨g4,hrn,hlen2,fun x hx=>?_,hsim,hrm⟩,fun hc=>⟨g5 hc,hrn,hlen2,fun x hx=>?_,hsim,hrm⟩⟩
  ·rcases List.mem_append.1 hx with hx|hx
   ·exact (o.wasb x hx).up qo
   ·exact steps_rbd hrb x hx
  ·simp only[List.mem_singleton] at hx;rw[hx];exact hrb
end
section
attribute [local irreducible] Code.wp wpList Calls
theorem WQ.lgd{w0:World}{Q:Exit->Act->World->Prop}{e:Exit}{n:Nat}{l:Sl}{K h:PH}{hs:List PH}{lb db:Nat}{L:Lg}{D:Dk}(hL:LgH K lb db L D h)
  (hk:∀ dh,DskH K db D dh->WQ w0 Q e n l K (dh::hs)):WQ w0 Q e n l K (h::hs):=fun a w ha hw=>let ⟨dh,h1,h2⟩:=lg_disk hw hL;hk dh h1 a w ha h2
structure CtS where
 i:Nat
 k:Nat
 K:PH
 h:PH
 L:Lg
 D:Dk
 d:AdL
 was:List Rl
 aw:Option Addr
 cw:Nat
 gw:PH
 bh:Nat
theorem cutW{w0:World}{K dh:PH}{hs:List PH}(db:Nat)(D:Dk)(c:Nat)(oD:DOk c D)(hc:c<=199000000)(hD:DskH K db D dh)(at_:Int)(hat : -9223372036854775808<=at_/\at_<=9223372036854775807)(ao:Option Addr)(cap:Nat)(ops:List ROp)(xs:SlS 10 (OpC K) K ao ops.length cap ops)(hb:∀ o∈ops,o.bd 1048576)(hn:ops.length<=301)
  (b:CtB) (fl:Bool) (L0:Lg) (E0:Dk) (hO:lOpen D [0,1,2]=(some L0,E0,0)) (h0:CtI b fl 0 L0 (E0.arm at_) [L0.rl]) (hr0:Rn b.c b.q L0 E0) (hM:b.M<=1900000) (hlb:b.l<=900000) (hcb:b.c+(32303+b.q)*301<=499000000):
  Ct Tryz.prog w0 25 [.pointer (some ⟨db,0,none⟩),.int .i64 at_,.slice ao ops.length cap] K (dh::hs)
   (fun v K' hs'=>∃ was hard D' dh' aw cw ah ch,hs'=dh'::hs/\Le K K'/\DskH K' db D' dh'/\DOk (b.c+(32303+b.q)*301) D'/\Fnd [0,1,2] (b.M+102*301) D' hard (Was was)/\(∀ x∈was,RBd (b.l+30100) x)/\SlS 7 (RlC K') K' aw was.length cw was/\SlS 2 HdC K' ah hard.length ch hard /\
    v=.tuple #[.slice aw was.length cw,.slice ah hard.length ch,.bool true]/\(fl=true->(∃ o,ops.getLast?=some o/\o.kind=3/\o.low=true)->was.length=1)/\was.length<=1000000000/\hard.length<=2/\(∀ x∈was,x.top<lgTop)/\D'.areas.length<=b.q+103*301/\b.r<=D'.room+331401):=by
 have hlen0:=h0.len;refine enter Tryz.func25 qk I I I (sq (rg (fin hT 3 I (th (sq (rg (cl hT 1 I firstW ?_)))))));rintro v21 K1 hs21 ⟨le1,rfl,ao1,cap1,rfl,x1⟩;refine cl hT 0 I (openH db D c oD hc (hD.le le1) [0,1,2] (by simp) ao1 cap1 x1) ?_;rintro v22 K2 hs22 ⟨h,rfl,le2,hX⟩;rw[hO] at hX;rcases hX with ⟨hn',_⟩|⟨L',lb,hL',rfl,hL⟩
 ·cases hn'
 cases hL';refine fin hT 5 I (th (sq (sq (rg (fin hT 2 I (th (ifF I (sk (th (sq (rg (cl hT 1 I (takenW lb db L0 E0 b.c hr0.lb qo hL qo) ?_))))))))))));rintro v28 K3 hs28 ⟨h',rfl,hh,le3,hR⟩;subst hh;obtain ⟨d,rfl,hR⟩:=hR.ad;refine al hT 0 (.agg #[.int .u64 0,.int .i64 0,.int .u64 0,.int .u64 0,.slice none 0 0,.slice none 0 0,.slice none 0 0]) I qk fun b11=>stS hT 0 0 I I qk I I (WL.hs (pt b11 (rlA L0.rl d) 37::h'::hs) I (fin hT 0 I (th (sq (rg (ldS hT 0 0 I I qk (lit hT 0 (rlA L0.rl d) I (by decide) qk fun b30=>fin hT 1 I (th (sq (rg (lds hT 1 [.int .u64 L0.kt,.int .i64 L0.kv] I qk (.inr ⟨1,I⟩) (cells_sub _ I) (lit hT 0 #[.int .u64 L0.kt,.int .i64 L0.kv] I (by decide) qk fun b33=>fin hT 1 I (th (sq (rg (cl hT 2 I (Ct.at 3 I (armL (hL.le le3) at_ hat)) ?_))))))))))))))));rintro v36 K4 hs36 ⟨h4,rfl,le4,hL4,rfl⟩
 refine fin hT 0 I<|th (sq<|sq (rg<|fin hT 3 I (th<|bk ?_)))
 have hw0:SlZ 7 37 (RlC K4) (pt b30 (rlA L0.rl d) 37) (some ⟨b30,0,none⟩) [L0.rl].length 1 [L0.rl]:=
  ⟨[(rlA L0.rl d).toList],rfl,.inl (by simpa using (Own.ofPt (b:=b30) (c:=rlA L0.rl d) (e:=37) (n:=1) (size:=7) (by simp[rlV]) (by simp[maxLen]))),⟨RlS.le le4 hR,trivial⟩,by simp[rlV]⟩
 refine loop (σ:=CtS) (fun s=>[(0,.pointer (some ⟨db,0,none⟩)),(9,.pointer (some ⟨lb,0,none⟩)),(11,.pointer (some ⟨b11,0,none⟩)),(12,.slice s.aw s.was.length s.cw),(13,.slice (some ⟨s.bh,0,none⟩) 1 1),(37,.slice ao ops.length cap),(38,.int .i64 ops.length),(39,.int .i64 s.i)]) (fun s=>s.K)
  (fun s=>pt s.bh #[.int .u64 s.L.kt,.int .i64 s.L.kv] 25::s.gw::pt b11 (rlA s.L.rl s.d) 37::s.h::hs)
  (fun s=>s.i<=ops.length/\s.k<=s.i/\Le K s.K/\LgH s.K lb db s.L s.D s.h/\CtI b fl s.k s.L s.D s.was/\RlS s.K s.L.rl (.agg (rlA s.L.rl s.d))/\SlZ 7 37 (RlC s.K) s.gw s.aw s.was.length s.cw s.was/\s.was.length<=1+2000000*s.i /\
   ∀ o,0<s.i->ops[s.i-1]?=some o->o.kind=3->o.low=true->s.was.length=1) (fun s=>ops.length-s.i) ⟨0,0,K4,h4,L0,E0.arm at_,d,[L0.rl],some ⟨b30,0,none⟩,1,pt b30 (rlA L0.rl d) 37,b33⟩
  ⟨Nat.zero_le _,Nat.le_refl _,((le1.trans le2).trans le3).trans le4,hL4,h0,hR.le le4,hw0,by simp,fun o h=>absurd h (Nat.lt_irrefl _)⟩ ⟨rfl,rfl,rfl,rfl,rfl,rfl,rfl,rfl,trivial⟩ rfl rfl ?_
 rintro ⟨i,k,K1,h1,L,D1,d1,was,aw,cw,gw,bh⟩ ⟨hi,hk,le,hL,hB,hR,hW,hwl,hlast⟩;dsimp only at *;refine sq (rg (cmpS hT 0 I fun b40 h40=>fin hT 0 I (th (sq (ifP h40 I (fun e4=>?_) (fun e4=>?_))))))
 ·have hi1:i<ops.length:=by omega
  obtain ⟨o,ho⟩:∃ o,ops[i]?=some o:=⟨_,List.getElem?_eq_getElem hi1⟩;have hbo:=hb o (List.mem_of_getElem? ho);have xs1:SlS 10 (OpC K1) K1 ao ops.length cap ops:=xs.le le fun _ _ h=>h.le le;obtain ⟨a,dO,rfl,xo,hco⟩:=op_cells xs1 ho;obtain ⟨vs,hvs⟩:=xs1.isS;refine sk (th (sq (bk (sq (rg (ixs hT 0 i I I hvs hi1 (by decide) fun a41 h41=>?_))))));cases h41;refine lds hT 0 (opV o dO).toList I qk (.inl I) hco (al hT 0 (.agg #[.int .i64 0,.int .u64 0,.int .i64 0,.int .u64 0,.int .u64 0,.slice none 0 0,.int .u64 0,.int .u64 0,.slice none 0 0,.slice none 0 0]) I qk fun b15=>stS hT 0 0 I I qk I I (WL.hs (pt b15 (opV o dO) 34::pt bh #[.int .u64 L.kt,.int .i64 L.kv] 25::gw::pt b11 (rlA L.rl d1) 37::h1::hs) I (fin hT 0 I (th (sq (sq (rg (ldS hT 0 0 I I qk (cl hT 0 I (lowW o 1048576 hbo qo dO xo) ?_)))))))));rintro v44 K1 hs44 ⟨rfl,rfl,rfl⟩;refine cbS hT 0 (¬o.low=true) I (by cases o.low <;> simp) fun b45 h45=>?_
  refine' bjo (q:=o.kind=6) hT 1 4 50 [45,46] h45 I I I I I I I (fun _=>?x5) (fun b50 h50=>?_)
  case x5=>
   exact ldp hT 1 0 I I I (cmpS hT 0 I fun b49 h49=>fin hT 1 I<|bjx h49 I I I)
  refine fin hT 0 I<|th (ifP h50 I (fun e7=>?_) (fun e7=>?_))
  ·refine ex (xt (xb (th (rg (ar hT 0 I (i64w qo) (fin hT 1 I (WQ.drop (again (x:=(⟨i,k,K1,h1,L,D1,d1,was,aw,cw,gw,bh⟩:CtS)) (⟨i+1,k,K1,h1,L,D1,d1,was,aw,cw,gw,bh⟩:CtS) ⟨I,I,I,I,I,I,I,I,trivial⟩ I I ⟨by dsimp only;omega,by dsimp only;omega,le,hL,hB,hR,hW,by dsimp only;omega,fun o2 _ h2 h3 h4=>?_⟩ (by (try dsimp only);omega)))))))));dsimp only at h2;rw[Nat.add_sub_cancel,ho] at h2;cases h2;rcases e7 with e7|e7
   ·exact absurd h4 e7
   ·omega
  ·have e7':=not_or.1 e7;have hlow:o.low=true:=by simpa using e7'.1
   have hk3:k<=300:=by omega
   have hst:=hB.step hk3 hM hlb hcb o hbo hlow;have hrn:=hB.rn;have hmul:(32303+b.q)*k<=(32303+b.q)*301:=Nat.mul_le_mul_left _ qo;have hol:=(ROp.low_ok hlow).2.1;refine sk (th (sq (rg (ldS hT 0 3 I I qk (ldS hT 0 0 I I qk (cl hT 0 I (doRC L.rl (b.l+100*k) 1048576 hB.rbd _ hR o hbo qo dO xo) ?_))))));rintro v54 K54 hs54 ⟨le54,rfl,v1,rfl,hR1⟩;obtain ⟨d2,rfl,hR1⟩:=hR1.ad;refine al hT 3 (.agg #[.int .u64 0,.int .i64 0,.int .u64 0,.int .u64 0,.slice none 0 0,.slice none 0 0,.slice none 0 0]) I qk fun b16=>al hT 0 (.agg #[.int .u64 0,.bool false,.int .i64 0]) I qk fun b17=>stS hT 0 1 I I qk I I (stS hT 0 0 I I qk I I (WL.hs (pt b17 (ansV (L.rl.doo o).2) 59::pt b16 (rlA (L.rl.doo o).1 d2) 37::pt b15 (opV o dO) 34::pt bh #[.int .u64 L.kt,.int .i64 L.kv] 25::gw::pt b11 (rlA L.rl d1) 37::h1::hs) I (fin hT 0 I (th (sq (rg (ldS hT 1 2 I I qk (cl hT 0 I (Ct.at 6 I (doesW lb db L D1 (b.c+(32303+b.q)*k) 1048576 hrn.lb qo hrn.ok (hL.le le54) o hbo qo hol dO (xo.le le54))) ?_))))))))
   rintro v59 K59 hs59 ⟨h2,rfl,le59,hL2,rfl⟩;refine al hT 0 (.agg #[.int .u64 0,.bool false,.int .i64 0]) I qk fun b18=>stS hT 0 0 I I qk I I (WL.hs (pt b18 (ansV (L.doo D1 o).2.2) 59::pt b17 (ansV (L.rl.doo o).2) 59::pt b16 (rlA (L.rl.doo o).1 d2) 37::pt b15 (opV o dO) 34::pt bh #[.int .u64 L.kt,.int .i64 L.kv] 25::gw::pt b11 (rlA L.rl d1) 37::h2::hs) I (fin hT 0 I (th (sq (rg ?_)))));have hrb2:=hB.rbd.doo o hbo hlow;refine ldS hT 1 6 I I qk (ldS hT 0 2 I I qk (cl hT 0 I (stepsW L.rl (L.rl.doo o).1 (b.l+100*k+100) (hB.rbd.up qo) hrb2 qo d1 d2 (hR.le (le54.trans le59)) (hR1.le le59)) ?_));rintro v63 K63 hs63 ⟨le63,rfl,as63,cs63,rfl,xs63⟩
   have hsl:0<(stepsL L.rl (L.rl.doo o).1).length/\(stepsL L.rl (L.rl.doo o).1).length<=2000000:=by
    have hl2:=hrb2.len;have hc2:=(cmn_le L.rl.l (L.rl.doo o).1.l).2;unfold stepsL
    split
    ·rw[List.length_map,List.length_range];omega
    ·simp
   refine appL hT 0 5 I I (hW.imp fun _ _ h=>h.le ((le54.trans le59).trans le63)) (.inl I) xs63 (fun c y hcy u hu=>?_) I (by decide) hsl.1 (by show (was.length+_)*104<=_;omega) (by simp only[maxLen];omega) fun ao64 c64 g64 o64=>?_
   ·obtain ⟨dd,hdd,_⟩:=RlS.ad hcy;obtain rfl:c=(rlA y dd).toList:=by cases hdd;rfl
    simp[rlV] at hu;rcases hu with rfl|rfl|rfl|rfl|rfl|rfl|rfl <;> rfl
   refine fin hT 1 I (th (sq (sq (rg (cl hT 1 I (Ct.keep 7 I (deadL (hL2.le le63))) ?_)))));rintro v66 K63 hs66 ⟨rfl,rfl,rfl⟩;rcases hst with ⟨g1,g2,g3,g4,t1,t2,t3⟩|⟨g1,g2,g3,g4,g5⟩
   ·rw[g1];refine fin hT 0 I (th (ifT I (sq (rg (lds hT 3 [.int .u64 (((L.rl.doo o).1.kt:Nat):Int),.int .i64 (L.rl.doo o).1.kv] I qk (.inr ⟨2,I⟩) (cells_sub _ I) (lit hT 0 #[.int .u64 (((L.rl.doo o).1.kt:Nat):Int),.int .i64 (L.rl.doo o).1.kv] I (by decide) qk fun b71=>?_))))))
    have hh0:SlZ 2 25 HdC (pt bh #[.int .u64 L.kt,.int .i64 L.kv] 25) (some ⟨bh,0,none⟩) 1 1 [(L.kt,L.kv)]:=
     ⟨[[.int .u64 L.kt,.int .i64 L.kv]],rfl,.inl (by simpa using (Own.ofPt (b:=bh) (c:=#[.int .u64 L.kt,.int .i64 L.kv]) (e:=25) (n:=1) (size:=2) (by simp) (by simp[maxLen]))),⟨rfl,trivial⟩,by simp⟩
    refine appSq hT 0 5 [.int .u64 (((L.rl.doo o).1.kt:Nat):Int),.int .i64 (L.rl.doo o).1.kv] ((L.rl.doo o).1.kt,(L.rl.doo o).1.kv) I I I hh0 I I (by intro u hu;simp at hu;rcases hu with rfl|rfl <;> rfl) rfl (by decide) (by decide) (by simp[maxLen]) fun ao72 c72 g72 o72=>fin hT 3 rfl (th (rt (rT (rB (rT (rT (rB (rT (WQ.drop (WQ.drop (WQ.drop (WQ.drop (WQ.drop (WQ.frz fun K2 l1 l2=>WQ.frz fun K3 l3 l4=>WQ.drop (WQ.lgd ((hL2.le le63).le (l1.trans l3)) fun dh' hdh=>?_)))))))))))))));have leF:Le K K3:=le.trans (((le54.trans le59).trans le63).trans (l1.trans l3));refine ret3 I I I I ⟨was++stepsL L.rl (L.rl.doo o).1,[(L.kt,L.kv),((L.rl.doo o).1.kt,(L.rl.doo o).1.kv)],(L.doo D1 o).2.1,dh',ao64,c64,ao72,c72,I,leF,hdh,?_,?_,?_,?_,?_,?_,?_⟩
    ·exact g4.up<|Nat.add_le_add_left (Nat.mul_le_mul_left _ qo) _
    ·exact g3.up qo
    ·intro x hx;rcases List.mem_append.1 hx with hx|hx
     ·exact (hB.wasb x hx).up qo
     ·exact (steps_rbd hrb2 x hx).up qo
    ·rw[List.length_append];exact o64.slS.le l4 fun _ _ h=>h.le (l1.trans l3)
    ·exact o72.slS.le (l2.trans l3) fun _ _ h=>h
    ·rw[List.length_append];rfl
    ·exact ⟨fun hf=>by (rw[g2] at hf;cases hf),by rw[List.length_append];omega,by simp,t1,by omega,by omega⟩
   ·rw[g1];refine fin hT 0 I (th (ifF I (sk (th (sq (sq (rg (ldS hT 0 1 I I qk (ldS hT 0 0 I I qk ?_)))))))));rw[g2];refine eqs hT 0 I qk (fun w=>eqAns _ w) (fin hT 0 I (th (ifF I (sk (th (sq (rg (ldS hT 0 2 I I qk (stS hT 0 6 I I qk I I (WL.hs (pt b18 (ansV (L.rl.doo o).2) 59::pt b17 (ansV (L.rl.doo o).2) 59::pt b16 (rlA (L.rl.doo o).1 d2) 37::pt b15 (opV o dO) 34::pt bh #[.int .u64 L.kt,.int .i64 L.kv] 25::g64::pt b11 (rlA (L.rl.doo o).1 d2) 37::h2::hs) I (fin hT 0 I (th (sq (rg (lds hT 1 [.int .u64 (((L.rl.doo o).1.kt:Nat):Int),.int .i64 (L.rl.doo o).1.kv] I qk (.inr ⟨6,I⟩) (cells_sub _ I) (lit hT 0 #[.int .u64 (((L.rl.doo o).1.kt:Nat):Int),.int .i64 (L.rl.doo o).1.kv] I (by decide) qk fun b79=>fin hT 1 I (th (sq (rg ?_)))))))))))))))))));have hkt:(L.doo D1 o).1.kt=(L.rl.doo o).1.kt:=congrArg Rl.kt g3
    have hkv:(L.doo D1 o).1.kv=(L.rl.doo o).1.kv:=congrArg Rl.kv g3;have leN:Le K K63:=le.trans ((le54.trans le59).trans le63);refine ldp hT 1 4 (v:=.int .i64 o.kind) I I I (cmpS hT 0 I fun b82 h82=>?_)
    refine' bja (q:=o.kind<=5) hT 1 4 87 [82,83] h82 I I I I I I I (fun _=>?x6) (fun b87 h87=>?_)
    case x6=>
     exact ldp hT 1 4 (v:=.int .i64 o.kind) I I I (cmpS hT 0 I fun b86 h86=>fin hT 1 I<|bjx h86 I I I)
    refine' bja (q:=(L.rl.doo o).2.code=0) hT 1 4 92 [87,88] h87 I I I I I I I (fun _=>?x7) (fun b92 h92=>?_)
    case x7=>
     exact ldp hT 1 2 (v:=.int .i64 (L.rl.doo o).2.code) I I I (cmpS hT 0 I fun b91 h91=>fin hT 1 I<|bjx h91 I I I)
    refine fin hT 0 I<|th (ifP h92 I (fun e9=>?_) (fun e9=>?_))
    ·refine rg<|ldS hT 0 7 I I qk (lit hT 0 (rlA (L.rl.doo o).1 d2) I (by decide) qk fun b94=>fin hT 1 I<|bl (th<|rg (ar hT 0 I (i64w qo)<|fin hT 1 I (WQ.fr 7 I<|WQ.drop (WQ.fr 6 I<|WQ.drop (WQ.fr 5 I<|WQ.drop (WQ.fr 4 I<|WQ.drop (WQ.fr 3 I<|WQ.drop (WQ.fr 2 I<|WQ.drop (WQ.fr 1 I ?_))))))))))
     have hw1:SlZ 7 37 (RlC K63) (pt b94 (rlA (L.rl.doo o).1 d2) 37) (some ⟨b94,0,none⟩) [(L.rl.doo o).1].length 1 [(L.rl.doo o).1]:=
      ⟨[(rlA (L.rl.doo o).1 d2).toList],rfl,.inl (by simpa using (Own.ofPt (b:=b94) (c:=rlA (L.rl.doo o).1 d2) (e:=37) (n:=1) (size:=7) (by simp[rlV]) (by simp[maxLen]))),⟨RlS.le (le59.trans le63) hR1,trivial⟩,by simp[rlV]⟩
     have g6:=g5 ⟨by omega,e9.2⟩;refine again (x:=(⟨i,k,K1,h1,L,D1,d1,was,aw,cw,gw,bh⟩:CtS)) (⟨i+1,k+1,K63,h2,(L.doo D1 o).1,(L.doo D1 o).2.1,d2,[(L.rl.doo o).1],some ⟨b94,0,none⟩,1,pt b94 (rlA (L.rl.doo o).1 d2) 37,b79⟩:CtS) ⟨I,I,I,I,I,I,I,I,trivial⟩ I (by dsimp only;rw[hkt,hkv,g3];rfl) ⟨by dsimp only;omega,by dsimp only;omega,leN,hL2.le le63,g6,by dsimp only;rw[g3];exact hR1.le (le59.trans le63),hw1,by simp,fun o2 _ h2 h3 h4=>I⟩ (by (try dsimp only);omega)
    ·refine sk (bl (th (rg (ar hT 0 I (i64w qo) (fin hT 1 I (WQ.fr 5 I (WQ.drop (WQ.fr 4 I (WQ.drop (WQ.fr 3 I (WQ.drop (WQ.fr 2 I (WQ.drop (WQ.fr 1 I (WQ.drop (again (x:=(⟨i,k,K1,h1,L,D1,d1,was,aw,cw,gw,bh⟩:CtS)) (⟨i+1,k+1,K63,h2,(L.doo D1 o).1,(L.doo D1 o).2.1,d2,was++stepsL L.rl (L.rl.doo o).1,ao64,c64,g64,b79⟩:CtS) ⟨I,I,I,by dsimp only;rw[List.length_append];rfl,rfl,rfl,rfl,rfl,trivial⟩ rfl (by dsimp only;rw[hkt,hkv,g3];rfl) ⟨by dsimp only;omega,by dsimp only;omega,leN,hL2.le le63,g4,by dsimp only;rw[g3];exact hR1.le (le59.trans le63),by dsimp only;rw[List.length_append];exact o64,by dsimp only;rw[List.length_append];omega,fun o2 _ h2 h3 h4=>?_⟩ (by (try dsimp only);omega)))))))))))))))));dsimp only at h2;rw[Nat.add_sub_cancel,ho] at h2;cases h2
     exfalso
     refine e9 ⟨⟨by omega,by omega⟩,?_⟩;unfold Rl.doo;rw[if_neg qo,if_neg qo,if_neg qo,if_neg qo,if_neg qo]
 ·have hi2:i=ops.length:=by omega
  subst hi2;refine ex (xt (xt (xb (th (sq (rg (fin hT 5 I (th (rt (WQ.frz fun K2 l1 l2=>WQ.frz fun K3 l3 l4=>WQ.drop (WQ.lgd (hL.le (l1.trans l3)) fun dh' hdh=>?_)))))))))))
  have hh0:SlZ 2 25 HdC (pt bh #[.int .u64 L.kt,.int .i64 L.kv] 25) (some ⟨bh,0,none⟩) 1 1 [(L.kt,L.kv)]:=
   ⟨[[.int .u64 L.kt,.int .i64 L.kv]],rfl,.inl (by simpa using (Own.ofPt (b:=bh) (c:=#[.int .u64 L.kt,.int .i64 L.kv]) (e:=25) (n:=1) (size:=2) (by simp) (by simp[maxLen]))),⟨rfl,trivial⟩,by simp⟩
  refine ret3 I I I I ⟨was,[(L.kt,L.kv)],D1,dh',aw,cw,some ⟨bh,0,none⟩,1,I,le.trans (l1.trans l3),hdh,?_,?_,?_,?_,?_,I,?_⟩
  ·exact hB.rn.ok.up<|Nat.add_le_add_left (Nat.mul_le_mul_left _ qo) _
  ·exact (cut_end vot0_ok hB.cut qo).up qo
  ·exact fun x hx=>(hB.wasb x hx).up qo
  ·exact hW.slS.le l4 fun _ _ h=>h.le<|l1.trans l3
  ·exact hh0.slS.le (l2.trans l3) fun _ _ h=>h
  ·refine ⟨?_,by omega,by simp,hB.cut.tops,by have:=hB.rn.ar;omega,by have:=hB.room;omega⟩;rintro hf ⟨o,h1,h2,h3⟩
   have hne:0<ops.length:=by
    cases ops with
    | nil=>cases h1
    | cons a q=>simp
   exact hlast o hne (by rw[<-List.getLast?_eq_getElem?];exact h1) h2 h3
end
section
structure CrI where
 j:Nat
 K:PH
 mm:Ar
 mv:List (Int×Value)
 hl:PH
 room:Int
 ps:List Int
 ap:Option Addr
 cp:Nat
structure CrO where
 i:Nat
 K:PH
 m:List (Int×Ar)
 ins:Ins
 ho:PH
 room:Int
 ps:List Int
 ap:Option Addr
 cp:Nat
abbrev dkE(room:Int)(m:List (Int×Ar)):Dk:=⟨room,0,m,-1,false⟩
theorem crL_some{l:Ar}{n:Int}{r ps:List Int}{m:Ar}{room:Int}{s:Sec}{v:List UInt8}(h:(mget n l).getD Sec0=s)(hf:fndS s (pckP s ps)=some v):crL l (n::r) ps m room=crL l r (pckR s ps) (mset n ⟨[v],true⟩ m) room:=by
 subst h;simp only[crL];rw[hf]
theorem crL_none{l:Ar}{n:Int}{r ps:List Int}{m:Ar}{room:Int}{s:Sec}(h:(mget n l).getD Sec0=s)(hf:fndS s (pckP s ps)=none):crL l (n::r) ps m room=crL l r (pckR s ps) m (room+1):=by
 subst h;simp only[crL];rw[hf]
theorem crA_one{D:Dk}{a:Int}{r qs rs:List Int}{m:List (Int×Ar)}{mm:Ar}{room rm:Int}(h:(mm,rs,rm)=crL (D.ar a) (srtI ((D.ar a).map (·.1))) qs [] room):crA D (a::r) qs m room=crA D r rs (if mm.length=0 then m else mset a mm m) rm:=by
 simp only[crA];rw[<-h]
theorem iv_drop1(ps:List Int)(n:Nat)(h:ps.length=n+1):((iv ps).drop (1*1)).take (n*1)=iv (ps.drop 1):=by
 unfold iv;rw[Nat.mul_one,Nat.mul_one,<-List.map_drop,List.take_of_length_le (by simp;omega)]
attribute [local irreducible] Code.wp wpList Calls
theorem crashC{w0:World}{K:PH}{hs m:List PH}(b:Nat)(D:Dk)(c:Nat)(o:DOk c D)(hc:c<=1000000000)(hm:DskM K b D m)(ps:List Int)(hps:∀ p∈ps,-9223372036854775808<=p/\p<=9223372036854775807)(ap:Option Addr)(cp:Nat)(xp:IsS K ap ps.length cp 1 (iv ps))(hpl:ps.length<1099511627776):
  Ct Tryz.prog w0 26 [.pointer (some ⟨b,0,none⟩),.slice ap ps.length cp] K (m++hs)
   (fun v K' hs'=>Le K K'/\∃ b2 m2,hs'=m2++(m++hs)/\DskM K' b2 (D.crash ps) m2/\v=.pointer (some ⟨b2,0,none⟩)):=by
 obtain ⟨bo,ho,ins,rfl,hO,hI⟩:=hm;have hroom:=o.ok.room;refine enter Tryz.func26 qk I I I (sq (rg (fin hT 1 I (th (sq (rg (ldp hT 3 0 I I I (cl hT 0 I (newDC D.room hroom) ?_))))))));rintro v19 K19 hs19 ⟨rfl,cb,mE,rfl,⟨boE,hoE,insE,rfl,hOE,hIE⟩,rfl⟩
 have hinsE:insE=[]:=by
  cases insE with
  | nil=>rfl
  | cons x r=>exact hIE.elim
 subst hinsE;have hmax:max D.room 0=D.room:=by omega
 have hks:∀ k∈areasL D,k∈D.areas.map (·.1):=fun k hk=>(srtI_perm _).mem_iff.1 hk;have hknd:(areasL D).Nodup:=(srtI_perm _).symm.nodup o.ok.keys;have hkl:(areasL D).length=D.areas.length:=by unfold areasL;rw[(srtI_perm _).length_eq,List.length_map]
 have hlen:=o.len;refine fin hT 1 I (th (sq (sq (rg (WL.perm (hs':=(pt b (dkA D bo) 108::ho::insH ins)++([pt cb (dkA (dk0 D.room) boE) 108,hoE]++hs)) (List.perm_append_comm_assoc [_,_] (pt b (dkA D bo) 108::ho::insH ins) hs) (cl hT 1 I (areasC b D c o.ok qo (fun k hk=>(o.ar k hk).1) ⟨bo,ho,ins,I,hO,hI⟩) ?_))))));rintro v21 K21 hs21 ⟨le1,rfl,ak,ck,rfl,xk⟩;refine WL.perm (hs':=[pt cb (dkA (dkE D.room []) boE) 108,hoE]++((pt b (dkA D bo) 108::ho::insH ins)++(insH ([]:Ins)++hs))) (List.perm_append_comm_assoc (pt b (dkA D bo) 108::ho::insH ins) [_,_] hs) (fin hT 2 I (th (bk ?_)))
 refine loop (σ:=CrO) (fun s=>[(0,.pointer (some ⟨b,0,none⟩)),(1,.slice s.ap s.ps.length s.cp),(5,.pointer (some ⟨cb,0,none⟩)),(21,.slice ak (areasL D).length ck),(22,.int .i64 (((areasL D).length:Nat):Int)),(23,.int .i64 s.i)]) (fun s=>s.K)
  (fun s=>[pt cb (dkA (dkE s.room s.m) boE) 108,s.ho]++((pt b (dkA D bo) 108::ho::insH ins)++(insH s.ins++hs)))
  (fun s=>s.i<=(areasL D).length/\Le K21 s.K/\crA D ((areasL D).drop s.i) s.ps s.m s.room=crA D (areasL D) ps [] D.room/\MpO encU encB s.ho boE (insO s.ins)/\InsR s.K s.ins s.m/\IsS s.K s.ap s.ps.length s.cp 1 (iv s.ps)/\(∀ p∈s.ps,p∈ps)/\s.ps.length<=ps.length /\
   (∀ k∈s.m.map (·.1),k∈(areasL D).take s.i)/\0<=s.room/\s.room<=1099511627776+((c*s.i:Nat):Int)) (fun s=>(areasL D).length-s.i) ⟨0,K21,[],[],hoE,D.room,ps,ap,cp⟩
  ⟨Nat.zero_le _,Le.refl _,rfl,hOE,trivial,xp.le le1,fun _ h=>h,Nat.le_refl _,by simp,hroom.1,by dsimp only;omega⟩ ⟨rfl,rfl,rfl,rfl,rfl,rfl,trivial⟩ rfl rfl ?_
 rintro ⟨i,K1,m,insE,hoE,room,qs,aq,cq⟩ ⟨hi,le,hR,hOE,hIE,xq,hsub,hql,hkm,hr0,hr1⟩;dsimp only at *;refine sq (rg (cmpS hT 0 I fun b24 h24=>fin hT 0 I (th (sq (ifP h24 I (fun e2=>?_) (fun e2=>?_))))))
 ·have hi1:i<(areasL D).length:=by omega
  have hcm:c*(i+1)<=1000000000*1000000000:=Nat.mul_le_mul hc qo;have hcm2:c*(i+1)=c*i+c:=Nat.mul_succ c i;obtain ⟨a,ha⟩:∃ a,(areasL D)[i]?=some a:=⟨_,List.getElem?_eq_getElem hi1⟩;have hamem:a∈areasL D:=List.mem_of_getElem? ha
  have hdrop:(areasL D).drop i=a::(areasL D).drop (i+1):=by
   rw[List.drop_eq_getElem_cons hi1,(List.getElem?_eq_some_iff.1 ha).2]
  obtain ⟨bi,h,tl,hAr,hperm⟩:=arH (hI.le (le1.trans le)) a (insH insE++hs);have hmo:=mget_insO (hI.le (le1.trans le)) hAr;rcases hAr with ⟨g1,_⟩|⟨bi,i1,mv,i2,q1,q2,rfl,g2,g3,g4,g5,g6,hMv,hMR,rfl⟩
  ·exact absurd (hks a hamem)<|mget_none.1 g1
  have hp:=(hperm (pt b (dkA D bo) 108) ho).2 (by simp);have haD:(a,D.ar a)∈D.areas:=by rw[g3];simp
  have hns:=o.ok.ns _ haD;have hat:=o.ok.at_ _ haD;have hvs:=o.ok.vs _ haD;dsimp only at hns hat hvs;have hkeys:=hMR.keys;have hmvl:=hMR.len;obtain ⟨ns,hnsd⟩:∃ ns,ns=srtI ((D.ar a).map (·.1)):=⟨_,rfl⟩;have hnsl:ns.length=(D.ar a).length:=by rw[hnsd,(srtI_perm _).length_eq,List.length_map]
  refine sk (th (sq (bk (sq (rg (ix1 hT 0 i I I I (xk.le le) (show (ivu (areasL D))[i]?=some (.int .u64 a) by unfold ivu;rw[List.getElem?_map,ha];rfl) fun a25 hc25=>?_))))));refine ld hT 0 I (.inl I) hc25 (fin hT 1 I (th (sq (rg (mkm hT 0 I fun bq=>?_)))));have hmap0:=MpO.empty (enc:=encI) (encv:=(id:Value->Value)) bq 0;refine WL.perm (hs':=pt cb (dkA (dkE room m) boE) 108::hoE::sg bq (.map #[] 0)::h::pt b (dkA D bo) 108::ho::(insH i1++(insH i2++(insH insE++hs)))) ((List.perm_append_comm_assoc [_] [_,_] _).trans (((hp.cons _).cons _).cons _)) (fin hT 1 I (th (sq (sq (rg (ldp hT 3 4 I I I (lku hT 1 (z:=.map none) a I Tryz.underlying106 qk keyU I (.inr ⟨5,I⟩) hO ?_)))))));rw[hmo];refine cl hT 0 I (keysC false bi) ?_;rintro v34 K34 hs34 ⟨rfl,b1,rfl,rfl⟩
  refine cl hT 0 I (sortedC false (m:=mv) _ [.pointer (some ⟨b1,0,none⟩)] (by rw[hkeys];exact hns.1) (by rw[hkeys];intro k hk;obtain ⟨y,hy,rfl⟩:=List.mem_map.1 hk;exact (hat y hy).1) (KeyRd h b1 bi) (keysI false id h b1 bi mv (by rw[hkeys];exact hns.1) hMv) qk qo
   (fun x y fr=>⟨⟨_,.inr ⟨2,rfl⟩,Cell.pt rfl⟩,.inr ⟨6,rfl⟩⟩)) ?_
  rintro v35 K35 hs35 ⟨le2,rfl,an,cn,rfl,xn⟩;rw[hkeys,<-hnsd] at xn;rw[show mv.length=ns.length from by omega] at xn ⊢;refine WL.drop (fin hT 2 I (th (bk ?_)))
  refine loop (σ:=CrI) (fun s=>[(0,.pointer (some ⟨b,0,none⟩)),(1,.slice s.ap s.ps.length s.cp),(5,.pointer (some ⟨cb,0,none⟩)),(7,.int .u64 a),(8,.map (some bq)),(21,.slice ak (areasL D).length ck),(22,.int .i64 (((areasL D).length:Nat):Int)),(23,.int .i64 (i:Nat)),(35,.slice an ns.length cn),(36,.int .i64 ns.length),(37,.int .i64 s.j)]) (fun s=>s.K)
   (fun s=>pt cb (dkA (dkE s.room m) boE) 108::hoE::s.hl::h::pt b (dkA D bo) 108::ho::(insH i1++(insH i2++(insH insE++hs))))
   (fun s=>s.j<=ns.length/\Le K35 s.K/\crL (D.ar a) (ns.drop s.j) s.ps s.mm s.room=crL (D.ar a) ns qs [] room/\MpO encI id s.hl bq s.mv/\MR (SecR s.K) s.mv s.mm/\IsS s.K s.ap s.ps.length s.cp 1 (iv s.ps)/\(∀ p∈s.ps,p∈qs)/\s.ps.length<=qs.length/\room<=s.room/\s.room<=room+((s.j:Nat):Int)) (fun s=>ns.length-s.j)
   ⟨0,K35,[],[],sg bq (.map #[] 0),room,qs,aq,cq⟩ ⟨Nat.zero_le _,Le.refl _,rfl,hmap0,trivial,xq.le le2,fun _ h=>h,Nat.le_refl _,Int.le_refl _,by dsimp only;omega⟩ ⟨rfl,rfl,rfl,rfl,rfl,rfl,rfl,rfl,rfl,rfl,rfl,trivial⟩ rfl rfl ?_
  rintro ⟨j,K2,mm,mw,hl,rm,rs,aR,cr⟩ ⟨hj,le3,hQ,hMl,hMRl,xr,hsub2,hrl,hrm0,hrm1⟩;dsimp only at *;refine sq (rg (cmpS hT 0 I fun b38 h38=>fin hT 0 I (th (sq (ifP h38 I (fun e4=>?_) (fun e4=>?_))))))
  ·have hj1:j<ns.length:=by omega
   obtain ⟨n,hn⟩:∃ n,ns[j]?=some n:=⟨_,List.getElem?_eq_getElem hj1⟩;have hnd:ns.drop j=n::ns.drop (j+1):=by rw[List.drop_eq_getElem_cons hj1,(List.getElem?_eq_some_iff.1 hn).2]
   have hnmem:n∈(D.ar a).map (·.1):=by
    have:=List.mem_of_getElem? hn;rw[hnsd] at this;exact (srtI_perm _).mem_iff.1 this
   rcases MR.get n (hMR.imp fun _ _ h=>SecR.le (le2.trans le3) h) with ⟨_,h2⟩|⟨v,s,q1',q2',hsec⟩
   ·exact absurd hnmem<|mget_none.1 h2
   have hsv:=hvs _ (mget_mem q2');dsimp only at hsv;have hgd:(mget n (D.ar a)).getD Sec0=s:=by rw[q2'];rfl
   obtain ⟨av,cv,rfl,xv⟩:=hsec;refine sk (th (sq (bk (sq (rg (ix1 hT 0 j I I I (xn.le le3) (show (ivk false ns)[j]?=some (.int .i64 n) by unfold ivk;rw[List.getElem?_map,hn];rfl) fun a39 hc39=>?_))))));refine ld hT 0 I (.inl I) hc39 (fin hT 1 I (th (sq (rg (ldp hT 3 4 I I I (lku hT 1 (z:=.map none) a I Tryz.underlying106 qk keyU I (.inr ⟨5,I⟩) hO ?_))))));rw[hmo];refine lku hT 1 (z:=.agg #[.slice none 0 0,.bool false]) n I Tryz.underlying113 qk keyI I (.inr ⟨3,I⟩) hMv ?_;rw[q1'];refine al hT 0 (.agg #[.slice none 0 0,.bool false]) I qk fun b11=>stS hT 0 0 I I qk I I (WL.hs (pt b11 #[.slice av s.vs.length cv,.bool s.syn] 120::pt cb (dkA (dkE rm m) boE) 108::hoE::hl::h::pt b (dkA D bo) 108::ho::(insH i1++(insH i2++(insH insE++hs)))) I (fin hT 0 I (th (sq (rg (fin hT 1 I (th ?_)))))))
   refine jn (σ:=Option Addr×Nat) (fun z=>[(0,.pointer (some ⟨b,0,none⟩)),(1,.slice z.1 (pckR s rs).length z.2),(5,.pointer (some ⟨cb,0,none⟩)),(7,.int .u64 a),(8,.map (some bq)),(10,.int .i64 n),(11,.pointer (some ⟨b11,0,none⟩)),(12,.int .i64 (pckP s rs)),(21,.slice ak (areasL D).length ck),(22,.int .i64 (((areasL D).length:Nat):Int)),(23,.int .i64 (i:Nat)),(35,.slice an ns.length cn),(36,.int .i64 ns.length),(37,.int .i64 (j:Nat))])
    (fun _=>pt b11 #[.slice av s.vs.length cv,.bool s.syn] 120::pt cb (dkA (dkE rm m) boE) 108::hoE::hl::h::pt b (dkA D bo) 108::ho::(insH i1++(insH i2++(insH insE++hs)))) (fun z=>IsS K2 z.1 (pckR s rs).length z.2 1 (iv (pckR s rs))) ?_ ?_
   ·refine sq<|rg (cmpS hT 2 I fun b51 h51=>?_)
    refine' bja (q:=s.syn=false\/1<s.vs.length) hT 1 10 62 [51,52] h51 I I I I I I I (fun _=>?x6) (fun b62 h62=>?_)
    case x6=>
     refine ldp hT 1 0 I I I (cbS hT 0 (s.syn=false) I (by cases s.syn <;> simp) fun b55 h55=>?_)
     refine' bjo (q:=1<s.vs.length) hT 1 5 61 [55,56] h55 I I I I I I I (fun _=>?x7) (fun b61 h61=>?_)
     case x7=>
      exact ldp hT 1 0 I I I (cmpS hT 1 I fun b60 h60=>fin hT 1 I<|bjx (h60.trans qo) I I I)
     exact fin hT 1 I<|bjx h61 I I I
    refine fin hT 0 I<|th (ifP h62 I (fun e9=>?_) (fun e9=>?_))
    ·have hu:usesP s rs:=⟨by have:=e9.1;omega,e9.2⟩;obtain ⟨k,hk⟩:∃ k,rs.length=k+1:=⟨rs.length-1,by have:=hu.1;omega⟩;have e1:pckP s rs=rs.headD 0:=if_pos hu;have e2':pckR s rs=rs.drop 1:=if_pos hu;have hkl2:(rs.drop 1).length=k:=by simp;omega
     exact sq (rg (ix1 hT 1 0 I I I xr (u:=.int .i64 (rs.headD 0)) (by cases rs with|nil=>simp at hk|cons x r=>rfl) fun a64 hc64=>ld hT 0 I (.inl I) hc64 (fin hT 1 I (th (rg (sl hT 1 1 k I xr I (by show ((rs.length:Nat):Int)=_;omega) qo (iv_drop1 rs k hk) fun ao67 c67 x67=>fin hT 1 rfl (jx (ao67,c67) (by rw[e2',hkl2];exact x67) ⟨I,by rw[e2',hkl2];rfl,rfl,rfl,rfl,rfl,rfl,by rw[e1];rfl,rfl,rfl,rfl,rfl,rfl,rfl,trivial⟩ rfl rfl)))))))
    ·have hu:¬usesP s rs:=fun h=>e9 ⟨by have:=h.1;omega,h.2⟩;have e1:pckP s rs=0:=if_neg hu;have e2':pckR s rs=rs:=if_neg hu;exact sk (jx (aR,cr) (by rw[e2'];exact xr) ⟨I,by rw[e2'];rfl,rfl,rfl,rfl,rfl,rfl,by rw[e1];rfl,rfl,rfl,rfl,rfl,rfl,rfl,trivial⟩ rfl rfl)
   ·rintro ⟨ar2,cr2⟩ xr2;dsimp only at *
    have hpick : -9223372036854775808<=pckP s rs/\pckP s rs<=9223372036854775807:=by
     unfold pckP
     split
     ·rename_i hu;cases rs with
      | nil=>exact absurd hu.1 (by simp)
      | cons x r=>exact hps x (hsub x (hsub2 x (by simp)))
     ·omega
    have hsubR:∀ p∈pckR s rs,p∈qs:=fun p hp'=>hsub2 p (by
     unfold pckR at hp'
     split at hp'
     ·exact List.mem_of_mem_drop hp'
     ·exact hp')
    have hlenR:(pckR s rs).length<=qs.length:=by
     unfold pckR
     split
     ·simp;omega
     ·exact hrl
    refine sq (rg (ldS hT 0 0 I I qk (cl hT 1 I (secFoundC s _ ⟨av,cv,I,xv⟩ hsv.1 qo (pckP s rs) hpick) ?_)));rintro v71 K71 hs71 ⟨rfl,rfl,rfl⟩;refine fin hT 5 I (th (sq (rg ?_)));cases hf:fndS s (pckP s rs) with
    | some vb=>
     have hstep:crL (D.ar a) (ns.drop j) rs mm rm=crL (D.ar a) (ns.drop (j+1)) (pckR s rs) (mset n ⟨[vb],true⟩ mm) rm:=by
      rw[hnd];exact crL_some hgd hf
     refine fin hT 1 I (th (ifT I (rg (lit hT 3 #[str vb] I (by decide) qk fun b78=>WL.frz fun K3 l1 l2=>?_))));have x78:IsS K3 (some ⟨b78,0,none⟩) 1 1 1 (tvv [vb]):=(Own.ofPt (b:=b78) (c:=#[str vb]) (e:=9) (n:=1) (size:=1) rfl (by decide)).isS.le l2;refine bd hT 0 (.agg #[.slice (some ⟨b78,0,none⟩) 1 1,.bool true]) I (fun w=>by kernel_rfl) (mpu hT 0 3 n (.agg #[.slice (some ⟨b78,0,none⟩) 1 1,.bool true]) I I Tryz.underlying113 keyI I I hMl fun hl' hMl'=>WL.hs (pt b11 #[.slice av s.vs.length cv,.bool s.syn] 120::pt cb (dkA (dkE rm m) boE) 108::hoE::hl'::h::pt b (dkA D bo) 108::ho::(insH i1++(insH i2++(insH insE++hs)))) I (WL.drop (fin hT 0 I (bl (th (rg (ar hT 0 I (i64w (x:=((j+1:Nat):Int)) qo) (fin hT 1 I ?_))))))))
     exact again (x:=(⟨j,K71,mm,mw,hl,rm,rs,aR,cr⟩:CrI)) (⟨j+1,K3,mset n ⟨[vb],true⟩ mm,mset n (.agg #[.slice (some ⟨b78,0,none⟩) 1 1,.bool true]) mw,hl',rm,pckR s rs,ar2,cr2⟩:CrI) ⟨I,I,I,I,I,I,I,I,I,I,I,trivial⟩ I I
      ⟨by dsimp only;omega,le3.trans l1,hstep.symm.trans hQ,hMl',(hMRl.imp fun _ _ h=>SecR.le l1 h).set ⟨_,1,rfl,x78⟩,xr2.le l1,hsubR,hlenR,hrm0,by dsimp only;omega⟩ (by dsimp only;omega)
    | none=>
     have hstep:crL (D.ar a) (ns.drop j) rs mm rm=crL (D.ar a) (ns.drop (j+1)) (pckR s rs) mm (rm+1):=by
      rw[hnd];exact crL_none hgd hf
     refine fin hT 1 I<|th (ifF I<|rg (ldp hT 3 1 I I I<|ar hT 0 I (i64w (x:=rm+1) qo) (stp hT 2 1 I I I I<|WL.hs (pt b11 #[.slice av s.vs.length cv,.bool s.syn] 120::pt cb (dkA (dkE (rm+1) m) boE) 108::hoE::hl::h::pt b (dkA D bo) 108::ho::(insH i1++(insH i2++(insH insE++hs)))) I (WL.drop<|fin hT 0 I (bl<|th (rg<|ar hT 0 I (i64w (x:=((j+1:Nat):Int)) qo) (fin hT 1 I ?_)))))))
     exact again (x:=(⟨j,K71,mm,mw,hl,rm,rs,aR,cr⟩:CrI)) (⟨j+1,K71,mm,mw,hl,rm+1,pckR s rs,ar2,cr2⟩:CrI) ⟨I,I,I,I,I,I,I,I,I,I,I,trivial⟩ I I
      ⟨by dsimp only;omega,le3,hstep.symm.trans hQ,hMl,hMRl,xr2,hsubR,hlenR,by dsimp only;omega,by dsimp only;omega⟩ (by dsimp only;omega)
  ·obtain rfl:j=ns.length:=by omega
   rw[List.drop_length] at hQ;have hQ':(mm,rs,rm)=crL (D.ar a) (srtI ((D.ar a).map (·.1))) qs [] room:=by rw[<-hnsd];exact hQ
   have hstepA:crA D ((areasL D).drop i) qs m room=crA D ((areasL D).drop (i+1)) rs (if mm.length=0 then m else mset a mm m) rm:=by
    rw[hdrop];exact crA_one hQ'
   have hnotin:a∉m.map (·.1):=fun hm'=>by
    have h1:=hkm a hm';have h2:=List.nodup_append.1 (by rw[List.take_append_drop];exact hknd:((areasL D).take i++(areasL D).drop i).Nodup);exact h2.2.2 a h1 a (by rw[hdrop];simp) rfl
   have htk:(areasL D).take (i+1)=(areasL D).take i++[a]:=by rw[List.take_add_one,ha];rfl
   refine ex (xt (xt (xb (th (sq (rg (mln hT 1 I Tryz.underlying113 (.inr ⟨2,I⟩) hMl ?_)))))));have hml:=hMRl.len;refine cmpS hT 0 I fun b90 h90=>fin hT 0 I (th (ifP h90 I (fun e13=>?_) (fun e13=>?_)))
   ·have hm0:mm.length≠0:=by omega
    rw[if_neg hm0] at hstepA;have hnew:mset a mm m=m++[(a,mm)]:=mset_new (mget_none.2 hnotin)
    have hnew2:mset a bq (insO insE)=insO (insE++[(a,bq,hl)]):=by
     rw[mset_new (mget_none.2 (by rw[insO_keys,insKeys hIE];exact hnotin))];simp[insO]
    have hP:(hl::((pt b (dkA D bo) 108::ho::insH ins)++(insH insE++hs))).Perm ((pt b (dkA D bo) 108::ho::insH ins)++(insH (insE++[(a,bq,hl)])++hs)):=by
     have h1:=(List.perm_middle (a:=hl) (l₁:=(pt b (dkA D bo) 108::ho::insH ins)++insH insE) (l₂:=hs)).symm;have h2:insH (insE++[(a,bq,hl)])=insH insE++[hl]:=by simp[insH]
     rw[h2];simpa[List.append_assoc] using h1
    refine rg (ldp hT 3 0 I I I (mpu hT 2 1 a bq I I Tryz.underlying106 keyU I I hOE fun hoE' hOE'=>?_));rw[hnew2] at hOE';refine WL.perm (hs':=[pt cb (dkA (dkE rm (mset a mm m)) boE) 108,hoE']++((pt b (dkA D bo) 108::ho::insH ins)++(insH (insE++[(a,bq,hl)])++hs))) ((((hp.symm.cons _).trans hP).cons _).cons _) (fin hT 0 I (bl (th (rg (ar hT 0 I (i64w (x:=((i+1:Nat):Int)) qo) (fin hT 1 I ?_))))))
    refine again (x:=(⟨i,K21,m,insE,hoE,room,qs,aq,cq⟩:CrO)) (⟨i+1,K2,mset a mm m,insE++[(a,bq,hl)],hoE',rm,rs,aR,cr⟩:CrO) ⟨I,I,I,I,I,I,trivial⟩ I I
     ⟨by dsimp only;omega,(le.trans le2).trans le3,hstepA.symm.trans hR,hOE',?_,xr,fun p hp'=>hsub p (hsub2 p hp'),by dsimp only;omega,?_,by dsimp only;omega,by dsimp only;omega⟩ (by dsimp only;omega)
    ·dsimp only;rw[hnew];exact InsR.app (hIE.le (le2.trans le3)) ⟨I,⟨mw,hMl,hMRl⟩,trivial⟩
    ·dsimp only;intro k hk;rw[hnew,List.map_append] at hk;rw[htk];rcases List.mem_append.1 hk with hk|hk
     ·exact List.mem_append.2 (.inl<|hkm k hk)
     ·exact List.mem_append.2 (.inr (by simpa using hk))
   ·have hm0:mm.length=0:=by omega
    rw[if_pos hm0] at hstepA;refine sk (WQ.perm (hs':=hl::([pt cb (dkA (dkE rm m) boE) 108,hoE]++((pt b (dkA D bo) 108::ho::insH ins)++(insH insE++hs)))) ((((hp.symm.cons _).cons _).cons _).trans (perm_front _ 2 _ I)) (WQ.drop (bl (th (rg (ar hT 0 I (i64w (x:=((i+1:Nat):Int)) qo) (fin hT 1 I ?_)))))))
    refine again (x:=(⟨i,K21,m,insE,hoE,room,qs,aq,cq⟩:CrO)) (⟨i+1,K2,m,insE,hoE,rm,rs,aR,cr⟩:CrO) ⟨I,I,I,I,I,I,trivial⟩ I I
     ⟨by dsimp only;omega,(le.trans le2).trans le3,hstepA.symm.trans hR,hOE,hIE.le (le2.trans le3),xr,fun p hp'=>hsub p (hsub2 p hp'),by dsimp only;omega,fun k hk=>by dsimp only;rw[htk];exact List.mem_append.2 (.inl (hkm k hk)),by dsimp only;omega,by dsimp only;omega⟩ (by dsimp only;omega)
 ·obtain rfl:i=(areasL D).length:=by omega
  rw[List.drop_length] at hR;have hR':(m,room)=crA D (areasL D) ps [] D.room:=hR;have hD:D.crash ps=dkE room m:=by unfold Dk.crash;rw[hmax,<-hR']
  exact ex (xt (xt (xb (th (sq (rg (fin hT 2 I (th (rt (WQ.perm (hs':=(pt cb (dkA (dkE room m) boE) 108::hoE::insH insE)++((pt b (dkA D bo) 108::ho::insH ins)++hs)) (((List.perm_append_comm_assoc (pt b (dkA D bo) 108::ho::insH ins) (insH insE) hs).cons _).cons _) (ret1 I I ⟨le1.trans le,cb,_,I,by rw[hD];exact ⟨boE,hoE,insE,I,hOE,hIE⟩,I⟩)))))))))))
end
section
theorem fndS_mem{s:Sec}{p:Int}{v:List UInt8}(h:fndS s p=some v):v∈s.vs:=by
 unfold fndS at h
 split at h
 ·exact List.mem_of_getElem? h
 ·split at h
  ·cases h
  ·exact List.mem_of_getElem? h
def CrQ(l:Ar)(y:Int×Sec):Prop:=∃ s,mget y.1 l=some s/\∃ v∈s.vs,y.2=⟨[v],true⟩
theorem crL_q(l:Ar):∀ (ns:List Int) (ps:List Int) (m:Ar) (room:Int),(∀ y∈m,CrQ l y)->(∀ n∈ns,∃ s,mget n l=some s)->∀ y∈(crL l ns ps m room).1,CrQ l y
 | [],ps,m,room,h,_=>h
 | n::r,ps,m,room,h,hl=>by
  obtain ⟨s,hs⟩:=hl n (by simp);have e:(mget n l).getD Sec0=s:=by rw[hs];rfl
  unfold crL;rw[e];cases hf:fndS s (pckP s ps) with
  | some v=>
   refine crL_q l r _ _ _ (fun y hy=>?_) (fun j hj=>hl j (by simp[hj]));rcases mset_mem hy with rfl|hy
   ·exact ⟨s,hs,v,fndS_mem hf,I⟩
   ·exact h y hy
  | none=>exact crL_q l r _ _ _ h (fun j hj=>hl j (by simp[hj]))
def CrX(D:Dk)(x:Int×Ar):Prop:=(x.2.map (·.1)).Nodup/\x.2.length<=(D.ar x.1).length/\∀ y∈x.2,CrQ (D.ar x.1) y
def sumA(D:Dk)(ks:List Int):Nat:=(ks.map fun a=>(D.ar a).length).sum
theorem crA_q{c:Nat}{D:Dk}(o:D.Ok c):∀ (ks:List Int) (ps:List Int) (m:List (Int×Ar)) (room:Int),ks.Nodup->(∀ a∈ks,mget a m=none)->(∀ x∈m,CrX D x) ->
  (∀ x∈(crA D ks ps m room).1,CrX D x)/\(crA D ks ps m room).2+(totA (crA D ks ps m room).1:Int)<=room+(totA m:Int)+(sumA D ks:Int)
 | [],ps,m,room,_,_,h=>⟨h,by simp[crA,sumA]⟩
 | a::r,ps,m,room,hn,hma,h=>by
  have hn:=List.nodup_cons.1 hn
  have hnd:((D.ar a).map (·.1)).Nodup:=by
   unfold Dk.ar;cases hg:mget a D.areas with
   | none=>simp
   | some l=>exact (o.ns _ (mget_mem hg)).1
  have hvs:∀ n∈srtI ((D.ar a).map (·.1)),∃ s,mget n (D.ar a)=some s/\s.vs≠[]:=by
   intro n hn;have hn:=(srtI_perm _).mem_iff.1 hn;cases hg:mget n (D.ar a) with
   | none=>exact absurd hn (mget_none.1 hg)
   | some s=>
    refine ⟨s,I,?_⟩;have h1:=mget_mem hg;unfold Dk.ar at h1;cases hg2:mget a D.areas with
    | none=>rw[hg2] at h1;simp at h1
    | some l=>rw[hg2] at h1;exact (o.vs _ (mget_mem hg2) _ h1).1
  obtain ⟨q1,q2,q3,q4,q5,q6⟩:=crL_run (D.ar a) (srtI ((D.ar a).map (·.1))) ps [] room ((srtI_perm _).symm.nodup hnd) (fun _ _=>rfl) hvs (by simp);have q7:=crL_q (D.ar a) (srtI ((D.ar a).map (·.1))) ps [] room (by simp) (fun n hn=>let ⟨s,h1,_⟩:=hvs n hn;⟨s,h1⟩);have hsl:(srtI ((D.ar a).map (·.1))).length=(D.ar a).length:=by rw[(srtI_perm _).length_eq,List.length_map]
  have hsum:sumA D (a::r)=(D.ar a).length+sumA D r:=by simp[sumA]
  unfold crA;generalize crL (D.ar a) (srtI ((D.ar a).map (·.1))) ps [] room=R at q1 q2 q3 q4 q5 q6 q7;obtain ⟨l,ps',room'⟩:=R;dsimp only at q1 q2 q3 q4 q5 q6 q7 ⊢;rw[hsl] at q5 q6;simp only[List.length_nil] at q6
  by_cases h0:l.length=0
  ·rw[if_pos h0];obtain ⟨r1,r2⟩:=crA_q o r ps' m room' hn.2 (fun b hb=>hma b (by simp[hb])) h;exact ⟨r1,by rw[hsum];omega⟩
  ·rw[if_neg h0];have ht:=totA_mset (a:=a) (l:=l) m;rw[hma a (by simp)] at ht;simp only[Option.getD_none,List.length_nil] at ht
   obtain ⟨r1,r2⟩:=crA_q o r ps' (mset a l m) room' hn.2 (fun b hb=>by rw[mget_mset,if_neg (fun e=>hn.1 (by rw[<-e];exact hb))];exact hma b (by simp[hb])) (fun x hx=>by
    rcases mset_mem hx with rfl|hx
    ·exact ⟨q3,by dsimp only;omega,q7⟩
    ·exact h x hx)
   exact ⟨r1,by rw[hsum];omega⟩
theorem mget_of_mem{κ ν:Type}[DecidableEq κ]:∀ {m:List (κ×ν)},(m.map (·.1)).Nodup->∀ x∈m,mget x.1 m=some x.2
 | (k,v)::m,h,x,hx=>by
  simp only[List.map_cons,List.nodup_cons] at h;rcases List.mem_cons.1 hx with rfl|hx
  ·simp[mget]
  ·have hne:¬x.1=k:=fun e=>h.1 (by rw[<-e];exact List.mem_map.2 ⟨x,hx,I⟩);simp only[mget,hne,if_false];exact mget_of_mem h.2 x hx
theorem sumA_tot{c:Nat}{D:Dk}(o:D.Ok c):sumA D (areasL D)=totA D.areas:=by
 unfold sumA areasL totA;rw[((srtI_perm (D.areas.map (·.1))).map fun a=>(D.ar a).length).sum_nat,List.map_map]
 congr 1
 refine List.map_congr_left fun x hx=>?_;simp only[Function.comp_apply];unfold Dk.ar;rw[mget_of_mem o.keys x hx]
 rfl
theorem len_below{n:Nat}{l:List Int}(h:l.Nodup)(hb:∀ a∈l,0<=a/\a<(n:Int)):l.length<=n:=by
 have:=List.Nodup.length_le_of_subset h (l₂:=(List.range n).map Int.ofNat) (fun a ha=>List.mem_map.2 ⟨a.toNat,by have:=hb a ha;rw[List.mem_range];omega,by have:=hb a ha;show ((a.toNat:Nat):Int)=a;omega⟩);simpa using this
theorem DOk.crash{c q:Nat}{D:Dk}(o:DOk c D)(hq:D.areas.length<=q)(ps:List Int):DOk (65536+q) (D.crash ps)/\(D.crash ps).areas.length<=q/\D.room<=(D.crash ps).room:=by
 obtain ⟨r1,r2,r3,r4,r5,r6⟩:=crA_run o.ok (areasL D) ps [] (max D.room 0) ((srtI_perm _).symm.nodup o.ok.keys) (fun _ _=>rfl) (by simp) (by simp);obtain ⟨s1,s2⟩:=crA_q o.ok (areasL D) ps [] (max D.room 0) ((srtI_perm _).symm.nodup o.ok.keys) (fun _ _=>rfl) (by simp);rw[sumA_tot o.ok] at s2;have hroom:=o.ok.room;have hcap:=o.cap
 have hk:∀ k∈(D.crash ps).areas.map (·.1),k∈D.areas.map (·.1):=fun k hk=>by
  rcases r6 k hk with h|h
  ·exact (srtI_perm _).mem_iff.1 h
  ·simp at h
 have hsum:(D.crash ps).room+(totA (D.crash ps).areas:Int)<=D.room+(totA D.areas:Int):=by
  have:(totA ([]:List (Int×Ar)):Int)=0:=rfl;show (crA D (areasL D) ps [] (max D.room 0)).2+(totA (crA D (areasL D) ps [] (max D.room 0)).1:Int)<=_;omega
 have har:∀ x∈(D.crash ps).areas,∃ l,(x.1,l)∈D.areas/\D.ar x.1=l:=fun x hx=>by
  obtain ⟨y,hy,he⟩:=List.mem_map.1 (hk x.1 (List.mem_map.2 ⟨x,hx,rfl⟩));refine ⟨y.2,by rw[<-he];exact hy,?_⟩;unfold Dk.ar;rw[<-he,mget_of_mem o.ok.keys y hy]
  rfl
 have hlen:(D.crash ps).areas.length<=q:=by
  have h1:=List.Nodup.length_le_of_subset r3 (l₂:=D.areas.map fun x:Int×Ar=>x.1) (fun k h=>hk k h);simp only[List.length_map] at h1;exact Nat.le_trans h1 hq
 have hat:∀ x∈(D.crash ps).areas,∀ y∈x.2,0<=y.1/\y.1<65536:=fun x hx y hy=>by
  obtain ⟨_,_,h3⟩:=s1 x hx;obtain ⟨l,hl,e⟩:=har x hx;obtain ⟨s,g1,_⟩:=h3 y hy;rw[e] at g1;have h:=o.ok.at_ _ hl _ (mget_mem g1);exact h
 refine ⟨⟨⟨r3,fun x hx=>?_,fun x hx y hy=>?_,?_,⟨Int.le_refl 0,by show (0:Int)<=_;omega⟩,⟨by show (-1:Int) <= -1;omega,by show (-1:Int)<=_;omega⟩,fun x hx y hy=>?_⟩,fun k h=>o.ar k (hk k h),?_,by omega⟩,hlen,?_⟩
 ·have h:=len_below (n:=65536) (s1 x hx).1 (fun a ha=>by
   obtain ⟨y,hy,rfl⟩:=List.mem_map.1 ha;exact hat x hx y hy)
  rw[List.length_map] at h;exact ⟨(s1 x hx).1,by omega⟩
 ·obtain ⟨_,_,h3⟩:=s1 x hx;obtain ⟨l,hl,e⟩:=har x hx;obtain ⟨s,g1,v,g2,g3⟩:=h3 y hy;rw[e] at g1;have hv:=o.ok.vs _ hl _ (mget_mem g1);rw[g3];exact ⟨by simp,by show 1<=65536+q;omega,fun b hb=>by rw[List.mem_singleton.1 hb];exact hv.2.2 v g2⟩
 ·show 0<=(crA D (areasL D) ps [] (max D.room 0)).2/\(crA D (areasL D) ps [] (max D.room 0)).2<=1099511627776;have:(D.crash ps).room=(crA D (areasL D) ps [] (max D.room 0)).2:=rfl;omega
 ·exact hat x hx y hy
 ·omega
 ·have:(D.crash ps).room=(crA D (areasL D) ps [] (max D.room 0)).2:=rfl;omega
attribute [local irreducible] Code.wp wpList Calls
theorem crashH{w0:World}{K dh:PH}{hs:List PH}(b:Nat)(D:Dk)(c:Nat)(o:DOk c D)(hc:c<=1000000000)(hD:DskH K b D dh)(ps:List Int)(hps:∀ p∈ps,-9223372036854775808<=p/\p<=9223372036854775807)(ap:Option Addr)(cp:Nat)(xp:IsS K ap ps.length cp 1 (iv ps))(hpl:ps.length<1099511627776):
  Ct Tryz.prog w0 26 [.pointer (some ⟨b,0,none⟩),.slice ap ps.length cp] K (dh::hs)
   (fun v K' hs'=>∃ b2 d2,hs'=d2::dh::hs/\Le K K'/\DskH K' b2 (D.crash ps) d2/\v=.pointer (some ⟨b2,0,none⟩)):=by
 obtain ⟨m,rfl,d,hm⟩:=hD;refine ⟨(crashC (w0:=w0) (hs:=hs) b D c o hc hm ps hps ap cp xp hpl).1,fun w hw=>((crashC (w0:=w0) (hs:=hs) b D c o hc hm ps hps ap cp xp hpl).2 w (hw.split d)).mono ?_⟩;rintro e w' ⟨v,K',hs',rfl,⟨le,b2,m2,rfl,hm2,rfl⟩,hS⟩;obtain ⟨d2,hS2⟩:=Sat.join m2 hS;have hS4:Sat w0 w' K' (m++(uns m2::hs)):=hS2.perm (List.perm_append_comm_assoc [uns m2] m hs);obtain ⟨_,hS5⟩:=Sat.join m hS4;exact ⟨_,K',_,I,⟨b2,uns m2,I,le,⟨m2,I,d2,hm2⟩,I⟩,hS5.perm (List.Perm.swap _ _ _)⟩
end
section
def op3:ROp:=⟨3,0,0,0,0,[],⟨0,0,[],[]⟩⟩
theorem DOk.arm{c:Nat}{D:Dk}(o:DOk c D)(i:Int)(hi:i<=9223372036854775807):DOk c (D.arm i):=by
 unfold Dk.arm
 split
 ·exact o
 ·exact ⟨⟨o.ok.keys,o.ok.ns,o.ok.vs,o.ok.room,o.ok.steps,⟨by dsimp only;omega,by dsimp only;omega⟩,o.ok.at_⟩,o.ar,o.len,o.cap⟩
theorem arm_areas(D:Dk)(i:Int):(D.arm i).areas=D.areas:=by
 unfold Dk.arm
 split <;> rfl
theorem arm_room(D:Dk)(i:Int):(D.arm i).room=D.room:=by
 unfold Dk.arm
 split <;> rfl
attribute [local irreducible] Code.wp wpList Calls
theorem new_inv:∃ S,LInv [0,1,2] 0 lg0 (dk0 16777216) S none/\Cn 0 lg0:=by
 have hc:=crash_cr (dk0_DOk (r:=16777216) qo) [];rw[show (dk0 16777216).crash []=dk0 16777216 from by kernel_rfl] at hc;obtain ⟨L,E,S,h1,_,_,h4,h5,_⟩:=fnd_new vot0_ok (D:=dk0 16777216) rfl _ hc.1 hc.2;rw[open0] at h1;cases h1;exact ⟨S,h4,h5⟩
end
section
section ops
variable {P:Program} {T:Tab} {w0:World} {ops:Array Oper} {Q:Exit->Act->World->Prop} {rest rest':List Oper} {n:Nat} {l l':Sl} {K:PH} {hs:List PH}
theorem mif_run{o:Oper}{t kt et:Nat}{x:Operand}{v:Value}(hop:o.op=.makeInterface t x)(hx:ev l x=some v)(hu:P.underlying t=some (.map kt et)):∀ A w,Ag n l A->(execOp A.eval o).run P w=.ok (.value (.iface t v)) w:=by
 intro A w ha;simp only[execOp,hop,ha.ev hx];rw[Sem.run_bind,show (Instr.makeInterface t v).run P w=.ok (.iface t v) w from by simp[Instr.makeInterface,Sem.run_bind,run_underlying hu,Result.andThen]]
 rfl
theorem tas_run{o:Oper}{t xt kt et:Nat}{x:Operand}{v:Value}(hop:o.op=.typeAssert x xt t false)(hx:ev l x=some (.iface t v))(hu:P.underlying t=some (.map kt et)):∀ A w,Ag n l A->(execOp A.eval o).run P w=.ok (.value v) w:=by
 intro A w ha;simp only[execOp,hop,ha.ev hx];rw[Sem.run_bind,show (Instr.typeAssert (.iface t v) xt t false).run P w=.ok v w from by simp[Instr.typeAssert,Sem.run_bind,run_underlying hu,Result.andThen]]
 rfl
theorem clxa (hT : TabOK P T) (k : Nat) {d g : Nat} {vs : List Value} {fn : Func} {e : Array Value -> Sem Value} {R : Value -> PH -> List PH -> Prop} (h0 : clAt T ops n k rest l = some (d, g, vs, rest', l')) (hf : P.funcs[g]? = some fn) (hname : (fn.name == "runtime.NumGoroutine") = false)
  (hb:fn.body.isNone=true) (hn:Extern.findNext fn=none) (he:Extern.find fn=some e) (hv:∀ w,Sat w0 w K hs->∃ v w' K' hs',(e vs.toArray).run P w=.ok v w'/\Sat w0 w' K' hs'/\R v K' hs')
  (hk:∀ v K' hs',R v K' hs'->WL P w0 ops Q rest' n ((d,v)::l') K' hs'):WL P w0 ops Q rest n l K hs:=by
 unfold clAt at h0
 split at h0
 ·rename_i o r l2 ho
  split at h0
  ·rename_i d' f args ats hd hop
   split at h0
   ·rename_i g' first captured vs' hb' hf' hvs
    simp only[Option.some.injEq,Prod.mk.injEq] at h0;obtain ⟨rfl,rfl,rfl,rfl,rfl⟩:=h0;refine WL.at' hT ho fun hg=>WL.val (R:=R) hd hb' hg (fun A w ha hw=>?_) hk;obtain ⟨v,w',K',hs',g1,g2,g3⟩:=hv w hw;refine ⟨v,w',K',hs',?_,g2,g3⟩;have h6:=ev_map ha _ _ hvs
    have h7:args.map A.eval=vs'.toArray:=by
     apply Array.ext'
     simpa using h6
    have h8:=run_callFunc_extern (P:=P) hf hname hb hn he (first.toList++(vs'++captured.toList)).toArray w;rw[g1] at h8
    have h9:(first.toList++(vs'++captured.toList)).toArray=first++(vs'.toArray++captured):=by
     apply Array.ext';simp
    rw[h9] at h8;simp only[execOp,hop];simp[resolve,h7,ha.ev hf',Deferred.ofValue,invoke,h8,Result.andThen]
   ·simp at h0
  ·simp at h0
 ·simp at h0
theorem mcl_run{t b:Nat}{es:Array MapEntry}{c:Nat}{w:World}(hr:w.heap[b]?=some (.map es c)):
  (Extern.MapsClone.clone #[.iface t (.map (some b))]).run P w=.ok (.iface t (.map (some w.heap.size))) (w.alloc (.map es c)):=by
 have hgo:(getObj b).run P w=.ok (.map es c) w:=by simp[getObj,Sem.run,hr]
 have e:Extern.MapsClone.clone #[.iface t (.map (some b))]=(getObj b >>= fun o=>match o with
   | .map entries clock=>(newObj (.map entries clock) >>= fun n=>pure (.iface t (.map (some n))))
   | _ => stuck "maps.clone: a map expected") := rfl
 rw[e];simp[Sem.run_bind,hgo,Result.andThen,newObj,Sem.run]
end ops
theorem InsR.at{K:PH}:∀ {i:Ins} {q:List (Int×Ar)},InsR K i q->∀ a bi,(a,bi)∈insO i->∃ h l,h∈insH i/\(a,l)∈q/\∃ mv,MpO encI id h bi mv/\MR (SecR K) mv l
 | [],[],_,a,bi,hm=>by simp[insO] at hm
 | x::r,y::q,⟨h1,h2,h4⟩,a,bi,hm=>by
  simp only[insO,List.map_cons,List.mem_cons] at hm;rcases hm with hm|hm
  ·obtain ⟨mv,g1,g2⟩:=h2;simp only[Prod.mk.injEq] at hm;obtain ⟨rfl,rfl⟩:=hm;exact ⟨x.2.2,y.2,by simp[insH],by rw[h1];simp,mv,g1,g2⟩
  ·obtain ⟨h,l,g1,g2,g3⟩:=h4.at a bi hm;exact ⟨h,l,by simp only[insH,List.map_cons,List.mem_cons];exact .inr g1,by simp[g2],g3⟩
 | [],_::_,h,_,_,_=>h.elim
 | _::_,[],h,_,_,_=>h.elim
structure Cln (D D2:Dk):Prop where
 room:D2.room=D.room
 steps:D2.steps=D.steps
 left:D2.left=D.left
 dead:D2.dead=D.dead
 areas:D2.areas.Perm D.areas
theorem mget_perm{κ ν:Type}[DecidableEq κ]{m m':List (κ×ν)}(hn:(m.map (·.1)).Nodup)(p:m'.Perm m)(k:κ):mget k m'=mget k m:=by
 have hn':(m'.map (·.1)).Nodup:=(p.map _).symm.nodup hn;cases hg:mget k m with
 | none=>exact mget_none.2 fun h=>mget_none.1 hg ((p.map _).mem_iff.1 h)
 | some v=>exact mget_of_mem hn' (k,v) (p.mem_iff.2 (mget_mem hg))
theorem Cln.sec{D D2:Dk}(h:Cln D D2)(hn:(D.areas.map (·.1)).Nodup)(a:Int):D2.sec a=D.sec a:=by
 funext n
 unfold Dk.sec Dk.ar;rw[mget_perm hn h.areas]
theorem Cln.cr{E D D2:Dk}(h:Cln D D2)(c:Cr E D):Cr E D2:=by
 have hk:∀ k,k∈D2.areas.map (·.1)↔k∈D.areas.map (·.1):=fun k=>(h.areas.map _).mem_iff;exact ⟨by rw[h.left];exact c.left,by rw[h.dead];exact c.dead,fun a=>by rw[h.sec c.nd];exact c.pk a,fun k hk'=>c.keys k ((hk k).1 hk'),(h.areas.map _).symm.nodup c.nd,fun a=>by rw[hk,h.sec c.nd];exact c.ne a,fun k hk'=>c.pos k ((hk k).1 hk')⟩
theorem Cln.dok{c:Nat}{D D2:Dk}(h:Cln D D2)(o:DOk c D):DOk c D2:=by
 have hm:∀ x,x∈D2.areas->x∈D.areas:=fun x hx=>h.areas.mem_iff.1 hx
 refine ⟨⟨(h.areas.map _).symm.nodup o.ok.keys,fun x hx=>o.ok.ns x (hm x hx),fun x hx=>o.ok.vs x (hm x hx),by rw[h.room];exact o.ok.room,by rw[h.steps];exact o.ok.steps,by rw[h.left];exact o.ok.left,fun x hx=>o.ok.at_ x (hm x hx)⟩,
  fun k hk=>o.ar k ((h.areas.map _).mem_iff.1 hk),by rw[h.areas.length_eq];exact o.len,?_⟩
 rw[h.room,show totA D2.areas=totA D.areas from by unfold totA;exact (h.areas.map _).sum_nat];exact o.cap
theorem nd_of{l:List (Int×Ar)}(h:(l.map (·.1)).Nodup):l.Nodup:=List.Pairwise.of_map (fun x:Int×Ar=>x.1) (fun a b h e=>h (by rw[e])) h
structure ClS where
 hi:PH
 hc:PH
 ins:Ins
 q:List (Int×Ar)
attribute [local irreducible] Code.wp wpList Calls
theorem cloneM{w0:World}{K:PH}{hs:List PH}(bi:Nat)(h:PH)(mv:List (Int×Value))(hin:In K hs h)(hM:MpO encI id h bi mv):
  Ct Tryz.prog w0 66 [.map (some bi)] K hs (fun v K' hs'=>K'=K/\∃ bq hl,hs'=hl::hs/\MpO encI id hl bq mv/\v=.map (some bq)):=by
 refine enter Tryz.func66 qk I I I<|sq (rg<|fin hT 1 I (th<|sq (sq<|rg (cbS hT 1 (False) I (by simp) fun b4 h4=>fin hT 0 I<|th (ifP h4 I (fun e2=>e2.elim) (fun e2=>sk<|th (sq<|rg (opr hT 1 I (v:=.iface 113 (.map<|some bi)) (fun a w ha hw=>mif_run I I Tryz.underlying113 a w ha)<|clxa hT 0 I Tryz.func113 I I qk (e:=Extern.MapsClone.clone) qk (R:=fun v K' hs'=>K'=K/\∃ bq hl,hs'=hl::hs/\MpO encI id hl bq mv/\v=.iface 113 (.map<|some bq)) (fun w hw=>?_) ?_))))))))
 ·obtain ⟨es,c,rfl,g2,g3,g4⟩:=hM;exact ⟨_,_,K,_,mcl_run (hw.inn hin bi (.map es c) (by simp)),hw.alloc (.map es c),I,_,_,I,⟨es,c,I,g2,g3,g4⟩,I⟩
 rintro v7 K7 hs7 ⟨rfl,bq,hl,rfl,hMl,rfl⟩;exact opr hT 0 I (v:=.map (some bq)) (fun a w ha hw=>tas_run I I Tryz.underlying113 a w ha) (fin hT 1 I (th (rt (ret1 I I ⟨I,bq,hl,I,hMl,I⟩))))
theorem cloneDC{w0:World}{K:PH}{hs m:List PH}(b:Nat)(D:Dk)(hnd:(D.areas.map (·.1)).Nodup)(hm:DskM K b D m):
  Ct Tryz.prog w0 30 [.pointer (some ⟨b,0,none⟩)] K (m++hs)
   (fun v K' hs'=>K'=K/\∃ b2 m2 D2,hs'=m2++(m++hs)/\DskM K b2 D2 m2/\v=.pointer (some ⟨b2,0,none⟩)/\Cln D D2):=by
 obtain ⟨bo,ho,ins,rfl,hO,hI⟩:=hm;have hkO:(insO ins).map (·.1)=D.areas.map (·.1):=by rw[insO_keys,insKeys hI]
 refine enter Tryz.func30 qk I I I (sq (rg (fin hT 1 I (th (sq (rg (ldS hT 2 0 I I qk (al hT 0 (.agg #[.int .i64 0,.int .i64 0,.map none,.int .i64 0,.bool false]) I qk fun b3=>stS hT 0 0 I I qk I I (WL.hs (pt b3 (dkA D bo) 108::pt b (dkA D bo) 108::ho::(insH ins++hs)) I (fin hT 0 I (th (sq (rg (mkm hT 0 I fun b2=>?_))))))))))))));have hmap0:=MpO.empty (enc:=encU) (encv:=encB) b2 0;refine stp hT 1 1 I I I I (WL.hs (sg b2 (.map #[] 0)::pt b3 (dkA D b2) 108::pt b (dkA D bo) 108::ho::(insH ins++hs)) I (fin hT 0 I (th (sq (sq (rg (ldp hT 3 2 I I I (mrg hT 0 I Tryz.underlying106 (.inr ⟨3,I⟩) hO fun r hi hI0=>fin hT 0 I (th (bk ?_))))))))))
 refine loop (σ:=ClS) (fun _=>[(0,.pointer (some ⟨b,0,none⟩)),(3,.pointer (some ⟨b3,0,none⟩)),(15,.pointer (some ⟨r,0,none⟩))]) (fun _=>K)
  (fun s=>s.hi::s.hc::pt b3 (dkA D b2) 108::pt b (dkA D bo) 108::ho::(insH ins++(insH s.ins++hs)))
  (fun s=>MpI encU encB ho s.hi bo r (insO ins) (s.q.map (·.1))/\MpO encU encB s.hc b2 (insO s.ins)/\InsR K s.ins s.q/\(s.q.map (·.1)).Nodup/\∀ x∈s.q,x∈D.areas) (fun s=>D.areas.length-s.q.length)
  ⟨hi,sg b2 (.map #[] 0),[],[]⟩ ⟨hI0,hmap0,trivial,by simp,by simp⟩ ⟨rfl,rfl,rfl,trivial⟩ rfl rfl ?_
 rintro ⟨hi,hc,ins2,q⟩ ⟨hJ,hMc,hI2,hqn,hqs⟩;dsimp only at *;refine sq (rg (mnx hT 0 0 I (.inr ⟨4,I⟩) I hJ (by rw[hkO];exact hnd) (fun k v hi' hmem hnk hS=>?_) (fun hall=>?_)))
 ·obtain ⟨h,l,g1,g2,mv,g3,g4⟩:=hI.at k v hmem
  have hkq:(q.map (·.1)++[k]).Nodup:=by
   rw[List.nodup_append];exact ⟨hqn,by simp,fun a ha b hb=>by rw[List.mem_singleton.1 hb];exact fun e=>hnk (by rw[<-e];exact ha)⟩
  have hlen:q.length+1<=D.areas.length:=by
   have:=List.Nodup.length_le_of_subset hkq (l₂:=D.areas.map (·.1)) (fun a ha=>by
    rcases List.mem_append.1 ha with ha|ha
    ·obtain ⟨x,hx,rfl⟩:=List.mem_map.1 ha;exact List.mem_map.2 ⟨x,hqs x hx,I⟩
    ·rw[List.mem_singleton.1 ha];exact List.mem_map.2 ⟨_,g2,I⟩)
   simpa using this
  refine fin hT 1 I (th (sq (ifT I (sk (th (bk (sq (rg (men hT 0 I (.inr ⟨4,I⟩) (.inr ⟨0,I⟩) hS (fin hT 4 I (th (rga [pt b3 (dkA D b2) 108] 6 [0,2,4,6,9,11] (by simp) qk qk (dldp hT qk 1 0 I I I (dact hT qk 2 I (cl hT 0 I (cloneM v h mv (.inr (List.mem_iff_getElem?.1 (by simp[g1]))) g3) ?_)))))))))))))));rintro v25 K25 hs25 ⟨rfl,bq,hl,rfl,hMl,rfl⟩;refine dnex [pt b3 (dkA D b2) 108] (by simp) (by simp) I (dact hT qk 0 I (mpu hT 0 2 k bq I I Tryz.underlying106 keyU I I hMc fun hc' hMc'=>dnex [pt b3 (dkA D b2) 108] (by simp) (by simp) I (dend hT qk 0 I (bl ?_))))
  have hnew:mset k bq (insO ins2)=insO (ins2++[(k,bq,hl)]):=by
   rw[mset_new (mget_none.2 (by rw[insO_keys,insKeys hI2];exact hnk))];simp[insO]
  rw[hnew] at hMc'
  have hP:(hl::(([hi',hc',pt b3 (dkA D b2) 108,pt b (dkA D bo) 108,ho]++(insH ins++insH ins2))++hs)).Perm (hi'::hc'::pt b3 (dkA D b2) 108::pt b (dkA D bo) 108::ho::(insH ins++(insH (ins2++[(k,bq,hl)])++hs))):=by
   have h1:=(List.perm_middle (a:=hl) (l₁:=[hi',hc',pt b3 (dkA D b2) 108,pt b (dkA D bo) 108,ho]++(insH ins++insH ins2)) (l₂:=hs)).symm;have h2:insH (ins2++[(k,bq,hl)])=insH ins2++[hl]:=by simp[insH]
   rw[h2];simpa[List.append_assoc] using h1
  refine WQ.perm (hs':=hi'::hc'::pt b3 (dkA D b2) 108::pt b (dkA D bo) 108::ho::(insH ins++(insH (ins2++[(k,bq,hl)])++hs))) (by simpa[List.append_assoc] using hP) (again (x:=(⟨hi,hc,ins2,q⟩:ClS)) (⟨hi',hc',ins2++[(k,bq,hl)],q++[(k,l)]⟩:ClS) ⟨I,I,I,trivial⟩ I I ⟨by dsimp only;rw[List.map_append];exact hS.1,hMc',hI2.app ⟨I,⟨mv,hMl,g4⟩,trivial⟩,by dsimp only;rw[List.map_append];exact hkq,fun x hx=>?_⟩ (by dsimp only;rw[List.length_append];simp only[List.length_cons,List.length_nil];omega));rcases List.mem_append.1 hx with hx|hx
  ·exact hqs x hx
  ·rw[List.mem_singleton.1 hx];exact g2
 ·refine fin hT 1 I (th (sq (ifF I (ex (xt (xt (xb (th (sq (rg (fin hT 1 I (th (rt (WQ.drop (WQ.perm (hs':=(pt b3 (dkA D b2) 108::hc::insH ins2)++((pt b (dkA D bo) 108::ho::insH ins)++hs)) ((List.Perm.swap _ hc _).trans (((List.perm_append_comm_assoc (pt b (dkA D bo) 108::ho::insH ins) (insH ins2) hs).cons _).cons _)) (ret1 I I ⟨I,b3,_,{ D with areas:=q },I,⟨b2,hc,ins2,I,hMc,hI2⟩,I,⟨I,I,I,I,((List.perm_ext_iff_of_nodup (nd_of hqn) (nd_of hnd)).2 fun x=>⟨hqs x,fun hx=>?_⟩)⟩⟩))))))))))))))));obtain ⟨y,hy,hy1⟩:=List.mem_map.1 (show x.1∈(insO ins).map (·.1) by rw[hkO];exact List.mem_map.2 ⟨x,hx,I⟩);obtain ⟨z,hz,hz1⟩:=List.mem_map.1 (hall y hy);have e1:=mget_of_mem hnd z (hqs z hz);have e2:=mget_of_mem hnd x hx;rw[hz1,hy1,e2] at e1;have:z=x:=Prod.ext (hz1.trans hy1) (Option.some.inj e1).symm;rw[<-this];exact hz
end
section
theorem rm_lgFree(pl:Nat):∀ (l:List Int) (D:Dk),Rm 0 D (lgFree pl l D).1
 | [],D=>Rm.refl _ D
 | a::r,D=>by
  rw[lgFree_cons]
  split
  ·split
   ·exact rm_free D a
   ·exact (rm_free D a).trans<|rm_lgFree pl r _
  ·exact rm_lgFree pl r D
theorem rm_settle(g:List Nat):∀ (l:List Nat) (D:Dk),Rm 0 D (wsettle g l D).1
 | [],D=>Rm.refl _ D
 | n::r,D=>by
  have h1:Rm 0 D (wset1 D g n).1:=by
   unfold wset1
   split
   ·exact rm_free D _
   ·exact rm_sync D _
  rw[wsettle_step]
  split
  ·exact h1.trans<|rm_settle g r _
  ·exact h1
theorem rm_wOpen(D:Dk)(fr first:Nat):Rm 0 D (wOpen D fr first).2.1:=by
 unfold wOpen
 split
 ·exact Rm.refl _ D
 ·split
  ·exact Rm.refl _ D
  ·split
   ·exact Rm.refl _ D
   ·split
    ·exact Rm.refl _ D
    ·split
     ·exact rm_settle _ _ D
     ·exact rm_settle _ _ D
theorem rm_lOpen(D:Dk)(first:List Int):Rm 0 D (lOpen D first).2.1:=by
 unfold lOpen
 split
 ·exact Rm.refl _ D
 ·split
  ·exact Rm.refl _ D
  ·split
   ·exact Rm.refl _ D
   ·split
    ·exact Rm.refl _ D
    ·rename_i h _;have h1:=rm_lgFree h.2.1 (areasL D) D;unfold lOpen2
     split
     ·exact h1
     ·have h2:=h1.trans (rm_wOpen (lgFree h.2.1 (areasL D) D).1 h.2.2 (h.1.idx+1));unfold lOpen3
      split
      ·exact h2
      ·split
       ·exact h2
       ·exact h2
structure DiI (j:Nat) (D:Dk):Prop where
 ok:DOk (65536+31003*j) D
 ar:D.areas.length<=31003*j
 room:16777216<=D.room+((331401*j:Nat):Int)
 opn:∃ L E S,lOpen D [0,1,2]=(some L,E,0)/\LInv [0,1,2] (30702*j) L E S none/\Cn (30702*j) L/\Liv 0 E/\(E.areas.map (·.1)).Nodup/\L.rl.top<lgTop/\L.l.length<=30100*j
def ctB(j:Nat):CtB:=⟨30702*j,65536+31003*j+2*(31003*j),31003*j,30100*j,16777216-((331401*j:Nat):Int)⟩
theorem DiI.begin{j:Nat}{D:Dk}(o:DiI j D)(hj:j<=20)(i:Int)(hi:i<=9223372036854775807):
  ∃ L E,lOpen D [0,1,2]=(some L,E,0)/\CtI (ctB j) false 0 L (E.arm i) [L.rl]/\Rn (ctB j).c (ctB j).q L E:=by
 obtain ⟨L,E,S,h1,h2,h3,h4,h5,h6,h7⟩:=o.opn;have r:=(Rn.opened o.ok o.ar (first:=[0,1,2]) (L:=L) (by rw[h1])).1;have hm:=rm_lOpen D [0,1,2];rw[h1] at r hm;have hroom:=o.room;unfold Rm at hm;dsimp only at hm;refine ⟨L,E,h1,⟨cut_begin h2 h3 h4 h5 qo h6 i,⟨r.lb,r.ok.arm i hi,r.old,by rw[arm_areas];exact r.ar⟩,h7,?_,(fun h=>by cases h),?_⟩,r⟩
 ·intro x hx;rw[List.mem_singleton.1 hx];exact ⟨r.lb.kt,r.lb.idx,r.lb.st,r.lb.vot,r.lb.data,h7,r.lb.ents⟩
 ·rw[arm_room];show 16777216-((331401*j:Nat):Int)<=E.room+((1101*0:Nat):Int);omega
theorem DiI.next{j:Nat}{D':Dk}{was:List Rl}{hard:List (Nat×Int)}(ps:List Int)(oD:DOk ((ctB j).c+(32303+(ctB j).q)*301) D')(hF:Fnd [0,1,2] ((ctB j).M+102*301) D' hard (Was was))(hwb:∀ x∈was,RBd ((ctB j).l+30100) x)
  (htop:∀ x∈was,x.top<lgTop) (har:D'.areas.length<=(ctB j).q+103*301) (hroom:(ctB j).r<=D'.room+331401):DiI (j+1) (D'.crash ps):=by
 have har2:D'.areas.length<=31003*(j+1):=by have:(ctB j).q=31003*j:=rfl;omega
 obtain ⟨c1,c2,c3⟩:=oD.crash har2 ps;have hcr:=crash_cr oD ps;obtain ⟨L,E,S,g1,g2,⟨x,hx,hx1,hx2⟩,g4,g5,g6,g7⟩:=hF _ hcr.1 hcr.2;have hM:(ctB j).M+102*301=30702*(j+1):=by show 30702*j+102*301=_;omega
 rw[hM] at g4 g5;refine ⟨c1,c2,?_,L,E,S,g1,g4,g5,g6,g7,?_,?_⟩
 ·have:(ctB j).r=16777216-((331401*j:Nat):Int):=rfl;omega
 ·have:=htop x hx;unfold Rl.top at this ⊢;rw[hx1,hx2] at this;exact this
 ·have:=(hwb x hx).len;rw[hx2] at this;have h2:(ctB j).l=30100*j:=rfl;omega
theorem flat1:∀ (css:List (List Value)),(∀ d∈css,d.length=1)->∀ (j:Nat) c,css[j]?=some c->∃ v,c=[v]/\css.flatten[j]?=some v
 | [],_,j,c,h=>by simp at h
 | d::r,hl,0,c,h=>by
  simp only[List.getElem?_cons_zero,Option.some.injEq] at h;subst h;have:=hl d (by simp)
  match d,this with
  | [v],_=>exact ⟨v,rfl,by simp⟩
 | d::r,hl,j+1,c,h=>by
  simp only[List.getElem?_cons_succ] at h;obtain ⟨v,h1,h2⟩:=flat1 r (fun x hx=>hl x (by simp[hx])) j c h;have:=hl d (by simp)
  match d,this with
  | [u],_=>exact ⟨v,h1,by simpa using h2⟩
theorem SlS.get1{α:Type}{R:List Value->α->Prop}{H:PH}{ao:Option Addr}{n cap:Nat}{xs:List α}(x:SlS 1 R H ao n cap xs):∃ vs,IsS H ao n cap 1 vs/\∀ (j:Nat) (y:α),xs[j]?=some y->∃ v,vs[j]?=some v/\R [v] y:=by
 obtain ⟨css,h1,h2,h3,h4⟩:=x;refine ⟨_,h2,fun j y hy=>?_⟩;obtain ⟨c,hc,hR⟩:=h3.get hy;obtain ⟨v,rfl,hv⟩:=flat1 css h4 j c hc;exact ⟨v,hv,hR⟩
structure LcS where
 j:Nat
 K:PH
 D:Dk
 db:Nat
 dh:PH
attribute [local irreducible] Code.wp wpList Calls
def OpsC(K:PH)(cs:List Value)(ops:List ROp):Prop:=∃ ao cap,cs=[.slice ao ops.length cap]/\SlS 10 (OpC K) K ao ops.length cap ops
theorem di0:DiI 0 (dk0 16777216):=by
 obtain ⟨S,h1,h2⟩:=new_inv;exact ⟨(dk0_DOk qo).up qo,by simp[dk0],by decide,lg0,dk0 16777216,S,open0,h1,h2,bg0.liv.mono qo,by simp[dk0],by decide,Nat.le_refl _⟩
theorem cloneH{w0:World}{K dh:PH}{hs:List PH}(b:Nat)(D:Dk)(hnd:(D.areas.map (·.1)).Nodup)(hD:DskH K b D dh):
  Ct Tryz.prog w0 30 [.pointer (some ⟨b,0,none⟩)] K (dh::hs)
   (fun v K' hs'=>K'=K/\∃ b2 d2 D2,hs'=d2::dh::hs/\DskH K b2 D2 d2/\v=.pointer (some ⟨b2,0,none⟩)/\Cln D D2):=by
 obtain ⟨m,rfl,d,hm⟩:=hD;refine ⟨(cloneDC (w0:=w0) (hs:=hs) b D hnd hm).1,fun w hw=>((cloneDC (w0:=w0) (hs:=hs) b D hnd hm).2 w (hw.split d)).mono ?_⟩;rintro e w' ⟨v,K',hs',rfl,⟨rfl,b2,m2,D2,rfl,hm2,rfl,hc⟩,hS⟩;obtain ⟨d2,hS2⟩:=Sat.join m2 hS;have hS4:Sat w0 w' K' (m++(uns m2::hs)):=hS2.perm (List.perm_append_comm_assoc [uns m2] m hs);obtain ⟨_,hS5⟩:=Sat.join m hS4;exact ⟨_,K',_,I,⟨I,b2,uns m2,D2,I,⟨m2,I,d2,hm2⟩,I,hc⟩,hS5.perm (List.Perm.swap _ _ _)⟩
theorem lawCrash{w0:World}{K:PH}{hs:List PH}(ao:Option Addr)(cap:Nat)(os:List (List ROp))(xs:SlS 1 (OpsC K) K ao os.length cap os)(hb:∀ ops∈os,(∀ o∈ops,o.bd 1048576)/\ops.length<1099511627776)(hn:os.length<1099511627776)
  (at_:Int) (hat : -9223372036854775808<=at_/\at_<=9223372036854775807) (ap:Option Addr) (cp:Nat) (ps:List Int) (xp:IsS K ap ps.length cp 1 (iv ps)) (hps:∀ p∈ps,-9223372036854775808<=p/\p<=9223372036854775807) (hpl:ps.length<1099511627776):
  Ct Tryz.prog w0 8 [.slice ao os.length cap,.int .i64 at_,.slice ap ps.length cp] K hs (fun v K' _=>K'=K/\v=.bool true):=by
 refine Ct.fix2 (R:=fun v K' _=>Le K K'/\v=.bool true) (enter Tryz.func8 qk I I I (sq (rg (fin hT 1 I (th (sq (rg (cl hT 0 I (newH 16777216 qo) ?_)))))))) fun w v K' hs' hS h=>⟨K,hs',⟨I,h.2⟩,hS.weak h.1⟩;rintro v15 K15 hs15 ⟨rfl,db,dh,rfl,hD,rfl⟩;refine fin hT 1 I (th (sq (sq (rg (cbS hT 1 (False) I (by simp) fun b17 h17=>?_)))))
 refine' bjo (q:=False) hT 1 3 21 [17,18] h17 I I I I I I I (fun _=>?x2) (fun b21 h21=>?_)
 case x2=>
  refine cl hT 0 I aliveW ?_;rintro v19 K19 hs19 ⟨rfl,rfl,rfl⟩;exact cbS hT 0 (False) I (by simp) fun b20 h20=>fin hT 1 I (bjx h20 I I I)
 refine fin hT 0 I<|th (ifP h21 I (fun e3=>?_) (fun e3=>?_))
 ·exact absurd e3 (by simp)
 refine sk<|th (sq<|sq (rg<|fin hT 3 I (th<|bk ?_)))
 refine loop (σ:=LcS) (fun s=>[(1,.int .i64 at_),(2,.slice ap ps.length cp),(7,.pointer (some ⟨s.db,0,none⟩)),(22,.slice ao os.length cap),(23,.int .i64 os.length),(24,.int .i64 s.j)]) (fun s=>s.K)
  (fun s=>s.dh::hs) (fun s=>s.j<=os.length/\s.j<=21/\Le K15 s.K/\DskH s.K s.db s.D s.dh/\DiI s.j s.D) (fun s=>os.length-s.j) ⟨0,K15,dk0 16777216,db,dh⟩
  ⟨Nat.zero_le _,Nat.zero_le _,Le.refl _,hD,di0⟩ ⟨rfl,rfl,rfl,rfl,rfl,rfl,trivial⟩ rfl rfl ?_
 clear hD;rintro ⟨j,K1,D,db,dh⟩ ⟨hj,hj2,le1,hD,hI⟩;dsimp only at *;refine sq (rg (cmpS hT 0 I fun b25 h25=>fin hT 0 I (th (sq (ifP h25 I (fun e5=>?_) (fun e5=>?_))))))
 ·have hj1:j<os.length:=by omega
  obtain ⟨ops,ho⟩:∃ ops,os[j]?=some ops:=⟨_,List.getElem?_eq_getElem hj1⟩;obtain ⟨hbo,hno⟩:=hb ops (List.mem_of_getElem? ho);obtain ⟨vs,g1,g2⟩:=SlS.get1 xs;obtain ⟨v,hv,a,c,e,xo⟩:=g2 j ops ho;obtain rfl:v=.slice a ops.length c:=by simpa using e
  refine sk (th (sq (bk (sq (rg (ix1 hT 1 j I I I (g1.le le1) hv fun a27 hc27=>ld hT 0 I (.inl I) hc27 (fin hT 2 I (th (sq (sq (rg (cl hT 1 I (fewW a ops.length c hno) ?_))))))))))));rintro v30 K1 hs30 ⟨rfl,rfl,rfl⟩;refine cbS hT 0 (¬ops.length<=300) I (by by_cases h:ops.length<=300 <;> simp[h]) fun b31 h31=>?_
  refine' bjo (q:=((j:Nat):Int)>20) hT 1 3 35 [31,32] h31 I I I I I I I (fun _=>?x6) (fun b35 h35=>?_)
  case x6=>
   exact cmpS hT 1 I fun b34 h34=>fin hT 1 I<|bjx h34 I I I
  refine fin hT 0 I<|th (ifP h35 I (fun e8=>?_) (fun e8=>?_))
  ·exact sq<|rg (fin hT 1 I<|th (rt<|rT (rB<|rT (rT<|rB (rT<|ret1 I I ⟨le1,I⟩)))))
  have e8:=not_or.1 e8;have hfew:ops.length<=300:=by omega
  have hj20:j<=20:=by omega
  obtain ⟨L0,E0,hO,h0,hr0⟩:=hI.begin hj20 at_ hat.2;have hq:(ctB j).q=31003*j:=rfl;have hcc:(ctB j).c=65536+31003*j+2*(31003*j):=rfl;refine sk (th (sq (rg (cl hT 3 I (cutW db D _ hI.ok qo hD at_ hat a c ops (xo.le le1 fun _ _ h=>h.le le1) hbo qo (ctB j) false L0 E0 hO h0 hr0 (by show 30702*j<=_;omega) (by show 30100*j<=_;omega) (by rw[hq,hcc];omega)) ?_))));rintro v40 K40 hs40 ⟨was,hard,D',dh',aw,cw,ah,ch,rfl,le40,hD',oD',hF,hwb,xw,xh,rfl,_,hwn,hhn,htop,har,hroom⟩;have hN:DiI (j+1) (D'.crash ps):=DiI.next ps oD' hF hwb htop har hroom;refine fin hT 7 I (th (sq (rg (cl hT 2 I (crashH db D' _ oD' (by rw[hq,hcc];omega) hD' ps hps ap cp (xp.le (le1.trans le40)) hpl) ?_))));rintro v46 K46 hs46 ⟨b2,d2,rfl,le46,hC,rfl⟩;have hcr:=crash_cr oD' ps;refine fin hT 1 I (th (sq (sq (rg (cbS hT 1 (False) I (by simp) fun b48 h48=>?_)))))
  refine' bjo (q:=False) hT 1 3 52 [48,49] h48 I I I I I I I (fun _=>?x9) (fun b52 h52=>?_)
  case x9=>
   exact cbS hT 1 (False) I (by simp) fun b51 h51=>fin hT 1 I<|bjx h51 I I I
  refine fin hT 0 I<|th (ifP h52 I (fun e11=>?_) (fun e11=>?_))
  ·exact absurd e11 (by simp)
  refine sk (th (sq (rg (cl hT 1 I (cloneH b2 (D'.crash ps) hcr.1.nd hC) ?_))));rintro v55 K55 hs55 ⟨rfl,b3,d3,D2,rfl,hD2,rfl,hCl⟩;refine cl hT 0 I firstW ?_;rintro v56 K56 hs56 ⟨le56,rfl,a56,c56,rfl,x56⟩;have oC:=hCl.dok hN.ok;refine cl hT 0 I (openH b3 D2 _ oC qo (hD2.le le56) [0,1,2] (by simp) a56 c56 x56) ?_;rintro v57 K57 hs57 ⟨h,rfl,le57,hX⟩;obtain ⟨L,E,S,g1,g2,g3,_⟩:=hF _ (hCl.cr hcr.1) (by rw[hCl.room];exact hcr.2);have hRn:=(Rn.opened oC oC.len (first:=[0,1,2]) (L:=L) (by rw[g1])).1;rw[g1] at hX hRn;rcases hX with ⟨hn',_⟩|⟨L',lb,hL',rfl,hL⟩
  ·cases hn'
  cases hL';obtain ⟨x,hx,hx1,hx2⟩:=g3;have hwl:(ctB j).l=30100*j:=rfl
  have hLl:L.l.length<=1048576:=by
   have:=(hwb x hx).len;rw[hx2] at this;omega
  have hlb:=hRn.lb;have leF:Le K40 K57:=(le46.trans le56).trans le57;refine fin hT 5 I (th (sq (rg (cmpS hT 1 I fun b61 h61=>?_))))
  refine' bjo (q:=False) hT 1 6 68 [61,62] h61 I I I I I I I (fun _=>?x13) (fun b68 h68=>?_)
  case x13=>
   refine cl hT 3 I (Ct.fix2 (foundW lb b3 L E _ hlb qo hL hLl ⟨hlb.kt,hlb.idx,hlb.st,hlb.vot,hlb.data,hLl,hlb.ents⟩ aw ah cw ch was hard (xw.le leF fun _ _ h=>h.le leF) (xh.le leF fun _ _ h=>h) (fun r hr=>(hwb r hr).up qo) qo qo)
    (R':=fun v K' hs'=>K'=K57/\hs'=h::d2::dh'::hs/\v=.bool true) (fun w v K' hs' hS ⟨h',e1,e2,le,b,e3,e4⟩=>⟨K57,h::d2::dh'::hs,⟨rfl,rfl,by rw[e3,e4.2 ⟨g2,x,hx,hx1,hx2⟩]⟩,by subst e1 e2;exact hS.weak le⟩)) ?_
   rintro v66 K66 hs66 ⟨rfl,rfl,rfl⟩;exact cbS hT 0 (False) I (by simp) fun b67 h67=>fin hT 1 I (bjx h67 I I I)
  refine fin hT 0 I<|th (ifP h68 I (fun e14=>?_) (fun e14=>?_))
  ·exact absurd e14 (by simp)
  exact sk (bl (th (rg (ar hT 0 I (i64w (x:=((j+1:Nat):Int)) qo) (fin hT 1 I (WQ.drop (WQ.drop1 (again (x:=(⟨j,K1,D,db,dh⟩:LcS)) (⟨j+1,K57,D'.crash ps,b2,d2⟩:LcS) ⟨I,I,I,I,I,I,trivial⟩ I I ⟨by dsimp only;omega,by dsimp only;omega,(le1.trans le40).trans leF,hC.le (le56.trans le57),hN⟩ (by dsimp only;omega)))))))))
 ·exact ex<|xt (xt<|xb (th<|sq (rg<|fin hT 1 I (th<|rt (ret1 I I ⟨le1,I⟩)))))
end
section
open Go.En Go.ChangeShapes Go.WideShapes Go.ChangeAt Go.RowKit Go.Deep
set_option maxRecDepth 100000
section opens
variable {H:Type} {enc:TypeId×Value->H} {W:World}
theorem all2_opss:∀ {css:List (List Value)} {xs:List (List OpT)},All2 (RSl W 10 (ROpR W)) css xs->sumM (mL mOp) xs<=1048576 ->
  ∃ os:List (List ROp),os.length=xs.length/\All2 (OpsC (hp W)) css os/\∀ ops∈os,(∀ o∈ops,o.bd 1048576)/\ops.length<1099511627776
 | [],[],_,_=>⟨[],rfl,trivial,by simp⟩
 | c::cs,x::xs,⟨h1,h2⟩,hB=>by
  simp only[sumM,mL] at hB;have hge:=sumM_ge mOp (fun _=>by simp only[mOp,mS,mP,mU];omega) x;obtain ⟨ao,cap,ops,e,hl,g1,g2⟩:=rsl_ops h1 qo;obtain ⟨os,k1,k2,k3⟩:=all2_opss h2 qo;refine ⟨ops::os,by simp[k1],⟨⟨ao,cap,e,g1⟩,k2⟩,fun y hy=>?_⟩;rcases List.mem_cons.1 hy with rfl|hy
  ·exact ⟨g2,by omega⟩
  ·exact k3 y hy
 | [],_::_,g,_=>g.elim
 | _::_,[],g,_=>g.elim
theorem opssOpens:Opens enc Tryz.prog W 78 1 (RSl W 1 (RSl W 10 (ROpR W))) (mL (mL mOp)):=sliceM Tryz.underlying78 qk opsOpens
theorem open_opss{base:Nat}{v:Value}{d:DataW H}{ps:List MemPlace}(hval:Value.okWide Tryz.prog W .any base 78 v)(h:DataW.Trod enc Tryz.prog W 0 (fun _=>true) true 78 v d ps)(hB:Rows.uptoBulk d<=1048576):
  ∃ ao cap,∃ os:List (List ROp),v=.slice ao os.length cap/\SlS 1 (OpsC (hp W)) (hp W) ao os.length cap os/\(∀ ops∈os,(∀ o∈ops,o.bd 1048576)/\ops.length<1099511627776)/\os.length<1099511627776:=by
 obtain ⟨a0,len,cap0,rfl⟩:=okWide_slice Tryz.underlying78 hval;obtain ⟨xs,hR,hm⟩:=(opssOpens (enc:=enc) (W:=W)).arg h;have hm':sumM (mL mOp) xs+1<=Rows.uptoBulk d:=hm;have hge:=sumM_ge (mL mOp) (fun _=>by simp only[mL];omega) xs;obtain ⟨ao,cap,css,e,x,h2⟩:=hR;obtain ⟨os,k1,k2,k3⟩:=all2_opss h2 qo;simp[Value.cells] at e;obtain ⟨rfl,rfl,rfl⟩:=e;rw[<-k1] at x ⊢;exact ⟨a0,cap0,os,I,⟨css,I,x,al2_of_all2 k2,all2_size (fun c x hc=>by obtain ⟨_,_,rfl,_⟩:=hc;rfl) k2⟩,k3,by omega⟩
end opens
end
end Go.En
