/-
  Part 4 of what the proof needs (texts Wk Ja Jb Jc Jd Je Jf Jg Jh Ji Jj Jk Jl Jm Jn Jo Jp Jq Np Ra Rb Rc Rd Re Rf Rg Rh Qa Qb).
-/
import Derived.Test.YtneeeblghijmgaaGreatZC3
set_option linter.unusedSectionVars false
set_option linter.unusedSimpArgs false
set_option linter.unusedVariables false
namespace Go.En
open Go.Proofs Go.Proofs.YtneeeblghijmgaaGreat
section
theorem wscan_step(D:Dk)(fr n:Nat)(r:List Nat)(W:Wl)(g:List Nat):wscan D fr (n::r) W g =
  if (wstep D fr n W).2.1=false\/wTop<(wstep D fr n W).1.first+(wstep D fr n W).1.recs.length then ((wstep D fr n W).1,if (wstep D fr n W).2.2 then g++[n] else g,false)
  else wscan D fr r (wstep D fr n W).1 (if (wstep D fr n W).2.2 then g++[n] else g):=rfl
theorem wstep_bd{D:Dk}{fr n:Nat}{W:Wl}(h:W.first<=wTop):(wstep D fr n W).1.first<=wTop/\(wstep D fr n W).1.recs.length<=W.recs.length+4128831:=by
 unfold wstep
 split
 ·exact ⟨h,Nat.le_add_right _ _⟩
 ·unfold wread
  split
  ·exact ⟨h,Nat.le_add_right _ _⟩
  ·rename_i h1;have h1:=Decidable.not_not.1 h1;have hU:=(rUint_ok h1).2;have hUl:=(rUint_bd wTop (wtext D n) 0).2;have hx:=wtext_len D n
   have hf:(W.follows n (rUint wTop (wtext D n,0)).1).1.first<=wTop:=by
    unfold Wl.follows
    split
    ·exact hU
    ·split
     ·exact h
     ·exact h
   obtain ⟨f1,_⟩:=follows_facts W n (rUint wTop (wtext D n,0)).1
   split
   ·exact ⟨hf,by dsimp only;omega⟩
   ·obtain ⟨g1,g2⟩:=wrecs_len ((wtext D n).length+1) (rUint wTop (wtext D n,0)).2 h1;refine ⟨hf,?_⟩;dsimp only;rw[List.length_append];omega
attribute [local irreducible] Code.wp wpList Calls
theorem openWC{w0:World}{K dh:PH}{hs:List PH}(db:Nat)(D:Dk)(c:Nat)(oD:DOk c D)(hc:c<=400000000)(hd:DskH K db D dh)(fr first:Nat)(hfr:fr<18446744073709551616)(hfi:first<18446744073709551616):
  Ct Tryz.prog w0 63 [.pointer (some ⟨db,0,none⟩),.int .u64 (fr:Nat),.int .u64 (first:Nat)] K (dh::hs)
   (fun v K' hs'=>Le K K'/\∃ m' dh',hs'=m'++(dh'::hs)/\DskH K' db (wOpen D fr first).2.1 dh'/\match (wOpen D fr first).1 with
    | none=>m'=[]/\v=.tuple #[.pointer none,.int .i64 (wOpen D fr first).2.2]
    | some W=>∃ wb,WalM K' wb db W m'/\v=.tuple #[.pointer (some ⟨wb,0,none⟩),.int .i64 (wOpen D fr first).2.2]):=by
 have hbd:=areasL_bd oD;have hal:=areasL_len oD;have hnl:=wnums_len (areasL D);have hsrt:(areasL D).Pairwise (· <= ·):=srtI_srt _;have hlt:=wnums_lt hsrt;have hnd:=wnums_nodup (areasL_nodup oD.ok) (fun k hk=>(hbd k hk).1);have htot:=oD.cap;have hroom:=oD.ok.room
 have hn0:∀ n∈wnums (areasL D),n<18446744073709551616:=fun n hn=>by
  obtain ⟨a,ha,_,rfl⟩:=wnums_mem hn;have:=hbd a ha;omega
 have hnx0:wnext (areasL D)<18446744073709551617:=by
  unfold wnext;rcases List.eq_nil_or_concat (wnums (areasL D)) with h|⟨l',b,h⟩
  ·rw[h];decide
  ·have:=hn0 b (by rw[h];simp);rw[h];simp only[List.concat_eq_append,List.foldl_append,List.foldl_cons,List.foldl_nil];omega
 obtain ⟨R,hR⟩:∃ R,R=wOpen D fr first:=⟨_,rfl⟩
 rw[<-hR];refine enter Tryz.func63 qk I I I (sq (rg (fin hT 2 I (th (sq (sq (rg (cl hT 1 I (deadH db D hd) ?_))))))));rintro v17 K17 hs17 ⟨rfl,rfl,rfl⟩;unfold wOpen at hR;cases hdead:D.dead with
 | true=>
  rw[if_pos hdead] at hR;refine fin hT 0 I (th (ifT I (sq (rg (fin hT 2 I (th (rt (rT ?_))))))));rw[hR];exact ret2 I I I ⟨Le.refl _,[],dh,I,hd,I,I⟩
 | false=>
  rw[if_neg (by rw[hdead];simp)] at hR;refine fin hT 0 I (th (ifF I (sk (th (sq (sq (rg (cmpS hT 1 I fun b19 h19=>fin hT 0 I (th (ifP h19 I (fun e3=>?_) (fun e3=>?_)))))))))))
  ·rw[if_pos (by unfold wTop;omega)] at hR;refine sq (rg (fin hT 2 I (th (rt (rT ?_)))));rw[hR];exact ret2 I I I ⟨Le.refl _,[],dh,I,hd,I,I⟩
  ·have hft:first<=wTop:=by unfold wTop;omega
   rw[if_neg qo] at hR;refine sk (th (WC.em (WC.perm (List.Perm.swap _ _ _) (WC.em (WC.em (WC.em (WC.em (sq (rg (bd hT 2 (.agg (wlA db none first (.slice none 0 0) (.slice none 0 0) 0 0)) I (fun w=>by kernel_rfl) (bx hT 0 I fun wb=>al hT 0 (.pointer none) I qk fun b8=>stp hT 0 0 I I I I (WL.perm (hs':=[_,_,_,_,_]++(_::dh::em::hs)) (List.perm_middle (l₁:=[_,_,_,_,_])).symm ?_))))))))))))
   have hW0:WalM K17 wb db ⟨none,first,[],[],0,0⟩ [pt wb (wlA db none first (.slice none 0 0) (.slice none 0 0) 0 0) 146,em,em,em,em]:=
    ⟨none,none,0,none,0,em,em,em,em,rfl,⟨rfl,rfl,rfl⟩,SlZ.nil _ _,SlZ.nil _ _⟩
   refine fin hT 0 I (th (sq (rg (ldp hT 0 5 I I I (cl hT 0 I (numbersC wb db _ hW0 D c oD qo hd I) ?_)))));rintro v25 K25 hs25 ⟨le,m2,rfl,hW2,an,kn,rfl,xN⟩;obtain ⟨l,hl⟩:∃ l,l=wnums (areasL D):=⟨_,rfl⟩;rw[<-hl] at xN hlt hnd hnl hR hn0 ⊢;obtain ⟨ob,aL,cL,aO,cO,oH,rH,gL,gO,rfl,hop,hL,hO⟩:=hW2;dsimp only at hop hL hO;refine WL.hs (pt wb (wlA db ob first (.slice aL 0 cL) (.slice aO 0 cO) (wnext (areasL D)) 0) 146::oH::rH::gL::gO::pt b8 #[.pointer (some ⟨wb,0,none⟩)] 88::dh::em::hs) I (fin hT 1 I (th (sq (rga [pt b8 #[.pointer (some ⟨wb,0,none⟩)] 88,pt wb (wlA db ob first (.slice aL 0 cL) (.slice aO 0 cO) (wnext (areasL D)) 0) 146] 9 [0,2,4,6,8,10,12,14,16,19] (by simp) qk qk (dldpw hT qk 0 0 I qk I I (dldpw hT qk 0 0 I qk I I (dldpw hT qk 2 1 I qk I I (dact hT qk 4 I (stp hT 0 0 I I I I (dnext (.inl qk) ?_))))))))))
   obtain ⟨mx,hmx⟩:∃ mx,mx=max (wnext (areasL D)) fr:=⟨_,rfl⟩;have hmx2:(if ((fr:Nat):Int)>((wnext (areasL D):Nat):Int) then ((fr:Nat):Int) else ((wnext (areasL D):Nat):Int))=((mx:Nat):Int):=by split <;> omega
   have hmx3:(wl0 fr first (areasL D)).next=mx:=hmx.symm;have hW0:wl0 fr first (areasL D)=⟨none,first,[],[],mx,0⟩:=by rw[hmx];rfl
   rw[hmx2];refine dend hT qk 0 I (th (sq (sq (rg (ldp hT 0 5 I I I (ldp hT 2 0 I I I (cmpS hT 0 I fun b39 h39=>fin hT 0 I (th (ifP h39 I (fun e5=>?_) (fun e5=>?_))))))))))
   ·rw[if_pos (by rw[hmx3];unfold wMany;omega)] at hR;refine sq (rg (fin hT 2 I (th (rt (rT (WQ.del 0 I (WQ.del 0 I (WQ.del 0 I (WQ.del 0 I (WQ.del 0 I (WQ.del 0 I (WQ.del 1 I ?_))))))))))));rw[hR];exact ret2 I I I ⟨le,[],dh,I,hd.le le,I,I⟩
   ·have hmxt:mx<=1152921504606846976:=by omega
    rw[if_neg (by rw[hmx3];unfold wMany;omega)] at hR;have hlm:∀ n∈l,n<=2305843009213693952:=fun n hn=>by have:=hlt n hn;omega
    have hsum:∀ j,sumSeg D (l.take j)<=1073741824:=fun j=>by
     have:=sumSeg_le (D:=D) (hnd.sublist (List.take_sublist j l));omega
    have hS0:SInv D mx [] ⟨none,first,[],[],mx,0⟩:=⟨rfl,rfl,rfl,by simp,by simpa using hft,by simp,by simp,by simp⟩;rw[hW0] at hR;obtain ⟨Z,hZ⟩:∃ Z,Z=wscan D fr l ⟨none,first,[],[],mx,0⟩ []:=⟨_,rfl⟩;rw[<-hZ] at hR
    have hW1:WalM K25 wb db ⟨none,first,[],[],mx,0⟩ [pt wb (wlA db ob first (.slice aL 0 cL) (.slice aO 0 cO) mx 0) 146,oH,rH,gL,gO]:=
     ⟨ob,aL,cL,aO,cO,oH,rH,gL,gO,rfl,hop,hL,hO⟩
    refine sk<|th (sq<|rg (fin hT 1 I<|th (sq<|sq (rg<|fin hT 3 I (th<|bk ?_)))))
    refine loop (σ:=(Nat×Wl×List Nat)×(List PH×(Option Addr×Nat×PH))×PH) (fun s=>[(0,.pointer (some ⟨db,0,none⟩)),(1,.int .u64 (fr:Nat)),(8,.pointer (some ⟨b8,0,none⟩)),(9,.slice an l.length kn),(10,.slice s.2.1.2.1 s.1.2.2.length s.2.1.2.2.1),(40,.slice an l.length kn),(41,.int .i64 l.length),(42,.int .i64 s.1.1)]) (fun s=>s.2.2)
     (fun s=>s.2.1.1++(pt b8 #[.pointer (some ⟨wb,0,none⟩)] 88::dh::s.2.1.2.2.2::hs))
     (fun s=>s.1.1<=l.length/\wscan D fr (l.drop s.1.1) s.1.2.1 s.1.2.2=Z/\SInv D mx (l.take s.1.1) s.1.2.1/\s.1.2.2.length<=s.1.1/\Le K25 s.2.2/\WalM s.2.2 wb db s.1.2.1 s.2.1.1/\Own s.2.1.2.2.2 s.2.1.2.1 s.1.2.2.length s.2.1.2.2.1 23 1 (uvv s.1.2.2)) (fun s=>l.length-s.1.1)
     ((0,⟨none,first,[],[],mx,0⟩,[]),([_,_,_,_,_],(none,0,em)),K25) ⟨Nat.zero_le _,hZ.symm,hS0,Nat.le_refl _,Le.refl _,hW1,Own.nil _ _⟩ ⟨rfl,rfl,rfl,rfl,rfl,rfl,rfl,rfl,trivial⟩ rfl rfl ?_
    clear hS0 hW0 hW1 hop hL hO;clear oH rH gL gO;rintro ⟨⟨j,W,g⟩,⟨m,⟨ag,cg,gh⟩⟩,K1⟩ ⟨hj,hw,hS,hgl,le1,hW,og⟩;dsimp only at *;obtain ⟨ob,aL,cL,aO,cO,oH,rH,gL,gO,rfl,hop,hL,hO⟩:=id hW;have hsj:=hsum j;have hr:=hS.recs;have ho:=hS.old;have hla:=hS.last;rw[List.length_take] at ho;refine sq (rg (cmpS hT 0 I fun b43 h43=>fin hT 0 I (th (sq (ifP h43 I (fun e7=>?_) (fun e7=>?_))))))
    ·have hjl:j<l.length:=by omega
     obtain ⟨n,ha⟩:∃ a,l[j]?=some a:=⟨l[j],List.getElem?_eq_getElem hjl⟩;have hnb:=hlm n (List.mem_of_getElem? ha);have htk:l.take (j+1)=l.take j++[n]:=by rw[List.take_add_one,ha];rfl
     rw[List.drop_eq_getElem_cons hjl,show l[j]=n from by rw[List.getElem?_eq_getElem hjl] at ha;exact Option.some.inj ha,wscan_step] at hw;obtain ⟨V,hV⟩:∃ V,V=wstep D fr n W:=⟨_,rfl⟩;have hVb:=wstep_bd (D:=D) (fr:=fr) (n:=n) (W:=W) qo;have hVs:=SInv.step oD.ok hS (fr:=fr) (n:=n);rw[<-hV] at hw hVb hVs;refine sk (th (sq (bk (sq (rg (ix1 hT 0 j I I I (xN.le le1) (uvv_get ha) fun a44 hc44=>ld hT 0 I (.inl I) hc44 (al hT 0 (.int .u64 0) I qk fun b12=>stp hT 0 0 I I I I (WL.hs (pt b12 #[.int .u64 (n:Nat)] 23::_) I (fin hT 0 I (th (sq (rga [pt b12 #[.int .u64 (n:Nat)] 23] 5 [0,2,4,6,8] (by simp) qk qk (dldp hT qk 0 0 I I I (dcbS hT qk 1 (n<fr) I (by simp) fun b48 h48=>dend hT qk 2 I (th (WC.perm (hs':=[_,_,_,_,_]++(pt b12 #[.int .u64 (n:Nat)] 23::pt b8 #[.pointer (some ⟨wb,0,none⟩)] 88::dh::gh::hs)) (List.perm_middle (l₁:=[_,_,_,_,_])).symm ?_))))))))))))))))
     refine jnK (σ:=List PH×PH) (fun _=>[(0,.pointer (some ⟨db,0,none⟩)),(1,.int .u64 (fr:Nat)),(8,.pointer (some ⟨b8,0,none⟩)),(9,.slice an l.length kn),(10,.slice ag g.length cg),(12,.pointer (some ⟨b12,0,none⟩)),(13,.bool V.2.1),(14,.bool V.2.2),(40,.slice an l.length kn),(41,.int .i64 l.length),(42,.int .i64 (j:Nat))]) (fun s=>s.2)
      (fun s=>s.1++(pt b12 #[.int .u64 (n:Nat)] 23::pt b8 #[.pointer (some ⟨wb,0,none⟩)] 88::dh::gh::hs)) (fun s=>Le K1 s.2/\WalM s.2 wb db V.1 s.1) ?_ ?_
     ·refine sq<|rg (cbS hT 1 _ I (bnot h48) fun b50 h50=>fin hT 0 I<|th (ifP h50 I (fun e8=>?_) (fun e8=>?_)))
      ·have hVr:V=wread D n W:=by rw[hV];unfold wstep;rw[if_neg e8]
       refine rg (ldp hT 1 5 I I I (cl hT 2 I (readWC wb db b8 b12 W hW hla qo qo D c oD.ok qo (hd.le (le.trans le1)) n hnb) ?_));rintro v56 K56 hs56 ⟨le2,m5,rfl,hW5,rfl⟩;rw[<-hVr] at hW5 ⊢;exact fin hT 5 I (jxK (m5,K56) ⟨le2,hW5⟩ ⟨I,I,I,I,I,I,I,I,I,I,I,trivial⟩ I I)
      ·have e8:n<fr:=Decidable.not_not.1 e8;have hVr:V=(W,true,true):=by rw[hV];unfold wstep;rw[if_pos e8]
       obtain rfl:b48=true:=h48.2 e8;rw[hVr];exact sk (jxK ([_,_,_,_,_],K1) ⟨Le.refl _,hW⟩ ⟨I,I,I,I,I,I,I,I,I,I,I,trivial⟩ I I)
     ·clear hW hop hL hO;clear oH rH gL gO;rintro ⟨m,K2⟩ ⟨le2,hW⟩;dsimp only at *;obtain ⟨ob,aL,cL,aO,cO,oH,rH,gL,gO,rfl,hop,hL,hO⟩:=id hW;obtain ⟨g',hg'⟩:∃ g',g'=if V.2.2=true then g++[n] else g:=⟨_,rfl⟩;rw[<-hg'] at hw;have hgl':g'.length<=j+1:=by rw[hg'];split <;> (try simp) <;> omega
      refine jn (σ:=Option Addr×Nat×PH) (fun s=>[(0,.pointer (some ⟨db,0,none⟩)),(1,.int .u64 (fr:Nat)),(8,.pointer (some ⟨b8,0,none⟩)),(9,.slice an l.length kn),(10,.slice s.1 g'.length s.2.1),(13,.bool V.2.1),(40,.slice an l.length kn),(41,.int .i64 l.length),(42,.int .i64 (j:Nat))])
       (fun s=>pt wb (wlA db ob V.1.first (.slice aL V.1.recs.length cL) (.slice aO V.1.old.length cO) V.1.next V.1.code) 146::oH::rH::gL::gO::pt b12 #[.int .u64 (n:Nat)] 23::pt b8 #[.pointer (some ⟨wb,0,none⟩)] 88::dh::s.2.2::hs)
       (fun s=>Own s.2.2 s.1 g'.length s.2.1 23 1 (uvv g')) ?_ ?_
      ·refine sq (rg ?_);cases hv:V.2.2 with
       | true=>
        rw[if_pos hv] at hg';refine fin hT 1 I (th (ifT I (rg (ldp hT 1 5 I I I (lit hT 0 #[.int .u64 (n:Nat)] I (by decide) qk fun b62=>app hT 0 9 I I og (.inr ⟨0,I⟩) (Own.ofPt (n:=1) (size:=1) I (by decide)).isS I (by decide) (by simp[Value.oneCell']) (by show (g.length+1)*8<=_;omega) (by simp only[maxLen];omega) fun ao63 c63 g63 o63=>fin hT 1 rfl (WQ.drop ?_))))));refine jx (ao63,c63,g63) (own_of o63 (by rw[hg'];simp) (by rw[hg',uvv_app];rfl)) ⟨rfl,rfl,rfl,rfl,by dsimp only;rw[hg',List.length_append];rfl,rfl,rfl,rfl,rfl,trivial⟩ rfl rfl
       | false=>
        rw[if_neg (by rw[hv];simp)] at hg';refine fin hT 1 I (th (ifF I (sk ?_)));refine jx (ag,cg,gh) (by dsimp only;rw[hg'];exact og) ⟨I,I,I,I,by dsimp only;rw[hg'];rfl,rfl,rfl,rfl,rfl,trivial⟩ rfl rfl
      ·rintro ⟨ag,cg,gh⟩ og;dsimp only at *;cases hv:V.2.1 with
       | false=>
        rw[if_pos (.inl hv)] at hw;rw[<-hw] at hR;dsimp only at hR;rw[if_pos rfl] at hR;refine sq (rga [pt b8 #[.pointer (some ⟨wb,0,none⟩)] 88,pt wb (wlA db ob V.1.first (.slice aL V.1.recs.length cL) (.slice aO V.1.old.length cO) V.1.next V.1.code) 146] 16 [0,2,4,6,8,10,12,14,16,18,20,22,24,26,28,30] (by simp) qk qk (dend hT qk 16 I (th (ifT I (sq (rg (fin hT 2 I (th (rt (rB (rT (rT (rB (rT (WQ.del 0 I (WQ.del 0 I (WQ.del 0 I (WQ.del 0 I (WQ.del 0 I (WQ.del 0 I (WQ.del 0 I (WQ.del 1 I ?_))))))))))))))))))))));rw[hR];exact ret2 I I I ⟨le.trans (le1.trans le2),[],dh,I,hd.le (le.trans (le1.trans le2)),I,I⟩
       | true=>
        refine sq (rga [pt b8 #[.pointer (some ⟨wb,0,none⟩)] 88,pt wb (wlA db ob V.1.first (.slice aL V.1.recs.length cL) (.slice aO V.1.old.length cO) V.1.next V.1.code) 146] 16 [0,2,4,6,8,10,12,14,16,18,20,22,24,26,28,30] (by simp) qk qk (dldp hT qk 3 0 I I I (dldp hT qk 2 1 I I I (dldp hT qk 0 0 I I I (dldp hT qk 2 1 I I I (dar hT qk 1 I (u64w (x:=((V.1.recs.length:Nat):Int)) qo) (dar hT qk 0 I (u64w (x:=((V.1.first+V.1.recs.length:Nat):Int)) (by unfold wTop at *;omega)) (dcbS hT qk 0 (wTop<V.1.first+V.1.recs.length) rfl (by unfold wTop;simp;omega) fun b78 h78=>dend hT qk 1 rfl (th (ifP h78 rfl (fun e10=>?_) (fun e10=>?_)))))))))))
        ·rw[if_pos (.inr e10)] at hw;rw[<-hw] at hR;dsimp only at hR;rw[if_pos rfl] at hR;refine sq (rg (fin hT 2 I (th (rt (rB (rT (rT (rB (rT (WQ.del 0 I (WQ.del 0 I (WQ.del 0 I (WQ.del 0 I (WQ.del 0 I (WQ.del 0 I (WQ.del 0 I (WQ.del 1 I ?_)))))))))))))))));rw[hR];exact ret2 I I I ⟨le.trans (le1.trans le2),[],dh,I,hd.le (le.trans (le1.trans le2)),I,I⟩
        ·rw[if_neg (by rw[hv];simp;omega)] at hw;exact sk (bl (th (rg (WL.del 5 I (ar hT 0 I (i64w (x:=((j+1:Nat):Int)) qo) (fin hT 1 I (again (x:=((j,W,g),([],(ag,cg,gh)),K1)) ((j+1,V.1,g'),([_,_,_,_,_],(ag,cg,gh)),K2) ⟨I,I,I,I,I,I,I,I,trivial⟩ I I ⟨by dsimp only;omega,hw,by dsimp only;rw[htk];exact hVs qo,hgl',le1.trans le2,hW,og⟩ (by dsimp only;omega))))))))
    ·obtain rfl:j=l.length:=by omega
     rw[List.drop_length] at hw;have hw:(W,g,true)=Z:=hw;rw[<-hw] at hR;dsimp only at hR;rw[if_neg (by simp)] at hR;refine ex (xt (xt (xb (th (sq (rg (ldp hT 0 5 I I I (WL.perm (hs':=gh::([_,_,_,_,_,_,_]++hs)) (List.perm_middle (l₁:=[_,_,_,_,_,_,_])) (WL.frz fun K3 l1 l2=>?_)))))))));have hW3:WalM K3 wb db W [pt wb (wlA db ob W.first (.slice aL W.recs.length cL) (.slice aO W.old.length cO) W.next W.code) 146,oH,rH,gL,gO]:=hW.le l1;refine cl hT 2 I (settleC wb db W hW3 D c oD qo (hd.le (le.trans (le1.trans l1))) l g an kn (xN.le (le1.trans l1)) ag cg (og.isS.le l2) qo qo hlm) ?_;rintro v84 K84 hs84 ⟨rfl,dh,rfl,hE,rfl⟩;obtain ⟨Y,hY⟩:∃ Y,Y=wsettle g l D:=⟨_,rfl⟩;rw[<-hY] at hE hR ⊢;refine fin hT 1 I (th (sq (sq (rg (cmpS hT 1 I fun b86 h86=>fin hT 0 I (th (ifP h86 I (fun e16=>?_) (fun e16=>?_))))))))
     ·rw[if_pos e16] at hR;refine sq (rg (fin hT 3 I (th (rt (rT (WQ.del 0 I (WQ.del 0 I (WQ.del 0 I (WQ.del 0 I (WQ.del 0 I (WQ.del 0 I ?_)))))))))));rw[hR];exact ret2 I I I ⟨le.trans (le1.trans l1),[],dh,I,hE,I,I⟩
     ·rw[if_neg e16] at hR;refine sk (th (sq (rg (ldp hT 0 5 I I I (fin hT 2 I (th (rt (WQ.del 5 I ?_))))))));rw[hR];exact ret2 I I I ⟨le.trans (le1.trans l1),[_,_,_,_,_],dh,I,hE,wb,hW3,I⟩
end
section
def lgTop:Nat:=1152921504606846976
structure Snp where
 idx:Nat
 term:Nat
 vot:List Int
 data:List UInt8
def trm(s:Snp)(l:List Ent)(i:Nat):Nat×Bool:=
 if i=s.idx then (s.term,true) else if i<s.idx\/s.idx+l.length<i then (0,false) else (((l[i-s.idx-1]?).getD Ent.zero).term,true)
def lgAt(s:Snp)(l:List Ent)(i:Nat):Option Nat:=if i<=s.idx\/s.idx+l.length<i then none else some (i-s.idx-1)
def folR:Nat->Nat->List Ent->Int
 | _,_,[]=>0
 | i,t,e::r=>if e.idx≠i+1\/e.term<t then 180 else folR e.idx e.term r
def fol(i t:Nat)(x:List Ent):Int:=if (x.all fun e=>(putEnt e).isSome)=true then folR i t x else 181
def bckL(s:Snp)(l:List Ent)(t:Nat):Nat->Nat
 | 0=>0
 | i+1=>if s.idx<i+1 then (if (trm s l i).1≠t then i else bckL s l t i) else i+1
def bck(s:Snp)(l:List Ent)(i:Nat):Nat:=if s.idx+l.length<i then s.idx+l.length else bckL s l (trm s l i).1 i
def skp(s:Snp)(l:List Ent):List Ent->Bool->List Ent×Bool
 | [],b=>([],b)
 | e::r,_=>if (trm s l e.idx).2=false\/(trm s l e.idx).1≠e.term then (e::r,(trm s l e.idx).2) else skp s l r true
def partsL(s:Snp)(l:List Ent)(frm:Nat)(most:Int):List Ent:=
 match lgAt s l frm with
 | none=>[]
 | some k=>(l.drop k).take most.toNat
def lgHas(s:Snp)(l:List Ent)(t:Snp):Bool:=(trm s l t.idx).2 && decide ((trm s l t.idx).1=t.term)
structure Lg where
 w:Wl
 hard:Slt
 head:Slt
 kt:Nat
 kv:Int
 sn:Snp
 place:Nat
 fr:Nat
 l:List Ent
 code:Int
def Lg.last(L:Lg):Nat:=L.sn.idx+L.l.length
def didV(code e:Int):Int:=if code=0 then e else code
def Lg.setHard(L:Lg)(D:Dk)(t:Nat)(v:Int):Lg×Dk×Int:=
 if L.code≠0 then (L,D,L.code)
 else if v < -1\/7<=v then (L,D,181)
 else if t<L.kt then (L,D,180)
 else if (L.hard.save 0 D (uint t++uint (v+1).toNat)).2.2=0 then ({ L with hard:=(L.hard.save 0 D (uint t++uint (v+1).toNat)).1,kt:=t,kv:=v },(L.hard.save 0 D (uint t++uint (v+1).toNat)).2.1,0)
 else ({ L with hard:=(L.hard.save 0 D (uint t++uint (v+1).toNat)).1,code:=(L.hard.save 0 D (uint t++uint (v+1).toNat)).2.2 },(L.hard.save 0 D (uint t++uint (v+1).toNat)).2.1,(L.hard.save 0 D (uint t++uint (v+1).toNat)).2.2)
def Lg.app1:List Ent->Lg->Dk->Lg×Dk×Int
 | [],L,D=>(L,D,0)
 | e::r,L,D=>
  if (L.w.append e.bytes D).2.2≠0 then ({ L with w:=(L.w.append e.bytes D).1,code:=(L.w.append e.bytes D).2.2 },(L.w.append e.bytes D).2.1,(L.w.append e.bytes D).2.2)
  else app1 r { L with w:=(L.w.append e.bytes D).1,l:=L.l++[e] } (L.w.append e.bytes D).2.1
def Lg.append(L:Lg)(x:List Ent)(D:Dk):Lg×Dk×Int:=
 if L.code≠0 then (L,D,L.code)
 else if fol L.last (trm L.sn L.l L.last).1 x≠0 then (L,D,fol L.last (trm L.sn L.l L.last).1 x)
 else L.app1 x D
def Lg.sync(L:Lg)(D:Dk):Lg×Dk×Int:=
 if L.code≠0 then (L,D,L.code) else ({ L with w:=(L.w.sync D).1,code:=(L.w.sync D).1.code },(L.w.sync D).2,(L.w.sync D).1.code)
def Lg.merge3(L:Lg)(x:List Ent)(last:Nat)(D:Dk):Lg×Dk×Nat×Bool×Int:=
 if (L.append x D).2.2≠0 then ((L.append x D).1,(L.append x D).2.1,0,false,(L.append x D).2.2) else ((L.append x D).1,(L.append x D).2.1,last,true,0)
def Lg.cutAt(L:Lg)(i:Nat)(W:Wl):Lg:={ L with w:=W,l:=L.l.take ((lgAt L.sn L.l i).getD 0) }
def Lg.merge2(L:Lg)(x:List Ent)(last:Nat)(D:Dk):Lg×Dk×Nat×Bool×Int:=
 match (skp L.sn L.l x true).1 with
 | []=>L.merge3 [] last D
 | e::r=>
  if (skp L.sn L.l x true).2=true then
   (if (L.w.truncate e.idx D).2.2≠0 then ({ L with w:=(L.w.truncate e.idx D).1,code:=(L.w.truncate e.idx D).2.2 },(L.w.truncate e.idx D).2.1,0,false,(L.w.truncate e.idx D).2.2)
    else (L.cutAt e.idx (L.w.truncate e.idx D).1).merge3 (e::r) last (L.w.truncate e.idx D).2.1)
  else L.merge3 (e::r) last D
def Lg.merge1(L:Lg)(i t:Nat)(x:List Ent)(last:Nat)(D:Dk):Lg×Dk×Nat×Bool×Int:=
 if (trm L.sn L.l i).2=false\/(trm L.sn L.l i).1≠t then (L,D,bck L.sn L.l i,false,0) else L.merge2 x last D
def Lg.merge(L:Lg)(i t:Nat)(x:List Ent)(D:Dk):Lg×Dk×Nat×Bool×Int:=
 if L.code≠0 then (L,D,0,false,L.code)
 else if fol i t x≠0 then (L,D,0,false,fol i t x)
 else if i<L.sn.idx then
  (if i+x.length<L.sn.idx then (L,D,i+x.length,true,0)
   else if ((x.drop (L.sn.idx-i)).head?.map fun e=>decide (e.term<L.sn.term))=some true then (L,D,0,false,180)
   else L.merge1 L.sn.idx L.sn.term (x.drop (L.sn.idx-i)) (i+x.length) D)
 else L.merge1 i t x (i+x.length) D
def Lg.fits(L:Lg)(s:Snp):Int:=
 if L.code≠0 then L.code
 else if (putConf s.vot).isSome=false\/2097152<s.data.length then 181
 else if s.idx<=L.sn.idx\/lgTop<=s.idx then 180
 else 0
def lgA4(place:Nat):Nat:=4*place+2
def lgW(place:Nat):Nat->Nat->List UInt8->Dk->Dk×Int
 | 0,_,_,D=>(D,0)
 | f+1,n,b,D=>
  if b=[] then (D,0)
  else if (D.write (lgA4 place) n (b.take 64)).2≠0 then D.write (lgA4 place) n (b.take 64)
  else lgW place f (n+1) (b.drop 64) (D.write (lgA4 place) n (b.take 64)).1
def Lg.say(s:Snp)(place fr:Nat):List UInt8:=uint s.idx++(uint s.term++(uint place++(uint s.data.length++(uint fr++ob (putConf s.vot)))))
def Lg.laid(L:Lg)(s:Snp)(fr:Nat)(H:Slt):Lg:=
 { L with head:=H,l:=if lgHas L.sn L.l s=true then L.l.drop ((lgAt L.sn L.l s.idx).getD 0+1) else [],place:=L.place+1,fr:=fr,sn:=s }
def Lg.lay3(L:Lg)(s:Snp)(fr:Nat)(H:Slt)(D:Dk):Lg×Dk×Int:=
 ({ L.laid s fr H with code:=(D.free (lgA4 L.place)).2 },(D.free (lgA4 L.place)).1,(D.free (lgA4 L.place)).2)
def Lg.lay2(L:Lg)(s:Snp)(fr:Nat)(D:Dk):Lg×Dk×Int:=
 if (L.head.save 4 D (Lg.say s (L.place+1) fr)).2.2≠0 then ({ L with head:=(L.head.save 4 D (Lg.say s (L.place+1) fr)).1,code:=(L.head.save 4 D (Lg.say s (L.place+1) fr)).2.2 },(L.head.save 4 D (Lg.say s (L.place+1) fr)).2.1,(L.head.save 4 D (Lg.say s (L.place+1) fr)).2.2)
 else L.lay3 s fr (L.head.save 4 D (Lg.say s (L.place+1) fr)).1 (L.head.save 4 D (Lg.say s (L.place+1) fr)).2.1
def Lg.lay1(L:Lg)(s:Snp)(fr:Nat)(D:Dk):Lg×Dk×Int:=
 if (D.sync (lgA4 (L.place+1))).2≠0 then ({ L with code:=(D.sync (lgA4 (L.place+1))).2 },(D.sync (lgA4 (L.place+1))).1,(D.sync (lgA4 (L.place+1))).2)
 else L.lay2 s fr (D.sync (lgA4 (L.place+1))).1
def Lg.lay(L:Lg)(s:Snp)(fr:Nat)(D:Dk):Lg×Dk×Int:=
 if (lgW (L.place+1) (s.data.length+1) 0 s.data D).2≠0 then ({ L with code:=(lgW (L.place+1) (s.data.length+1) 0 s.data D).2 },(lgW (L.place+1) (s.data.length+1) 0 s.data D).1,(lgW (L.place+1) (s.data.length+1) 0 s.data D).2)
 else L.lay1 s fr (lgW (L.place+1) (s.data.length+1) 0 s.data D).1
def Lg.save2(L:Lg)(s:Snp)(D:Dk):Lg×Dk×Int:=
 if (L.lay s L.fr D).2.2≠0 then L.lay s L.fr D
 else ({ (L.lay s L.fr D).1 with w:=((L.lay s L.fr D).1.w.compact (s.idx+1) (L.lay s L.fr D).2.1).1,code:=((L.lay s L.fr D).1.w.compact (s.idx+1) (L.lay s L.fr D).2.1).2.2 },((L.lay s L.fr D).1.w.compact (s.idx+1) (L.lay s L.fr D).2.1).2.1,((L.lay s L.fr D).1.w.compact (s.idx+1) (L.lay s L.fr D).2.1).2.2)
def Lg.save1(L:Lg)(s:Snp)(D:Dk):Lg×Dk×Int:=if (L.sync D).2.2≠0 then L.sync D else (L.sync D).1.save2 s (L.sync D).2.1
def Lg.save(L:Lg)(s:Snp)(D:Dk):Lg×Dk×Int:=
 if L.fits s≠0 then (L,D,L.fits s) else if lgHas L.sn L.l s=false then (L,D,180) else L.save1 s D
def Lg.inst1(L:Lg)(s:Snp)(D:Dk):Lg×Dk×Int:=
 if (L.lay s L.w.next D).2.2≠0 then L.lay s L.w.next D
 else ({ (L.lay s L.w.next D).1 with w:=((L.lay s L.w.next D).1.w.reset (s.idx+1) (L.lay s L.w.next D).2.1).1,code:=((L.lay s L.w.next D).1.w.reset (s.idx+1) (L.lay s L.w.next D).2.1).2.2 },((L.lay s L.w.next D).1.w.reset (s.idx+1) (L.lay s L.w.next D).2.1).2.1,((L.lay s L.w.next D).1.w.reset (s.idx+1) (L.lay s L.w.next D).2.1).2.2)
def Lg.install(L:Lg)(s:Snp)(D:Dk):Lg×Dk×Int:=
 if L.fits s≠0 then (L,D,L.fits s) else if lgHas L.sn L.l s=true then L.save s D else L.inst1 s D
end
section
theorem Ct.at2{P:Program}{w0:World}{f:FuncId}{args:List Value}{K:PH}{hs:List PH}{a b:PH}{S:Value->PH->PH->PH->Prop}(i j:Nat)(hi:hs[i]?=some a)(hj:(hs.eraseIdx i)[j]?=some b)
  (c:Ct P w0 f args K (a::b::(hs.eraseIdx i).eraseIdx j) (fun v K' hs'=>∃ a' b',hs'=a'::b'::(hs.eraseIdx i).eraseIdx j/\S v K' a' b')):
  Ct P w0 f args K hs (fun v K' hs'=>∃ a' b',hs'=((hs.eraseIdx i).set j b').insertIdx i a'/\S v K' a' b'):=by
 have p1:=perm_front hs i a hi;have p2:=perm_front (hs.eraseIdx i) j b hj;refine ⟨c.1,fun w hw=>(c.2 w (hw.perm (p1.trans (p2.cons a)))).mono ?_⟩;rintro e w' ⟨v,K',hs',rfl,⟨a',b',rfl,hS⟩,hw'⟩;refine ⟨v,K',_,I,⟨a',b',I,hS⟩,hw'.perm (((perm_set (hs.eraseIdx i) j b b' hj).cons a').trans (List.perm_insertIdx _ _ ?_).symm)⟩;rw[List.length_set,List.length_eraseIdx];have:=(List.getElem?_eq_some_iff.1 hi).1
 split <;> omega
theorem cells_sub{b off:Nat}{c:Array Value}{ty:Nat}{fr:Nat×Nat}(cs:List Value)(h:(c.toList.drop off).take cs.length=cs):∀ (j:Nat) v,cs[j]?=some v->Cell (pt b c ty fr) ((⟨b,off,none⟩:Addr).add j) v:=by
 refine cells_pt cs fun j v hv=>?_;have hj:=(List.getElem?_eq_some_iff.1 hv).1;rw[<-h,List.getElem?_take_of_lt hj,List.getElem?_drop] at hv;simpa using hv
structure LBd (c:Nat) (L:Lg):Prop where
 w:WBd c L.w
 hard:L.hard.bd
 head:L.head.bd
 kt:L.kt<=mxU
 kv : -1<=L.kv/\L.kv<=6
 idx:L.sn.idx<=lgTop
 st:L.sn.term<=mxU
 vot:L.sn.vot.length<=7
 data:L.sn.data.length<=2097152
 place:L.place<=lgTop+c
 fr:L.fr<=wMany+c
 len:L.l.length<=70000000000+c
 ents:∀ e∈L.l,e.ok/\e.idx<=mxU/\e.term<=mxU
theorem LBd.up{c d:Nat}{L:Lg}(o:LBd c L)(h:c<=d):LBd d L:=
 ⟨o.w.up h,o.hard,o.head,o.kt,o.kv,o.idx,o.st,o.vot,o.data,by have:=o.place;omega,by have:=o.fr;omega,by have:=o.len;omega,o.ents⟩
def lgA(wb db hb eb:Nat)(L:Lg)(vS dS lS:Value):Array Value:=
 #[.pointer (some ⟨wb,0,none⟩),.pointer (some ⟨db,0,none⟩),.pointer (some ⟨hb,0,none⟩),.pointer (some ⟨eb,0,none⟩),.int .u64 L.kt,.int .i64 L.kv,
  .int .u64 L.sn.idx,.int .u64 L.sn.term,vS,dS,.int .u64 L.place,.int .u64 L.fr,lS,.int .i64 L.code]
attribute [local irreducible] Code.wp wpList Calls
def WalH(K:PH)(wb db:Nat)(W:Wl)(h:PH):Prop:=∃ m,h=uns m/\Djs m/\WalM K wb db W m
theorem WalH.le{K K':PH}(l:Le K K'){wb db:Nat}{W:Wl}{h:PH}(x:WalH K wb db W h):WalH K' wb db W h:=let ⟨m,h1,h2,h3⟩:=x;⟨m,h1,h2,h3.le l⟩
theorem firstWH{w0:World}{K h:PH}{hs:List PH}(wb db:Nat)(W:Wl)(hW:WalH K wb db W h):Ct Tryz.prog w0 109 [.pointer (some ⟨wb,0,none⟩)] K (h::hs)
  (fun v K' hs'=>K'=K/\hs'=h::hs/\v=.int .u64 W.first):=by
 obtain ⟨m,rfl,d,hm⟩:=hW;refine Ct.bun2 d (firstWC wb db W hm) ?_;rintro v K' hs' ⟨rfl,rfl,rfl⟩;exact ⟨m,hs,I,fun _=>⟨I,I,I⟩⟩
theorem nextWH{w0:World}{K h:PH}{hs:List PH}(wb db:Nat)(W:Wl)(hW:WalH K wb db W h):Ct Tryz.prog w0 84 [.pointer (some ⟨wb,0,none⟩)] K (h::hs)
  (fun v K' hs'=>K'=K/\hs'=h::hs/\v=.int .u64 W.next):=by
 obtain ⟨m,rfl,d,hm⟩:=hW;refine Ct.bun2 d (nextWC wb db W hm) ?_;rintro v K' hs' ⟨rfl,rfl,rfl⟩;exact ⟨m,hs,I,fun _=>⟨I,I,I⟩⟩
theorem lastWH{w0:World}{K h:PH}{hs:List PH}(wb db:Nat)(W:Wl)(hW:WalH K wb db W h)(hb:W.first+W.recs.length<=wTop):Ct Tryz.prog w0 110 [.pointer (some ⟨wb,0,none⟩)] K (h::hs)
  (fun v K' hs'=>K'=K/\hs'=h::hs/\v=.int .u64 (lastV (W.first+W.recs.length))):=by
 obtain ⟨m,rfl,d,hm⟩:=hW;refine Ct.bun2 d (lastWC wb db W hm hb) ?_;rintro v K' hs' ⟨rfl,rfl,rfl⟩;exact ⟨m,hs,I,fun _=>⟨I,I,I⟩⟩
theorem getWH{w0:World}{K h:PH}{hs:List PH}(wb db:Nat)(W:Wl)(c:Nat)(hc:c<=1000000000)(hb:WBd c W)(hW:WalH K wb db W h)(i:Nat)(hi:i<18446744073709551616):Ct Tryz.prog w0 111 [.pointer (some ⟨wb,0,none⟩),.int .u64 (i:Nat)] K (h::hs)
  (fun v K' hs'=>∃ h',hs'=h'::hs/\h'=h/\Le K K'/\((¬(W.first<=i/\i-W.first<W.recs.length)/\v=.tuple #[.slice none 0 0,.bool false]) \/
   ∃ r ao k,W.first<=i/\W.recs[i-W.first]?=some r/\v=.tuple #[.slice ao r.length k,.bool true]/\IsS K' ao r.length k 1 (bv r))):=by
 obtain ⟨m,rfl,d,hm⟩:=hW;refine Ct.bun2 d (getWC wb db W c hc hb hm i hi hb.recl) ?_;rintro v K' hs' ⟨le,rfl,hv⟩;exact ⟨m,hs,I,fun _=>⟨_,I,I,le,hv⟩⟩
theorem syncWH{w0:World}{K h dh:PH}{hs:List PH}(wb db:Nat)(W:Wl)(hW:WalH K wb db W h)(D:Dk)(c:Nat)(oD:D.Ok c)(hc:c<=1000000000)(hb:WBd c W)(hd:DskH K db D dh):
  Ct Tryz.prog w0 77 [.pointer (some ⟨wb,0,none⟩)] K (h::dh::hs)
   (fun v K' hs'=>∃ h' dh',hs'=h'::dh'::hs/\K'=K/\WalH K wb db (W.sync D).1 h'/\DskH K db (W.sync D).2 dh'/\v=.int .i64 (W.sync D).1.code):=by
 obtain ⟨m,rfl,d,hm⟩:=hW;refine Ct.bun2 d (syncWC wb db W hm D c oD hc hb hd) ?_;rintro v K' hs' ⟨rfl,m',dh',rfl,hW',hd',rfl⟩;exact ⟨m',_,I,fun d'=>⟨_,dh',I,I,⟨m',I,d',hW'⟩,hd',I⟩⟩
theorem appendWH{w0:World}{K h dh hv:PH}{hs:List PH}(wb db:Nat)(W:Wl)(hW:WalH K wb db W h)(D:Dk)(c:Nat)(oD:DOk c D)(hc:c<=999999000)(hb:WBd c W)(hd:DskH K db D dh)(ab:Option Addr)(cb:Nat)(b:List UInt8)(hbl:b.length<1099511627776)(hin:In K hs hv)(x:IsS hv ab b.length cb 1 (bv b)):
  Ct Tryz.prog w0 74 [.pointer (some ⟨wb,0,none⟩),.slice ab b.length cb] K (h::dh::hs)
   (fun v K' hs'=>∃ h' dh',hs'=h'::dh'::hs/\Le K K'/\WalH K' wb db (W.append b D).1 h'/\DskH K' db (W.append b D).2.1 dh'/\v=.int .i64 (W.append b D).2.2):=by
 obtain ⟨m,rfl,d,hm⟩:=hW;refine Ct.bun2 d (appendWC wb db W hm D c oD hc hb hd ab cb b hbl hin x) ?_;rintro v K' hs' ⟨le,m',dh',rfl,hW',hd',rfl⟩;exact ⟨m',_,I,fun d'=>⟨_,dh',I,le,⟨m',I,d',hW'⟩,hd',I⟩⟩
theorem truncWH{w0:World}{K h dh:PH}{hs:List PH}(wb db:Nat)(W:Wl)(hW:WalH K wb db W h)(D:Dk)(c:Nat)(oD:DOk c D)(hc:c<=999999000)(hb:WBd c W)(hd:DskH K db D dh)(i:Nat)(hi:i<18446744073709551616):
  Ct Tryz.prog w0 40 [.pointer (some ⟨wb,0,none⟩),.int .u64 (i:Nat)] K (h::dh::hs)
   (fun v K' hs'=>∃ h' dh',hs'=h'::dh'::hs/\Le K K'/\WalH K' wb db (W.truncate i D).1 h'/\DskH K' db (W.truncate i D).2.1 dh'/\v=.int .i64 (W.truncate i D).2.2):=by
 obtain ⟨m,rfl,d,hm⟩:=hW;refine Ct.bun2 d (truncWC wb db W hm D c oD hc hb hd i hi) ?_;rintro v K' hs' ⟨le,m',dh',rfl,hW',hd',rfl⟩;exact ⟨m',_,I,fun d'=>⟨_,dh',I,le,⟨m',I,d',hW'⟩,hd',I⟩⟩
theorem compactWH{w0:World}{K h dh:PH}{hs:List PH}(wb db:Nat)(W:Wl)(hW:WalH K wb db W h)(D:Dk)(c:Nat)(oD:DOk c D)(hc:c<=499999000)(hb:WBd c W)(hol:W.old.length<=c)(hd:DskH K db D dh)(i:Nat)(hi:i<18446744073709551616):
  Ct Tryz.prog w0 83 [.pointer (some ⟨wb,0,none⟩),.int .u64 (i:Nat)] K (h::dh::hs)
   (fun v K' hs'=>∃ h' dh',hs'=h'::dh'::hs/\Le K K'/\WalH K' wb db (W.compact i D).1 h'/\DskH K' db (W.compact i D).2.1 dh'/\v=.int .i64 (W.compact i D).2.2):=by
 obtain ⟨m,rfl,d,hm⟩:=hW;refine Ct.bun2 d (compactWC wb db W hm D c oD hc hb hol hd i hi) ?_;rintro v K' hs' ⟨le,m',dh',rfl,hW',hd',rfl⟩;exact ⟨m',_,I,fun d'=>⟨_,dh',I,le,⟨m',I,d',hW'⟩,hd',I⟩⟩
theorem resetWH{w0:World}{K h dh:PH}{hs:List PH}(wb db:Nat)(W:Wl)(hW:WalH K wb db W h)(D:Dk)(c:Nat)(oD:DOk c D)(hc:c<=499999000)(hb:WBd c W)(hd:DskH K db D dh)(first:Nat)(hfi:first<18446744073709551616):
  Ct Tryz.prog w0 85 [.pointer (some ⟨wb,0,none⟩),.int .u64 (first:Nat)] K (h::dh::hs)
   (fun v K' hs'=>∃ h' dh',hs'=h'::dh'::hs/\Le K K'/\WalH K' wb db (W.reset first D).1 h'/\DskH K' db (W.reset first D).2.1 dh'/\v=.int .i64 (W.reset first D).2.2):=by
 obtain ⟨m,rfl,d,hm⟩:=hW;refine Ct.bun2 d (resetWC wb db W hm D c oD hc hb hd first hfi) ?_;rintro v K' hs' ⟨le,m',dh',rfl,hW',hd',rfl⟩;exact ⟨m',_,I,fun d'=>⟨_,dh',I,le,⟨m',I,d',hW'⟩,hd',I⟩⟩
def LgM(K:PH)(lb db:Nat)(L:Lg)(D:Dk)(m:List PH):Prop:=
 ∃ wb hb eb aV cV aD cD aL cL wh hh eh gl dh,m=[pt lb (lgA wb db hb eb L (.slice aV L.sn.vot.length cV) (.slice aD L.sn.data.length cD) (.slice aL L.l.length cL)) 91,wh,hh,eh,gl,dh] /\
  WalH K wb db L.w wh/\SltH K hb db 0 L.hard hh/\SltH K eb db 4 L.head eh/\SlZ 4 46 (EntC K) gl aL L.l.length cL L.l/\DskH K db D dh/\IsS K aV L.sn.vot.length cV 1 (iv L.sn.vot)/\IsS K aD L.sn.data.length cD 1 (bv L.sn.data)
theorem LgM.le{K K':PH}(l:Le K K'){lb db:Nat}{L:Lg}{D:Dk}{m:List PH}(h:LgM K lb db L D m):LgM K' lb db L D m:=by
 obtain ⟨wb,hb,eb,aV,cV,aD,cD,aL,cL,wh,hh,eh,gl,dh,h1,h2,h3,h4,h5,h6,h7,h8⟩:=h;exact ⟨wb,hb,eb,aV,cV,aD,cD,aL,cL,wh,hh,eh,gl,dh,h1,h2.le l,h3.le l,h4.le l,h5.imp fun _ _ h=>h.le l,h6.le l,h7.le l,h8.le l⟩
theorem rightC{w0:World}{K hv:PH}{hs:List PH}(ao:Option Addr)(cap:Nat)(l:List Int)(hm:In K hs hv)(x:IsS hv ao l.length cap 1 (iv l))(hl:l.length<1099511627776):
  Ct Tryz.prog w0 56 [.agg #[.slice ao l.length cap]] K hs (fun v K' hs'=>K'=K/\hs'=hs/\v=.bool (putConf l).isSome):=by
 refine enter Tryz.func56 qk I I I (sq (rg (bx hT 0 I fun b1=>fin hT 1 I (th (sq (rg (WL.hs (pt b1 #[.slice ao l.length cap] 29::hs) I (ldS hT 0 0 I I qk (cl hT 0 I (putConfC ao cap l (In.cons hm) x hl) ?_)))))))));rintro v7 K7 hs7 ⟨rfl,h7,ao7,c7,rfl,rfl,o7⟩;refine fin hT 5 I (th (sq (rg (cmpS hT 1 I fun b11 h11=>fin hT 1 I (th (rt (WQ.drop (WQ.drop ?_))))))))
 have e:b11=(putConf l).isSome:=by
  rw[Bool.eq_iff_iff,h11,ec_zero]
 exact ret1 I I ⟨I,I,by rw[e]⟩
theorem areaLC{w0:World}{K:PH}{hs:List PH}(n:Nat)(hn:n<=2305843009213693952):Ct Tryz.prog w0 61 [.int .u64 (n:Nat)] K hs (fun v K' hs'=>K'=K/\hs'=hs/\v=.int .u64 (lgA4 n:Nat)):=by
 exact enter Tryz.func61 qk I I I<|sq (rg<|fin hT 1 I (th<|sq (rg<|ar hT 1 I (u64w (x:=((4*n:Nat):Int)) qo) (ar hT 0 I (u64w (x:=((4*n+2:Nat):Int)) qo)<|fin hT 1 I (th<|rt (ret1 I I ⟨I,I,I⟩))))))
theorem didLC{w0:World}{K:PH}{hs:List PH}(lb wb db hb eb:Nat)(L:Lg)(vS dS lS:Value)(e:Int):
  Ct Tryz.prog w0 39 [.pointer (some ⟨lb,0,none⟩),.int .i64 e] K (pt lb (lgA wb db hb eb L vS dS lS) 91::hs)
   (fun v K' hs'=>∃ h',hs'=h'::hs/\K'=K/\h'=pt lb (lgA wb db hb eb { L with code:=didV L.code e } vS dS lS) 91/\v=.int .i64 (didV L.code e)):=by
 unfold didV;refine enter Tryz.func39 qk I I I (sq (rg (fin hT 1 I (th (sq (sq (rg (ldp hT 3 0 I I I (cmpS hT 0 I fun b9 h9=>fin hT 0 I (th (ifP h9 I (fun e2=>?_) (fun e2=>?_))))))))))))
 ·rw[if_pos e2];exact rg (stp hT 4 0 I I I I (fin hT 0 I (th (sq (rg (ldp hT 3 0 I I I (fin hT 1 I (th (rt (ret1 I I ⟨_,I,I,I,I⟩))))))))))
 ·rw[if_neg e2];exact sk (th (sq (rg (ldp hT 3 0 I I I (fin hT 1 I (th (rt (ret1 I I ⟨_,I,I,I,I⟩))))))))
theorem hardLC{w0:World}{K:PH}{m hs:List PH}(lb db:Nat)(L:Lg)(D:Dk)(hm:LgM K lb db L D m):
  Ct Tryz.prog w0 36 [.pointer (some ⟨lb,0,none⟩)] K (m++hs) (fun v K' hs'=>K'=K/\hs'=m++hs/\v=.agg #[.int .u64 L.kt,.int .i64 L.kv]):=by
 obtain ⟨wb,hb,eb,aV,cV,aD,cD,aL,cL,wh,hh,eh,gl,dh,rfl,hW,hH,hE,hG,hD,xV,xD⟩:=hm;refine enter Tryz.func36 qk I I I (sq (rg (al hT 0 (.agg #[.int .u64 0,.int .i64 0]) I qk fun b2=>fin hT 0 I (th (sq (rg (lds hT 3 [.int .u64 L.kt,.int .i64 L.kv] I qk (.inr ⟨1,I⟩) (fun j v hv=>?_) ?_)))))))
 ·exact cells_sub _ I j v hv
 exact stS hT 0 0 I I qk I I<|fin hT 0 I (th<|rt (retcA 0 1 I I I qk ⟨I,I,I⟩))
end
section
theorem u64s{a b:Nat}(h:b<=a)(ha:a<18446744073709551616):Value.int .u64 (IntKind.u64.wrap (((a:Nat):Int)-((b:Nat):Int)))=.int .u64 (a-b:Nat):=by
 rw[show ((a:Nat):Int)-((b:Nat):Int)=((a-b:Nat):Int) from by omega];exact u64w qo
theorem u64s1{a:Nat}(h:1<=a)(ha:a<18446744073709551616):Value.int .u64 (IntKind.u64.wrap (((a:Nat):Int)-1))=.int .u64 (a-1:Nat):=by
 rw[show ((a:Nat):Int)-1=((a-1:Nat):Int) from by omega];exact u64w qo
def okV(o:Option Nat):Value:=.tuple #[.int .i64 (((o.getD 0:Nat)):Int),.bool o.isSome]
theorem trm_at(s:Snp)(l:List Ent)(i:Nat):trm s l i=if i=s.idx then (s.term,true) else match lgAt s l i with
  | none=>(0,false)
  | some k=>(((l[k]?).getD Ent.zero).term,true):=by
 unfold trm lgAt
 by_cases h:i=s.idx
 ·rw[if_pos h,if_pos h]
 ·rw[if_neg h,if_neg h]
  by_cases h2:i<s.idx\/s.idx+l.length<i
  ·rw[if_pos h2,if_pos qo]
  ·rw[if_neg h2,if_neg qo]
theorem lgAt_some{s:Snp}{l:List Ent}{i k:Nat}(h:lgAt s l i=some k):s.idx<i/\i<=s.idx+l.length/\k=i-s.idx-1/\k<l.length:=by
 unfold lgAt at h
 split at h
 ·cases h
 ·cases h;omega
attribute [local irreducible] Code.wp wpList Calls
theorem cloneIC{w0:World}{K hv:PH}{hs:List PH}(ao:Option Addr)(cap:Nat)(b:List Int)(hm:In K hs hv)(x:IsS hv ao b.length cap 1 (iv b))(hl:b.length<1099511627776):
  Ct Tryz.prog w0 57 [.slice ao b.length cap] K hs
   (fun v K' hs'=>Le K K'/\hs'=hs/\∃ ao' c',v=.slice ao' b.length c'/\IsS K' ao' b.length c' 1 (iv b)):=by
 refine enter Tryz.func57 qk I I I<|sq (rg<|fin hT 1 I (th<|sq (sq<|rg (cb hT 1 I (fun h1=>?_) (fun h1=>?_)))))
 ·have hao:ao=none:=by simpa using h1
  subst hao
  have hb0:b=[]:=by
   cases b with
   | nil=>rfl
   | cons c r=>obtain ⟨a,ha,_⟩:=x.2.2 0 _ (by simp[iv];rfl);cases ha
  subst hb0;exact fin hT 0 I (th (ifT I (sq (rg (fin hT 1 I (th (rt (rT (ret1 I I ⟨Le.refl _,I,none,0,I,IsS.nil _ _ _ _⟩)))))))))
 ·refine fin hT 0 I (th (ifF I (sk (th (sq (rg (lit hT 0 #[] I (by decide) qk fun b5=>app hT 1 0 I I (Own.ofPt (c:=#[]) (n:=0) (by simp) (by simp[maxLen])) (In.cons hm) x I (by decide) (iv_one _) (by show (0+b.length)*8<=_;omega) (by simp[maxLen];omega) fun ao7 c7 g7 o7=>fin hT 1 rfl (th (rt (WQ.frz fun K2 l1 l2=>?_))))))))));have e:0+b.length=b.length:=Nat.zero_add _;rw[e] at o7;exact ret1 I (by rw[e];rfl) ⟨l1,rfl,ao7,c7,rfl,o7.isS.le l2⟩
theorem copiedC{w0:World}{K hb:PH}{hs:List PH}(e:Ent)(ao:Option Addr)(cap:Nat)(hm:In K hs hb)(x:IsS hb ao e.data.length cap 1 (bv e.data))(hl:e.data.length<1099511627776):
  Ct Tryz.prog w0 42 [.agg (e.v ao cap)] K hs (fun v K' hs'=>Le K K'/\hs'=hs/\∃ ao' c',v=.agg (e.v ao' c')/\IsS K' ao' e.data.length c' 1 (bv e.data)):=by
 refine enter Tryz.func42 qk I I I (sq (rg (bx hT 0 I fun b1=>al hT 0 (.agg #[.int .u64 0,.int .u64 0,.int .i64 0,.slice none 0 0]) I qk fun b2=>fin hT 0 I (th (sq (rg (WL.hs (pt b2 #[.int .u64 0,.int .u64 0,.int .i64 0,.slice none 0 0] 46::pt b1 (e.v ao cap) 46::hs) I (ldp hT 1 1 I I I (cl hT 0 I (cloneB ao cap e.data (In.cons (In.cons hm)) x hl) ?_)))))))));rintro v5 K5 hs5 ⟨rfl,h5,ao5,c5,rfl,rfl,o5⟩;exact stp hT 1 2 I I I I (WL.hs (h5::pt b2 #[.int .u64 0,.int .u64 0,.int .i64 0,.slice none 0 0] 46::pt b1 (e.v ao5 c5) 46::hs) I (fin hT 0 I (th (sq (rg (ldS hT 0 2 I I qk (stS hT 0 1 I I qk I I (fin hT 0 I (th (rt (WQ.frz fun K2 l1 l2=>retcA 0 2 I I I qk ⟨l1,I,ao5,c5,I,o5.isS.le l2⟩)))))))))))
def snV(s:Snp)(aV:Option Addr)(cV:Nat)(aD:Option Addr)(cD:Nat):Array Value:=#[.int .u64 s.idx,.int .u64 s.term,.slice aV s.vot.length cV,.slice aD s.data.length cD]
def SnpS(K:PH)(s:Snp)(v:Value):Prop:=∃ aV cV aD cD,v=.agg (snV s aV cV aD cD)/\IsS K aV s.vot.length cV 1 (iv s.vot)/\IsS K aD s.data.length cD 1 (bv s.data)
theorem snapLC{w0:World}{K:PH}{m hs:List PH}(lb db:Nat)(L:Lg)(D:Dk)(c:Nat)(hb:LBd c L)(hm:LgM K lb db L D m):
  Ct Tryz.prog w0 43 [.pointer (some ⟨lb,0,none⟩)] K (m++hs) (fun v K' hs'=>Le K K'/\hs'=m++hs/\SnpS K' L.sn v):=by
 obtain ⟨wb,hb',eb,aV,cV,aD,cD,aL,cL,wh,hh,eh,gl,dh,rfl,hW,hH,hE,hG,hD,xV,xD⟩:=hm;have hv7:=hb.vot;have hd2:=hb.data;refine enter Tryz.func43 qk I I I (sq (rg (al hT 0 (.agg #[.int .u64 0,.int .u64 0,.slice none 0 0,.slice none 0 0]) I qk fun b2=>fin hT 0 I (th (sq (rg (lds hT 3 (snV L.sn aV cV aD cD).toList I qk (.inr ⟨1,I⟩) (cells_sub _ I) (al hT 0 (.agg #[.int .u64 0,.int .u64 0,.slice none 0 0,.slice none 0 0]) I qk fun b3=>stS hT 0 0 I I qk I I (fin hT 0 I (th (sq (rg (ldp hT 2 0 I I I (cl hT 0 I (cloneIC aV cV L.sn.vot (.inl I) xV qo) ?_))))))))))))));rintro v11 K11 hs11 ⟨le1,rfl,aV2,cV2,rfl,xV2⟩;refine stp hT 2 0 I I I I (fin hT 0 I (th (sq (rg (ldp hT 1 0 I I I (cl hT 0 I (cloneB aD cD L.sn.data (.inl I) (xD.le le1) qo) ?_))))));rintro v16 K16 hs16 ⟨rfl,h16,aD2,cD2,rfl,rfl,oD2⟩;exact stp hT 1 1 I I I I (WL.hs (h16::pt b3 (snV L.sn aV2 cV2 aD2 cD2) 32::pt b2 #[.int .u64 0,.int .u64 0,.slice none 0 0,.slice none 0 0] 32::_) I (fin hT 0 I (th (sq (rg (ldS hT 0 1 I I qk (stS hT 0 2 I I qk I I (fin hT 0 I (th (rt (WQ.frz fun K2 l1 l2=>retcA 1 2 I I I qk ⟨le1.trans l1,I,aV2,cV2,aD2,cD2,I,xV2.le l1,oD2.isS.le l2⟩)))))))))))
theorem lastLC{w0:World}{K:PH}{m hs:List PH}(lb db:Nat)(L:Lg)(D:Dk)(c:Nat)(hb:LBd c L)(hc:c<=1000000000)(hm:LgM K lb db L D m):
  Ct Tryz.prog w0 72 [.pointer (some ⟨lb,0,none⟩)] K (m++hs) (fun v K' hs'=>K'=K/\hs'=m++hs/\v=.int .u64 (L.sn.idx+L.l.length:Nat)):=by
 obtain ⟨wb,hb',eb,aV,cV,aD,cD,aL,cL,wh,hh,eh,gl,dh,rfl,hW,hH,hE,hG,hD,xV,xD⟩:=hm;have h1:=hb.idx;have h2:=hb.len;unfold lgTop at h1;exact enter Tryz.func72 qk I I I (sq (rg (fin hT 1 I (th (sq (rga [pt lb (lgA wb db hb' eb L (.slice aV L.sn.vot.length cV) (.slice aD L.sn.data.length cD) (.slice aL L.l.length cL)) 91] 13 [0,2,4,6,8,10,12,14,16,18,20,22,24] (by simp) qk qk (dldp hT qk 4 0 I I I (dldp hT qk 3 0 I I I (dar hT qk 1 I (u64w (x:=((L.l.length:Nat):Int)) qo) (dar hT qk 0 I (u64w (x:=((L.sn.idx+L.l.length:Nat):Int)) qo) (dend hT qk 1 I (th (rt (ret1 I I ⟨I,I,I⟩))))))))))))))
theorem atLC{w0:World}{K:PH}{m hs:List PH}(lb db:Nat)(L:Lg)(D:Dk)(c:Nat)(hb:LBd c L)(hc:c<=1000000000)(hm:LgM K lb db L D m)(i:Nat)(hi:i<18446744073709551616):
  Ct Tryz.prog w0 41 [.pointer (some ⟨lb,0,none⟩),.int .u64 (i:Nat)] K (m++hs) (fun v K' hs'=>K'=K/\hs'=m++hs/\v=okV (lgAt L.sn L.l i)):=by
 have hm0:=hm;obtain ⟨wb,hb',eb,aV,cV,aD,cD,aL,cL,wh,hh,eh,gl,dh,rfl,hW,hH,hE,hG,hD,xV,xD⟩:=hm;have h2:=hb.len;refine enter Tryz.func41 qk I I I (sq (rg (fin hT 2 I (th (sq (sq (rg (ldp hT 5 0 I I I (cmpS hT 0 I fun b12 h12=>?_)))))))))
 refine' bjo (q:=L.sn.idx+L.l.length<i) hT 1 5 18 [12,13] h12 I I I I I I I (fun _=>?x2) (fun b18 h18=>?_)
 case x2=>
  refine cl hT 2 I (lastLC lb db L D c hb hc hm0) ?_;rintro v16 K16 hs16 ⟨rfl,rfl,rfl⟩;exact cmpS hT 0 I fun b17 h17=>fin hT 1 I (bjx (h17.trans qo) I I I)
 refine fin hT 0 I<|th (ifP h18 I (fun e4=>?_) (fun e4=>?_))
 ·refine sq (rg (fin hT 2 I (th (rt (rT (ret2 I I I ⟨I,I,?_⟩))))));unfold lgAt;rw[if_pos qo]
  rfl
 ·refine sk (th (sq (rg (ldp hT 5 0 I I I (ar hT 0 I (u64s qo hi) (ar hT 0 I (u64s1 qo qo) (ar hT 0 I (i64w qo) (fin hT 2 I (th (rt (ret2 I I I ⟨I,I,?_⟩)))))))))));unfold lgAt;rw[if_neg qo]
  rfl
end
section
def okT(o:Nat×Bool):Value:=.tuple #[.int .u64 o.1,.bool o.2]
attribute [local irreducible] Code.wp wpList Calls
theorem ent_cells{K gl:PH}{aL:Option Addr}{cL:Nat}{l:List Ent}(hG:SlZ 4 46 (EntC K) gl aL l.length cL l){k:Nat}{e:Ent}(hk:l[k]?=some e):
  ∃ a ao cap,aL=some a/\IsS K ao e.data.length cap 1 (bv e.data)/\∀ (j:Nat) v,(e.v ao cap).toList[j]?=some v->Cell gl ((a.add (k*4)).add j) v:=by
 have hkl:k<l.length:=(List.getElem?_eq_some_iff.1 hk).1;obtain ⟨a,rfl⟩:=hG.slS.addr qo (by decide);obtain ⟨c,⟨ao,cap,rfl,x⟩,_,hc⟩:=hG.slS.cells hk;exact ⟨a,ao,cap,I,x,hc⟩
theorem termLC{w0:World}{K:PH}{m hs:List PH}(lb db:Nat)(L:Lg)(D:Dk)(c:Nat)(hb:LBd c L)(hc:c<=1000000000)(hm:LgM K lb db L D m)(i:Nat)(hi:i<18446744073709551616):
  Ct Tryz.prog w0 13 [.pointer (some ⟨lb,0,none⟩),.int .u64 (i:Nat)] K (m++hs) (fun v K' hs'=>K'=K/\hs'=m++hs/\v=okT (trm L.sn L.l i)):=by
 have hm0:=hm;obtain ⟨wb,hb',eb,aV,cV,aD,cD,aL,cL,wh,hh,eh,gl,dh,rfl,hW,hH,hE,hG,hD,xV,xD⟩:=hm;have h2:=hb.len;rw[trm_at];refine enter Tryz.func13 qk I I I (sq (rg (fin hT 2 I (th (sq (rg (cl hT 2 I (atLC lb db L D c hb hc hm0 i hi) ?_)))))));rintro v11 K11 hs11 ⟨rfl,rfl,rfl⟩;refine fin hT 5 I (th (sq (bk (sq (rg (ldp hT 5 0 I I I (cmpS hT 0 I fun b21 h21=>fin hT 1 I (th (ifP h21 I (fun e2=>?_) (fun e2=>?_))))))))))
 ·rw[if_pos qo];exact sq (rg (ldp hT 4 0 I I I (fin hT 2 I (th (rt (rB (rT (ret2 I I I ⟨I,I,I⟩))))))))
 ·rw[if_neg qo];cases hk:lgAt L.sn L.l i with
  | none=>
   exact sq<|rg (fin hT 3 I<|th (ifT I<|sq (rg<|fin hT 2 I (th<|rt (rB<|rT (ret2 I I I ⟨I,I,I⟩))))))
  | some k=>
   obtain ⟨g1,g2,g3,g4⟩:=lgAt_some hk;obtain ⟨e,he⟩:∃ e,L.l[k]?=some e:=⟨L.l[k],List.getElem?_eq_getElem g4⟩;obtain ⟨a,ao,cap,rfl,x,hcell⟩:=ent_cells hG he;refine sq (rg (fin hT 3 I (th (ifF I (sk (bl (th (sq (rg (ldp hT 3 0 I I I ?_))))))))));obtain ⟨xs,hxs⟩:=hG.slS.isS;refine ixs hT 1 k I I hxs g4 (by decide) fun a35 h35=>?_;cases h35;refine ld hT 1 I (.inr ⟨4,I⟩) (hcell 1 _ I) (fin hT 2 I (th (rt (ret2 I I I ⟨I,I,?_⟩))));dsimp only;rw[he]
   rfl
theorem hasLC{w0:World}{K hv:PH}{m hs:List PH}(lb db:Nat)(L:Lg)(D:Dk)(c:Nat)(hb:LBd c L)(hc:c<=1000000000)(hm:LgM K lb db L D m)(s:Snp)(hi:s.idx<18446744073709551616)(aV:Option Addr)(cV:Nat)(aD:Option Addr)(cD:Nat):
  Ct Tryz.prog w0 81 [.pointer (some ⟨lb,0,none⟩),.agg (snV s aV cV aD cD)] K (m++hs) (fun v K' hs'=>K'=K/\hs'=m++hs/\v=.bool (lgHas L.sn L.l s)):=by
 have hm0:=hm;obtain ⟨wb,hb',eb,aV',cV',aD',cD',aL,cL,wh,hh,eh,gl,dh,rfl,hW,hH,hE,hG,hD,xV,xD⟩:=hm;refine enter Tryz.func81 qk I I I (sq (rg (bx hT 0 I fun b3=>WL.hs (pt b3 (snV s aV cV aD cD) 32::([_,_,_,_,_,_]++hs)) I (fin hT 1 I (th (sq (rg (ldp hT 2 0 I I I (WL.perm (List.perm_middle (l₁:=[_,_,_,_,_,_])).symm (cl hT 0 I (termLC lb db L D c hb hc hm0 s.idx hi) ?_))))))))));rintro v11 K11 hs11 ⟨rfl,rfl,rfl⟩;refine WL.perm (List.perm_middle (l₁:=[_,_,_,_,_,_])) ?_;unfold lgHas;obtain ⟨T,hT'⟩:∃ T,T=trm L.sn L.l s.idx:=⟨_,rfl⟩;rw[<-hT'];obtain ⟨t,b⟩:=T;refine fin hT 5 I (th (sq (rg ?_)));cases b with
 | false=>
  exact fin hT 8 I<|th (rt<|WQ.drop (ret1 I I ⟨I,I,I⟩))
 | true=>
  refine ldp hT 4 0 I I I (cmpS hT 0 I fun b19 h19=>fin hT 2 I (th (rt (WQ.drop (ret1 I I ⟨I,I,?_⟩)))));have:b19=decide (t=s.term):=by rw[Bool.eq_iff_iff,h19];simp;omega
  rw[this]
  rfl
theorem backLC{w0:World}{K:PH}{m hs:List PH}(lb db:Nat)(L:Lg)(D:Dk)(c:Nat)(hb:LBd c L)(hc:c<=1000000000)(hm:LgM K lb db L D m)(i:Nat)(hi:i<18446744073709551616):
  Ct Tryz.prog w0 38 [.pointer (some ⟨lb,0,none⟩),.int .u64 (i:Nat)] K (m++hs) (fun v K' hs'=>K'=K/\hs'=m++hs/\v=.int .u64 (bck L.sn L.l i:Nat)):=by
 have hm0:=hm;obtain ⟨wb,hb',eb,aV,cV,aD,cD,aL,cL,wh,hh,eh,gl,dh,rfl,hW,hH,hE,hG,hD,xV,xD⟩:=hm;have h2:=hb.len;unfold bck;refine enter Tryz.func38 qk I I I (sq (rg (fin hT 1 I (th (sq (sq (rg (cl hT 2 I (lastLC lb db L D c hb hc hm0) ?_))))))));rintro v11 K11 hs11 ⟨rfl,rfl,rfl⟩;refine cmpS hT 0 I fun b12 h12=>fin hT 0 I (th (ifP h12 I (fun e2=>?_) (fun e2=>?_)))
 ·rw[if_pos qo];refine sq (rg (cl hT 1 I (lastLC lb db L D c hb hc hm0) ?_));rintro v14 K14 hs14 ⟨rfl,rfl,rfl⟩;exact fin hT 1 I (th (rt (rT (ret1 I I ⟨I,I,I⟩))))
 ·rw[if_neg qo];refine sk (th (sq (rg (cl hT 2 I (termLC lb db L D c hb hc hm0 i hi) ?_))));rintro v18 K18 hs18 ⟨rfl,rfl,rfl⟩;obtain ⟨T,hT'⟩:∃ T,T=trm L.sn L.l i:=⟨_,rfl⟩;rw[<-hT'];obtain ⟨t,b⟩:=T;obtain ⟨R,hR⟩:∃ R,R=bckL L.sn L.l t i:=⟨_,rfl⟩;dsimp only;rw[<-hR];refine fin hT 5 I (th (sq (bk ?_)))
  refine loop (σ:=Nat) (fun j=>[(0,.pointer (some ⟨lb,0,none⟩)),(1,.int .u64 (j:Nat)),(5,.int .u64 (t:Nat))]) (fun _=>K18)
   (fun _=>[pt lb (lgA wb db hb' eb L (.slice aV L.sn.vot.length cV) (.slice aD L.sn.data.length cD) (.slice aL L.l.length cL)) 91,wh,hh,eh,gl,dh]++hs) (fun j=>j<=i/\bckL L.sn L.l t j=R) (fun j=>j) i ⟨Nat.le_refl _,hR.symm⟩ ⟨rfl,rfl,rfl,trivial⟩ rfl rfl ?_
  rintro j ⟨hj,hw⟩;refine sq (sq (rg (ldp hT 5 0 I I I (cmpS hT 0 I fun b27 h27=>fin hT 0 I (th (ifP h27 I (fun e4=>?_) (fun e4=>?_)))))))
  ·obtain ⟨j,rfl⟩:∃ k,j=k+1:=⟨j-1,by omega⟩;have hw0:bckL L.sn L.l t (j+1)=if (trm L.sn L.l j).1≠t then j else bckL L.sn L.l t j:=by rw[bckL,if_pos qo]
   rw[hw0] at hw;refine sk (th (bk (sq (rg (ar hT 1 I (u64s1 (a:=j+1) qo qo) ?_)))));rw[show j+1-1=j from rfl];refine fin hT 1 I (th (sq (rg (cl hT 2 I (termLC lb db L D c hb hc hm0 j qo) ?_))));rintro v33 K33 hs33 ⟨rfl,rfl,rfl⟩;obtain ⟨U,hU⟩:∃ U,U=trm L.sn L.l j:=⟨_,rfl⟩;rw[<-hU] at hw ⊢;obtain ⟨u,b'⟩:=U;dsimp only at hw;refine fin hT 5 I (th (sq (rg (cmpS hT 2 I fun b38 h38=>fin hT 0 I (th (ifP h38 I (fun e6=>?_) (fun e6=>?_)))))))
   ·rw[if_pos qo] at hw;subst hw;exact ex (xn I (xt (xb (th (sq (rg (fin hT 2 I (th (rt (ret1 I I ⟨I,I,I⟩))))))))))
   ·rw[if_neg qo] at hw;exact sk (bl (again (x:=j+1) j ⟨I,I,I,trivial⟩ I I ⟨by omega,hw⟩ qo))
  ·have hw0:bckL L.sn L.l t j=j:=by
    cases j with
    | zero=>rfl
    | succ j=>rw[bckL,if_neg qo]
   rw[hw0] at hw;subst hw;exact ex (xt (xt (xb (th (sq (rg (fin hT 2 I (th (rt (ret1 I I ⟨I,I,I⟩))))))))))
end
section
def entB(e:Ent):Prop:=e.idx<=mxU/\e.term<=mxU/\e.data.length<1099511627776
theorem putEnt_ok{e:Ent}:(putEnt e).isSome=true↔e.ok:=by unfold putEnt;split <;> simp_all
theorem LBd.setHard{c:Nat}{L:Lg}(o:LBd c L)(D:Dk)(t:Nat)(v:Int)(ht:t<=mxU):LBd c (L.setHard D t v).1:=by
 unfold Lg.setHard
 split
 ·exact o
 ·split
  ·exact o
  ·split
   ·exact o
   ·have hs:=Slt.save_bd o.hard 0 D (uint t++uint (v+1).toNat)
    split
    ·exact ⟨o.w,hs,o.head,ht,by dsimp only;omega,o.idx,o.st,o.vot,o.data,o.place,o.fr,o.len,o.ents⟩
    ·exact ⟨o.w,hs,o.head,o.kt,o.kv,o.idx,o.st,o.vot,o.data,o.place,o.fr,o.len,o.ents⟩
theorem LBd.sync{c:Nat}{L:Lg}(o:LBd c L)(D:Dk):LBd c (L.sync D).1:=by
 unfold Lg.sync
 split
 ·exact o
 ·exact ⟨o.w.sync D,o.hard,o.head,o.kt,o.kv,o.idx,o.st,o.vot,o.data,o.place,o.fr,o.len,o.ents⟩
attribute [local irreducible] Code.wp wpList Calls
theorem entriesLC{w0:World}{K:PH}{m hs:List PH}(lb db:Nat)(L:Lg)(D:Dk)(c:Nat)(hb:LBd c L)(hc:c<=1000000000)(hm:LgM K lb db L D m)(i:Nat)(hi:i<18446744073709551616)(most:Int)(hmo : -9223372036854775808<=most/\most<=9223372036854775807):
  Ct Tryz.prog w0 17 [.pointer (some ⟨lb,0,none⟩),.int .u64 (i:Nat),.int .i64 most] K (m++hs)
   (fun v K' hs'=>Le K K'/\hs'=m++hs/\∃ ao cap,v=.slice ao (partsL L.sn L.l i most).length cap/\SlS 4 (EntC K') K' ao (partsL L.sn L.l i most).length cap (partsL L.sn L.l i most)):=by
 have hm0:=hm;obtain ⟨wb,hb',eb,aV,cV,aD,cD,aL,cL,wh,hh,eh,gl,dh,rfl,hW,hH,hE,hG,hD,xV,xD⟩:=hm;have h2:=hb.len;refine enter Tryz.func17 qk I I I (sq (rg (fin hT 1 I (th (sq (rg (fin hT 1 I (th (sq (rg (cl hT 2 I (atLC lb db L D c hb hc hm0 i hi) ?_)))))))))));rintro v13 K13 hs13 ⟨rfl,rfl,rfl⟩;unfold partsL;cases hk:lgAt L.sn L.l i with
 | none=>
  refine fin hT 5 I<|th (sq<|bk ?_)
  refine loop (σ:=Unit) (fun _=>[(0,.pointer (some ⟨lb,0,none⟩)),(2,.int .i64 most),(7,.slice none 0 0),(8,.int .i64 0),(9,.bool false)]) (fun _=>K13)
   (fun _=>[pt lb (lgA wb db hb' eb L (.slice aV L.sn.vot.length cV) (.slice aD L.sn.data.length cD) (.slice aL L.l.length cL)) 91,wh,hh,eh,gl,dh]++hs) (fun _=>True) (fun _=>0) () trivial ⟨rfl,rfl,rfl,rfl,rfl,trivial⟩ rfl rfl ?_
  rintro ⟨⟩ _;exact sq (sq (rg (fin hT 16 I (th (ifF I (ex (xt (xt (xb (th (sq (rg (fin hT 2 I (th (rt (ret1 I I ⟨Le.refl _,I,none,0,I,SlS.nil _ _ _ _⟩))))))))))))))))
 | some k=>
  obtain ⟨g1,g2,g3,g4⟩:=lgAt_some hk;dsimp only;obtain ⟨X,hX⟩:∃ X,X=(L.l.drop k).take most.toNat:=⟨_,rfl⟩;have hXl:X.length=min most.toNat (L.l.length-k):=by rw[hX,List.length_take,List.length_drop]
  rw[<-hX];refine fin hT 5 I (th (sq (bk (WC.em ?_))))
  refine loop (σ:=Nat×(Option Addr×Nat×PH)×PH) (fun s=>[(0,.pointer (some ⟨lb,0,none⟩)),(2,.int .i64 most),(7,.slice s.2.1.1 s.1 s.2.1.2.1),(8,.int .i64 (k+s.1:Nat)),(9,.bool true)]) (fun s=>s.2.2)
   (fun s=>s.2.1.2.2::([pt lb (lgA wb db hb' eb L (.slice aV L.sn.vot.length cV) (.slice aD L.sn.data.length cD) (.slice aL L.l.length cL)) 91,wh,hh,eh,gl,dh]++hs)) (fun s=>s.1<=X.length/\Le K13 s.2.2/\SlZ 4 46 (EntC s.2.2) s.2.1.2.2 s.2.1.1 s.1 s.2.1.2.1 (X.take s.1)) (fun s=>X.length-s.1)
   (0,(none,0,em),K13) ⟨Nat.zero_le _,Le.refl _,SlZ.nil _ _⟩ ⟨rfl,rfl,rfl,rfl,rfl,trivial⟩ rfl rfl ?_
  rintro ⟨j,⟨ao,cap,g⟩,K1⟩ ⟨hj,le1,oG⟩;dsimp only at *;refine sq (sq (rg (ldp hT 6 1 I I I (cmp hT 1 I (fun e2=>?_) (fun e2=>?_)))))
  ·refine cmpS hT 5 I fun b30 h30=>fin hT 1 I<|th (ifP h30 I (fun e3=>?_) (fun e3=>?_))
   ·have hjX:j<X.length:=by omega
    obtain ⟨e,he⟩:∃ e,X[j]?=some e:=⟨X[j],List.getElem?_eq_getElem hjX⟩
    have hel:L.l[k+j]?=some e:=by
     rw[hX,List.getElem?_take_of_lt qo,List.getElem?_drop] at he;exact he
    have hed:=held_len (hb.ents e (List.mem_of_getElem? hel)).1.2.2;obtain ⟨a,ae,ce,rfl,x,hcell⟩:=ent_cells hG hel;refine sk (th (bk (sq (rg (ldp hT 4 1 I I I ?_)))));obtain ⟨xs,hxs⟩:=hG.slS.isS;refine ixs hT 1 (k+j) I I hxs qo (by decide) fun a38 h38=>?_;cases h38;refine lds hT 0 (e.v ae ce).toList I qk (.inr ⟨5,I⟩) hcell (cl hT 0 I (copiedC e ae ce (.inl I) (x.le le1) qo) ?_);rintro v40 K40 hs40 ⟨le2,rfl,ao2,c2,rfl,x2⟩;exact lit hT 0 (e.v ao2 c2) I (by decide) qk fun b41=>appSq hT 0 1 (e.v ao2 c2).toList e I I I (oG.imp fun _ _ h=>h.le le2) ⟨ao2,c2,I,x2⟩ I (by simp[Ent.v,Value.oneCell']) I (by decide) (by show (j+1)*48<=_;omega) (by simp only[maxLen];omega) fun ao42 c42 g42 o42=>fin hT 1 rfl (th (rg (WL.drop (ar hT 1 rfl (i64w (x:=((k+(j+1):Nat):Int)) qo) (fin hT 1 rfl (bl (again (x:=(j,(ao,cap,g),K1)) (j+1,(ao42,c42,g42),K40) ⟨rfl,rfl,rfl,rfl,rfl,trivial⟩ rfl rfl ⟨by dsimp only;omega,le1.trans le2,by dsimp only;rw[List.take_add_one,he];exact o42⟩ (by dsimp only;omega))))))))
   ·obtain rfl:j=X.length:=by omega
    rw[List.take_length] at oG;exact ex (xt (xt (xb (th (sq (rg (fin hT 2 I (th (rt (WQ.frz fun K2 l1 l2=>ret1 I I ⟨le1.trans l1,I,ao,cap,I,oG.slS.le l2 fun _ _ h=>h.le l1⟩))))))))))
  ·refine fin hT 7 I (th (ifF I ?_));obtain rfl:j=X.length:=by omega
   rw[List.take_length] at oG;exact ex (xt (xt (xb (th (sq (rg (fin hT 2 I (th (rt (WQ.frz fun K2 l1 l2=>ret1 I I ⟨le1.trans l1,I,ao,cap,I,oG.slS.le l2 fun _ _ h=>h.le l1⟩))))))))))
theorem followLC{w0:World}{K:PH}{hs:List PH}(i t:Nat)(hi:i<=mxU)(ht:t<=mxU)(ao:Option Addr)(cap:Nat)(x:List Ent)(xs:SlS 4 (EntC K) K ao x.length cap x)(hx:∀ e∈x,entB e)(hxl:x.length<=1099511627776):
  Ct Tryz.prog w0 37 [.int .u64 (i:Nat),.int .u64 (t:Nat),.slice ao x.length cap] K hs (fun v K' hs'=>K'=K/\hs'=hs/\v=.int .i64 (fol i t x)):=by
 obtain ⟨ys,hys⟩:=xs.isS;refine enter Tryz.func37 qk I I I (sq (rg (fin hT 1 I (th (sq (sq (rg (fin hT 3 I (th (bk (loop (σ:=Nat) (fun j=>[(0,.int .u64 (i:Nat)),(1,.int .u64 (t:Nat)),(2,.slice ao x.length cap),(13,.slice ao x.length cap),(14,.int .i64 x.length),(15,.int .i64 (j:Nat))]) (fun _=>K) (fun _=>hs) (fun j=>j<=x.length/\∀ e∈x.take j,e.ok) (fun j=>x.length-j) 0 ⟨Nat.zero_le _,by simp⟩ ⟨I,I,I,I,I,I,trivial⟩ I I ?_)))))))))));rintro j ⟨hj,hok⟩;refine sq (rg (cmpS hT 0 I fun b16 h16=>fin hT 0 I (th (sq (ifP h16 I (fun e2=>?_) (fun e2=>?_))))))
 ·have hjx:j<x.length:=by omega
  obtain ⟨e,he⟩:∃ e,x[j]?=some e:=⟨x[j],List.getElem?_eq_getElem hjx⟩;have hem:=List.mem_of_getElem? he;obtain ⟨q1,q2,q3⟩:=hx e hem;obtain ⟨a,rfl⟩:=xs.addr qo (by decide);obtain ⟨c,⟨ae,ce,rfl,xe⟩,_,hcell⟩:=xs.cells he;refine sk (th (sq (bk (sq (rg (ixs hT 0 j I I hys hjx (by decide) fun a17 h17=>?_))))));cases h17;refine lds hT 0 (e.v ae ce).toList I qk (.inl I) hcell (al hT 0 (.agg #[.int .u64 0,.int .u64 0,.int .i64 0,.slice none 0 0]) I qk fun b8=>stS hT 0 0 I I qk I I (fin hT 0 I (th (sq (rg (ldS hT 0 0 I I qk (cl hT 0 I (putEntC e ae ce q1 q2 (.inl I) xe q3) ?_)))))));rintro v21 K21 hs21 ⟨rfl,h21,ao21,c21,rfl,rfl,o21⟩;refine fin hT 5 I (th (sq (rg (WL.drop (WL.drop (cmpS hT 1 I fun b25 h25=>fin hT 0 I (th (ifP h25 I (fun e4=>?_) (fun e4=>?_)))))))))
  ·have hno:¬e.ok:=fun h=>e4 (ec_zero.2 (putEnt_ok.2 h));refine sq (rg (fin hT 1 I (th (rt (rB (rT (rT (rB (rT (ret1 I I ⟨I,I,?_⟩))))))))));unfold fol;rw[if_neg];simp only[List.all_eq_true,putEnt_ok];exact fun h=>hno (h e hem)
  ·have hyes:e.ok:=putEnt_ok.1 (ec_zero.1 (Decidable.not_not.1 e4));refine sk (bl (th (rg (ar hT 0 I (i64w (x:=((j+1:Nat):Int)) qo) (fin hT 1 I (again (x:=j) (j+1) ⟨I,I,I,I,I,I,trivial⟩ I I ⟨by omega,?_⟩ qo))))));rw[List.take_add_one,he];intro y hy;rcases List.mem_append.1 hy with hy|hy
   ·exact hok y hy
   ·simp at hy;rw[hy];exact hyes
 ·obtain rfl:j=x.length:=by omega
  rw[List.take_length] at hok;have e0:fol i t x=folR i t x:=by unfold fol;rw[if_pos (by simp only[List.all_eq_true,putEnt_ok];exact hok)]
  rw[e0];refine ex (xt (xt (xb (th (sq (sq (rg (fin hT 3 I (th (bk ?_))))))))));obtain ⟨R,hR⟩:∃ R,R=folR i t x:=⟨_,rfl⟩;rw[<-hR];refine loop (σ:=Nat×Nat×Nat) (fun s=>[(0,.int .u64 s.2.1),(1,.int .u64 s.2.2),(2,.slice ao x.length cap),(27,.slice ao x.length cap),(28,.int .i64 x.length),(29,.int .i64 s.1)]) (fun _=>K) (fun _=>hs) (fun s=>s.1<=x.length/\s.2.1<=mxU/\s.2.2<=mxU/\folR s.2.1 s.2.2 (x.drop s.1)=R) (fun s=>x.length-s.1) (0,i,t) ⟨Nat.zero_le _,hi,ht,hR.symm⟩ ⟨I,I,I,I,I,I,trivial⟩ I I ?_;clear hi ht e0 hR;clear i t;rintro ⟨j,i,t⟩ ⟨hj,hi,ht,hw⟩;dsimp only at *;refine sq (rg (cmpS hT 0 I fun b30 h30=>fin hT 0 I (th (sq (ifP h30 I (fun e6=>?_) (fun e6=>?_))))))
  ·have hjx:j<x.length:=by omega
   obtain ⟨e,he⟩:∃ e,x[j]?=some e:=⟨x[j],List.getElem?_eq_getElem hjx⟩;have hem:=List.mem_of_getElem? he;obtain ⟨q1,q2,q3⟩:=hx e hem;have hne:=(hok e hem).1;obtain ⟨a,rfl⟩:=xs.addr qo (by decide);obtain ⟨c,⟨ae,ce,rfl,xe⟩,_,hcell⟩:=xs.cells he;rw[List.drop_eq_getElem_cons hjx,show x[j]=e from by rw[List.getElem?_eq_getElem hjx] at he;exact Option.some.inj he,folR] at hw;refine sk (th (sq (bk (sq (rg (ixs hT 0 j I I hys hjx (by decide) fun a31 h31=>?_))))));cases h31;refine lds hT 0 (e.v ae ce).toList I qk (.inl I) hcell (al hT 0 (.agg #[.int .u64 0,.int .u64 0,.int .i64 0,.slice none 0 0]) I qk fun b12=>stS hT 0 0 I I qk I I (WL.hs (pt b12 (e.v ae ce) 46::hs) I (fin hT 0 I (th (sq (sq (rg (ldp hT 1 0 I I I (ar hT 1 I (v':=.int .u64 (((i+1) % 18446744073709551616:Nat):Int)) (by rw[<-u64m];rfl) (cmpS hT 0 rfl fun b37 h37=>?_))))))))));unfold mxU at hi ht q1 q2
   refine' bjo (q:=e.term<t) hT 1 5 43 [37,38] (h37.trans (show _↔e.idx≠i+1 by omega)) I I I I I I I (fun _=>?x8) (fun b43 h43=>?_)
   case x8=>
    exact ldp hT 1 0 I I I (cmpS hT 1 I fun b42 h42=>fin hT 1 I<|bjx (h42.trans qo) I I I)
   refine fin hT 0 I<|th (ifP h43 I (fun e10=>?_) (fun e10=>?_))
   ·rw[if_pos e10] at hw;refine sq (rg (WL.drop (fin hT 1 I (th (rt (rT (rB (rT (rT (rB (rT ?_)))))))))));rw[<-hw];exact ret1 I I ⟨I,I,I⟩
   ·rw[if_neg e10] at hw;exact sk (th (rga [pt b12 (e.v ae ce) 46] 6 [0,2,4,6,8,10] (by simp) qk qk (dldp hT qk 1 0 I I I (dldp hT qk 1 0 I I I (dend hT qk 2 I (bl (th (rg (WL.drop (ar hT 0 I (i64w (x:=((j+1:Nat):Int)) qo) (fin hT 1 I (again (x:=(j,i,t)) (j+1,e.idx,e.term) ⟨I,I,I,I,I,I,trivial⟩ I I ⟨by dsimp only;omega,q1,q2,hw⟩ (by dsimp only;omega)))))))))))))
  ·obtain rfl:j=x.length:=by omega
   rw[List.drop_length] at hw;refine ex (xt (xt (xb (th (sq (rg (fin hT 1 I (th (rt ?_)))))))));rw[<-hw];exact ret1 I I ⟨I,I,I⟩
end
section
attribute [local irreducible] Code.wp wpList Calls
theorem saveSH{w0:World}{K s h hv:PH}{hs:List PH}(sb b area:Nat)(S:Slt)(hS:SltH K sb b area S s)(hbd:S.bd)(D:Dk)(c:Nat)(o:D.Ok c)(hc:c<=1099511626)(hm:DskH K b D h)(ha:area<=18446744073709551615)
  (v:List UInt8) (ao:Option Addr) (cap:Nat) (hl:v.length<1099511627776) (hin:In K hs hv) (x:IsS hv ao v.length cap 1 (bv v)):
  Ct Tryz.prog w0 76 [.pointer (some ⟨sb,0,none⟩),.slice ao v.length cap] K (s::h::hs)
   (fun u K' hs'=>∃ s' h',hs'=s'::h'::hs/\Le K K'/\SltH K' sb b area (S.save area D v).1 s'/\DskH K' b (S.save area D v).2.1 h'/\u=.int .i64 (S.save area D v).2.2):=
 (saveSC sb b area S hS hbd D c o hc hm ha v ao cap hl hin x).mono fun u K' hs' ⟨le,s',h',e,h1,h2,h3⟩=>⟨s',h',e,le,h1,h2,h3⟩
theorem fitsLC{w0:World}{K hv hd':PH}{m hs:List PH}(lb db:Nat)(L:Lg)(D:Dk)(c:Nat)(hb:LBd c L)(hc:c<=1000000000)(hm:LgM K lb db L D m)(s:Snp)(hi:s.idx<18446744073709551616)(aV:Option Addr)(cV:Nat)(aD:Option Addr)(cD:Nat)(xv:IsS K aV s.vot.length cV 1 (iv s.vot))(hvl:s.vot.length<1099511627776)(hdl:s.data.length<1099511627776):
  Ct Tryz.prog w0 80 [.pointer (some ⟨lb,0,none⟩),.agg (snV s aV cV aD cD)] K (m++hs) (fun v K' hs'=>K'=K/\hs'=m++hs/\v=.int .i64 (L.fits s)):=by
 have hm0:=hm;obtain ⟨wb,hb',eb,aV',cV',aD',cD',aL,cL,wh,hh,eh,gl,dh,rfl,hW,hH,hE,hG,hD,xV,xD⟩:=hm;unfold Lg.fits;refine enter Tryz.func80 qk I I I (sq (rg (bx hT 0 I fun b3=>WL.hs (pt b3 (snV s aV cV aD cD) 32::([_,_,_,_,_,_]++hs)) I (fin hT 1 I (th (sq (bk (sq (rg (ldp hT 3 1 I I I (cmpS hT 0 I fun b10 h10=>fin hT 1 I (th (ifP h10 I (fun e2=>?_) (fun e2=>?_))))))))))))))
 ·rw[if_pos e2];exact sq (rg (ldp hT 3 1 I I I (fin hT 1 I (th (rt (rB (rT (WQ.drop (ret1 I I ⟨I,I,I⟩)))))))))
 ·rw[if_neg e2];refine sq (rg (lds hT 1 [.slice aV s.vot.length cV] I qk (.inr ⟨0,I⟩) (cells_sub _ I) (cl hT 0 I (rightC aV cV s.vot (.inl I) xv hvl) ?_)));rintro v18 K18 hs18 ⟨rfl,rfl,rfl⟩;refine cbS hT 0 ((putConf s.vot).isSome=false) I (by cases (putConf s.vot).isSome <;> simp) fun b19 h19=>?_
  refine' bjo (q:=2097152<s.data.length) hT 1 5 25 [19,20] h19 I I I I I I I (fun _=>?x3) (fun b25 h25=>?_)
  case x3=>
   exact ldp hT 1 0 I I I (cmpS hT 1 I fun b24 h24=>fin hT 1 I<|bjx (h24.trans qo) I I I)
  refine fin hT 1 I<|th (ifP h25 I (fun e5=>?_) (fun e5=>?_))
  ·rw[if_pos e5];exact sq (rg (fin hT 1 I (th (rt (rB (rT (WQ.drop (ret1 I I ⟨I,I,I⟩))))))))
  ·rw[if_neg e5];refine sq (rga [pt b3 (snV s aV cV aD cD) 32,pt lb (lgA wb db hb' eb L (.slice aV' L.sn.vot.length cV') (.slice aD' L.sn.data.length cD') (.slice aL L.l.length cL)) 91] 14 [0,2,4,6,8,10,12,14,16,18,20,22,24,26] (by simp) qk qk (dldp hT qk 1 0 I I I (dldp hT qk 4 1 I I I (dcmp hT qk 0 (s.idx<=L.sn.idx) I (by simp) (fun h6=>?_) (fun h6=>?_)))))
   ·rw[if_pos (.inl h6)];exact dend hT qk 6 I (th (ifT I (sq (rg (fin hT 1 I (th (rt (rB (rT (WQ.drop (ret1 I I ⟨I,I,I⟩)))))))))))
   ·refine dldp hT qk 2 0 I I I (dcbS hT qk 0 (lgTop<=s.idx) I (by unfold lgTop;simp;omega) fun b38 h38=>dend hT qk 2 rfl (th (ifP h38 rfl (fun e7=>?_) (fun e7=>?_))))
    ·rw[if_pos (.inr e7)];exact sq (rg (fin hT 1 I (th (rt (rB (rT (WQ.drop (ret1 I I ⟨I,I,I⟩))))))))
    ·rw[if_neg qo];exact sk (bl (th (sq (rg (fin hT 1 I (th (rt (WQ.drop (ret1 I I ⟨I,I,I⟩)))))))))
theorem syncLC{w0:World}{K:PH}{m hs:List PH}(lb db:Nat)(L:Lg)(D:Dk)(c:Nat)(hb:LBd c L)(hc:c<=1000000000)(oD:DOk c D)(hm:LgM K lb db L D m):
  Ct Tryz.prog w0 35 [.pointer (some ⟨lb,0,none⟩)] K (m++hs) (fun v K' hs'=>K'=K/\∃ m',hs'=m'++hs/\LgM K lb db (L.sync D).1 (L.sync D).2.1 m'/\v=.int .i64 (L.sync D).2.2):=by
 have hm0:=hm;obtain ⟨wb,hb',eb,aV,cV,aD,cD,aL,cL,wh,hh,eh,gl,dh,rfl,hW,hH,hE,hG,hD,xV,xD⟩:=hm;unfold Lg.sync;refine enter Tryz.func35 qk I I I (sq (rg (fin hT 1 I (th (sq (sq (rg (ldp hT 3 0 I I I (cmpS hT 0 I fun b7 h7=>fin hT 0 I (th (ifP h7 I (fun e2=>?_) (fun e2=>?_))))))))))))
 ·rw[if_pos e2];exact sq (rg (ldp hT 3 0 I I I (fin hT 1 I (th (rt (rT (ret1 I I ⟨I,_,I,hm0,I⟩)))))))
 ·rw[if_neg e2];have e2:=Decidable.not_not.1 e2;refine sk (th (sq (rg (ldp hT 4 0 I I I (cl hT 0 I (Ct.at2 1 4 I I (syncWH wb db L.w hW D c oD.ok hc hb.w hD)) ?_)))));rintro v17 K17 hs17 ⟨wh',dh',rfl,rfl,hW',hD',rfl⟩;refine cl hT 0 I (didLC lb wb db hb' eb L _ _ _ _) ?_;rintro v18 K18 hs18 ⟨_,rfl,rfl,rfl,rfl⟩;have ed:didV L.code (L.w.sync D).1.code=(L.w.sync D).1.code:=by unfold didV;rw[if_pos e2]
  rw[ed];exact fin hT 1 I (th (rt (ret1 I I ⟨I,[_,_,_,_,_,_],I,⟨wb,hb',eb,aV,cV,aD,cD,aL,cL,wh',hh,eh,gl,dh',I,hW',hH,hE,hG,hD',xV,xD⟩,I⟩)))
theorem setHardLC{w0:World}{K:PH}{m hs:List PH}(lb db:Nat)(L:Lg)(D:Dk)(c:Nat)(hb:LBd c L)(hc:c<=1000000000)(oD:DOk c D)(hm:LgM K lb db L D m)(t:Nat)(v:Int)(ht:t<=mxU)(hv : -9223372036854775808<=v/\v<=9223372036854775807):
  Ct Tryz.prog w0 34 [.pointer (some ⟨lb,0,none⟩),.agg #[.int .u64 (t:Nat),.int .i64 v]] K (m++hs) (fun u K' hs'=>Le K K'/\∃ m',hs'=m'++hs/\LgM K' lb db (L.setHard D t v).1 (L.setHard D t v).2.1 m'/\u=.int .i64 (L.setHard D t v).2.2):=by
 have hm0:=hm;obtain ⟨wb,hb',eb,aV,cV,aD,cD,aL,cL,wh,hh,eh,gl,dh,rfl,hW,hH,hE,hG,hD,xV,xD⟩:=hm;unfold Lg.setHard;refine enter Tryz.func34 qk I I I (sq (rg (bx hT 0 I fun b3=>WL.hs (pt b3 #[.int .u64 (t:Nat),.int .i64 v] 25::([_,_,_,_,_,_]++hs)) I (fin hT 1 I (th (sq (bk (sq (rg (ldp hT 3 1 I I I (cmpS hT 0 I fun b11 h11=>fin hT 1 I (th (ifP h11 I (fun e2=>?_) (fun e2=>?_))))))))))))))
 ·rw[if_pos e2];exact sq (rg (ldp hT 3 1 I I I (fin hT 1 I (th (rt (rB (rT (WQ.drop (ret1 I I ⟨Le.refl _,_,I,hm0,I⟩)))))))))
 ·rw[if_neg e2];have e2:=Decidable.not_not.1 e2;refine sq (rg (ldp hT 1 0 I I I (cmpS hT 0 I fun b19 h19=>?_)))
  refine' bjo (q:=7<=v) hT 1 4 24 [19,20] h19 I I I I I I I (fun _=>?x4) (fun b24 h24=>?_)
  case x4=>
   exact ldp hT 1 0 I I I (cmpS hT 0 I fun b23 h23=>fin hT 1 I<|bjx (h23.trans qo) I I I)
  refine fin hT 1 I<|th (ifP h24 I (fun e6=>?_) (fun e6=>?_))
  ·rw[if_pos e6];exact sq (rg (fin hT 1 I (th (rt (rB (rT (WQ.drop (ret1 I I ⟨Le.refl _,_,I,hm0,I⟩))))))))
  ·rw[if_neg e6];refine sq (rga [pt b3 #[.int .u64 (t:Nat),.int .i64 v] 25,pt lb (lgA wb db hb' eb L (.slice aV L.sn.vot.length cV) (.slice aD L.sn.data.length cD) (.slice aL L.l.length cL)) 91] 9 [0,2,4,6,8,10,12,14,16] (by simp) qk qk (dldp hT qk 1 0 I I I (dldp hT qk 4 1 I I I (dcbS hT qk 0 (t<L.kt) I (by simp) fun b33 h33=>dend hT qk 1 I (th (ifP h33 I (fun e7=>?_) (fun e7=>?_)))))))
   ·rw[if_pos e7];exact sq (rg (fin hT 1 I (th (rt (rB (rT (WQ.drop (ret1 I I ⟨Le.refl _,_,I,hm0,I⟩))))))))
   ·rw[if_neg e7];obtain ⟨u,rfl⟩:∃ u:Nat,v=((u:Nat):Int)-1:=⟨(v+1).toNat,by omega⟩;have eu:(((u:Nat):Int)-1+1).toNat=u:=by omega
    rw[eu]
    have hul:(uint t++uint u).length<=20:=by
     unfold mxU at ht;have h1:=uint_le10 (n:=t) qo;have h2:=uint_le10 (n:=u) qo;rw[List.length_append];omega
    obtain ⟨R,hR⟩:∃ R,R=L.hard.save 0 D (uint t++uint u):=⟨_,rfl⟩;unfold mxU at ht;refine sk (bl (th (WC.em (sq (rga [pt b3 #[.int .u64 (t:Nat),.int .i64 (((u:Nat):Int)-1)] 25] 9 [0,2,6,8,10,12,5,15,16] (by simp) qk qk (dldp hT qk 1 0 I I I (dldp hT qk 1 0 I I I (dar hT qk 0 I (v':=.int .i64 (u:Nat)) (by rw[show ((u:Nat):Int)-1+1=((u:Nat):Int) from by omega];exact i64w qo) (dar hT qk 0 I (u64w qo) (dact hT qk 0 I (cl hT 0 I (putUint none 0 [] t (Own.nil _ _) qo (by decide)) ?_)))))))))));rintro v36 K36 hs36 ⟨h36,rfl,rfl,ao36,c36,rfl,o36⟩;rw[List.nil_append] at o36 ⊢;refine dnex [pt b3 #[.int .u64 (t:Nat),.int .i64 (((u:Nat):Int)-1)] 25] (by simp) (by simp) I (dact hT qk 0 I (cl hT 0 I (putUint ao36 c36 (uint t) u o36 qo (by have:=uint_le10 (n:=t) qo;omega)) ?_))
    rintro v41 K41 hs41 ⟨h41,rfl,rfl,ao41,c41,rfl,o41⟩;refine dnex [pt b3 #[.int .u64 (t:Nat),.int .i64 (((u:Nat):Int)-1)] 25] (by simp) (by simp) I (dend hT qk 1 I (th (sq (sq (rg (ldp hT 4 2 I I I (cl hT 1 I (Ct.at2 4 6 I I (saveSH hb' db 0 L.hard hH hb.hard D c oD.ok qo hD qo (uint t++uint u) ao41 c41 qo (.inr ⟨0,I⟩) o41.isS)) ?_)))))));rintro v48 K48 hs48 ⟨hh',dh',rfl,le,hH',hD',rfl⟩;rw[<-hR] at hH' hD' ⊢;refine cl hT 0 I (Ct.at 2 I (didLC lb wb db hb' eb L _ _ _ _)) ?_;rintro v49 K49 hs49 ⟨_,rfl,rfl,rfl,rfl⟩;have ed:didV L.code R.2.2=R.2.2:=by unfold didV;rw[if_pos e2]
    rw[ed];refine cmpS hT 0 I fun b50 h50=>fin hT 0 I (th (ifP h50 I (fun e9=>?_) (fun e9=>?_)))
    ·rw[if_pos e9];refine rg (ldS hT 1 1 I I qk (sts hT 2 2 I I qk (by simp[lgA]) (fun v hv=>by simp at hv;rcases hv with rfl|rfl <;> rfl) (fin hT 0 rfl (th (sq (rg (ldp hT 3 2 rfl rfl rfl (fin hT 1 rfl (th (rt (WQ.drop (WQ.drop (ret1 rfl rfl ⟨le,[_,_,_,_,_,_],rfl,⟨wb,hb',eb,aV,cV,aD,cD,aL,cL,wh,hh',eh,gl,dh',?_,hW.le le,hH',hE.le le,hG.imp fun _ _ h=>h.le le,hD',xV.le le,xD.le le⟩,?_⟩)))))))))))))
     ·rw[e9,<-e2];rfl
     ·show Value.int .i64 R.2.2=_;rw[e9]
    ·rw[if_neg e9];exact sk (th (sq (rg (ldp hT 3 2 I I I (fin hT 1 I (th (rt (WQ.drop (WQ.drop (ret1 I I ⟨le,[_,_,_,_,_,_],I,⟨wb,hb',eb,aV,cV,aD,cD,aL,cL,wh,hh',eh,gl,dh',I,hW.le le,hH',hE.le le,hG.imp fun _ _ h=>h.le le,hD',xV.le le,xD.le le⟩,I⟩))))))))))
end
section
section
variable {P:Program} {w0:World} {fn:Func} {R:Value->PH->List PH->Prop} {n:Nat} {l:Sl} {K:PH} {hs:List PH}
end
section
variable {P:Program} {w0:World} {fn:Func} {R:Value->PH->List PH->Prop} {n:Nat} {l:Sl} {K:PH} {hs hs':List PH} {v:Value}
theorem retmD{e:Exit}(D m:Nat)(hh:hs=hs'++[dfr D])(he:e=.ret\/e=.normal)(hres:∀ a w,Ag n l a->Sat w0 w K hs'->(results fn a.tmps).run P w=.ok v w)(h:R v K (hs'.drop m)):WQX [mkd D] w0 (bodyPostM (fz none) 0 P fn (endR w0 R)) e n l K hs:=by
 subst hh;intro a w ha hw;have h1:Sat w0 (w.putObj D (.deferred none)) K hs':=(hw.putLast (.deferred none)).dropLast;have h2:=run_takeDeferred (P:=P) (hw.last);rcases he with rfl|rfl <;> exact ⟨by simp,.inl ⟨D,_,rfl,h2,v,hres a _ ha h1,v,K,hs'.drop m,rfl,h,h1.dropN m⟩⟩
end
attribute [local irreducible] Code.wp wpList Calls
end
section
theorem app1_step(e:Ent)(r:List Ent)(L:Lg)(D:Dk):Lg.app1 (e::r) L D =
  if (L.w.append e.bytes D).2.2≠0 then ({ L with w:=(L.w.append e.bytes D).1,code:=(L.w.append e.bytes D).2.2 },(L.w.append e.bytes D).2.1,(L.w.append e.bytes D).2.2)
  else Lg.app1 r { L with w:=(L.w.append e.bytes D).1,l:=L.l++[e] } (L.w.append e.bytes D).2.1:=rfl
def entG(e:Ent):Prop:=e.ok/\e.idx<=mxU/\e.term<=mxU
theorem LBd.w1{c:Nat}{L:Lg}(o:LBd c L)(b:List UInt8)(D:Dk)(k:Int):LBd (c+12) { L with w:=(L.w.append b D).1,code:=k }:=
 ⟨o.w.append b D,o.hard,o.head,o.kt,o.kv,o.idx,o.st,o.vot,o.data,by have:=o.place;dsimp only;omega,by have:=o.fr;dsimp only;omega,by have:=o.len;dsimp only;omega,o.ents⟩
theorem LBd.w2{c:Nat}{L:Lg}(o:LBd c L)(b:List UInt8)(D:Dk)(e:Ent)(he:entG e):LBd (c+12) { L with w:=(L.w.append b D).1,l:=L.l++[e] }:=
 ⟨o.w.append b D,o.hard,o.head,o.kt,o.kv,o.idx,o.st,o.vot,o.data,by have:=o.place;dsimp only;omega,by have:=o.fr;dsimp only;omega,by have:=o.len;dsimp only;rw[List.length_append];simp only[List.length_cons,List.length_nil];omega,fun y hy=>by
  rcases List.mem_append.1 hy with hy|hy
  ·exact o.ents y hy
  ·simp at hy;rw[hy];exact he⟩
theorem LBd.app1:∀ (x:List Ent) (L:Lg) (D:Dk) (c:Nat),LBd c L->DOk c D->(∀ e∈x,entG e)->c+12*x.length<=999999990->LBd (c+12*x.length) (Lg.app1 x L D).1/\DOk (c+12*x.length) (Lg.app1 x L D).2.1
 | [],L,D,c,o,d,_,_=>⟨o,d⟩
 | e::r,L,D,c,o,d,hx,hc=>by
  simp only[List.length_cons] at hc;rw[app1_step]
  split
  ·exact ⟨(o.w1 e.bytes D _).up (by simp only[List.length_cons];omega),(d.append o.w qo _).up (by simp only[List.length_cons];omega)⟩
  ·have:=LBd.app1 r _ _ (c+12) (o.w2 e.bytes D e (hx e (by simp))) (d.append o.w qo e.bytes) (fun y hy=>hx y (by simp[hy])) qo;rw[show c+12+12*r.length=c+12*(e::r).length from by simp only[List.length_cons];omega] at this;exact this
theorem fol_ok{i t:Nat}{x:List Ent}(h:fol i t x=0):∀ e∈x,e.ok:=by
 unfold fol at h
 split at h
 ·rename_i h1;simp only[List.all_eq_true,putEnt_ok] at h1;exact h1
 ·cases h
theorem putEnt_eq{e:Ent}(h:e.ok):putEnt e=some e.bytes:=if_pos h
attribute [local irreducible] Code.wp wpList Calls
theorem appendLC{w0:World}{K:PH}{m hs:List PH}(lb db:Nat)(L:Lg)(D:Dk)(c:Nat)(hb:LBd c L)(oD:DOk c D)(hm:LgM K lb db L D m)(ao:Option Addr)(cap:Nat)(x:List Ent)(xs:SlS 4 (EntC K) K ao x.length cap x)(hx:∀ e∈x,entB e)(hc:c+12*x.length<=999999000):
  Ct Tryz.prog w0 33 [.pointer (some ⟨lb,0,none⟩),.slice ao x.length cap] K (m++hs) (fun u K' hs'=>Le K K'/\∃ m',hs'=m'++hs/\LgM K' lb db (L.append x D).1 (L.append x D).2.1 m'/\u=.int .i64 (L.append x D).2.2):=by
 have hm0:=hm;obtain ⟨wb,hb',eb,aV,cV,aD,cD,aL,cL,wh,hh,eh,gl,dh,rfl,hW,hH,hE,hG,hD,xV,xD⟩:=hm;unfold Lg.append;have hidx:=hb.idx;have hlen:=hb.len;unfold lgTop at hidx;refine enter Tryz.func33 qk I I I (sq (rg (fin hT 1 I (th (sq (sq (rg (ldp hT 3 0 I I I (cmpS hT 0 I fun b16 h16=>fin hT 0 I (th (ifP h16 I (fun e2=>?_) (fun e2=>?_))))))))))))
 ·rw[if_pos e2];exact sq (rg (ldp hT 3 0 I I I (fin hT 1 I (th (rt (rT (ret1 I I ⟨Le.refl _,_,I,hm0,I⟩)))))))
 ·rw[if_neg e2];have hcode:=Decidable.not_not.1 e2;refine sk (th (sq (rg (cl hT 2 I (lastLC lb db L D c hb qo hm0) ?_))));rintro v24 K24 hs24 ⟨rfl,rfl,rfl⟩;refine cl hT 0 I (termLC lb db L D c hb qo hm0 _ qo) ?_;rintro v25 K25 hs25 ⟨rfl,rfl,rfl⟩
  have ht:(trm L.sn L.l (L.sn.idx+L.l.length)).1<=mxU:=by
   unfold trm
   split
   ·exact hb.st
   ·split
    ·exact Nat.zero_le _
    ·cases hg:L.l[L.sn.idx+L.l.length-L.sn.idx-1]? with
     | none=>exact Nat.zero_le _
     | some e=>exact (hb.ents e (List.mem_of_getElem? hg)).2.2
  refine fin hT 5 I (th (sq (rg (cl hT 1 I (lastLC lb db L D c hb qo hm0) ?_))));rintro v29 K29 hs29 ⟨rfl,rfl,rfl⟩;refine cl hT 2 I (followLC _ _ (by unfold mxU;omega) ht ao cap x xs hx qo) ?_;rintro v32 K32 hs32 ⟨rfl,rfl,rfl⟩;have el:L.last=L.sn.idx+L.l.length:=rfl;rw[el];refine fin hT 1 I (th (sq (sq (rg (cmpS hT 1 I fun b34 h34=>fin hT 0 I (th (ifP h34 I (fun e4=>?_) (fun e4=>?_))))))))
  ·rw[if_pos e4];exact sq (rg (fin hT 2 I (th (rt (rT (ret1 I I ⟨Le.refl _,_,I,hm0,I⟩))))))
  ·rw[if_neg e4];have hok:=fol_ok (Decidable.not_not.1 e4);obtain ⟨R,hR⟩:∃ R,R=Lg.app1 x L D:=⟨_,rfl⟩;rw[<-hR];obtain ⟨ys,hys⟩:=xs.isS;refine sk (th (sq (sq (rg (fin hT 3 I (th (bk ?_)))))))
   refine loop (σ:=(Nat×Lg×Dk)×List PH×PH) (fun s=>[(0,.pointer (some ⟨lb,0,none⟩)),(36,.slice ao x.length cap),(37,.int .i64 x.length),(38,.int .i64 s.1.1)]) (fun s=>s.2.2) (fun s=>s.2.1++hs)
    (fun s=>s.1.1<=x.length/\Lg.app1 (x.drop s.1.1) s.1.2.1 s.1.2.2=R/\LBd (c+12*s.1.1) s.1.2.1/\DOk (c+12*s.1.1) s.1.2.2/\s.1.2.1.code=0/\Le K32 s.2.2/\LgM s.2.2 lb db s.1.2.1 s.1.2.2 s.2.1) (fun s=>x.length-s.1.1)
    ((0,L,D),[_,_,_,_,_,_],K32) ⟨Nat.zero_le _,hR.symm,hb,oD,hcode,Le.refl _,hm0⟩ ⟨rfl,rfl,rfl,rfl,trivial⟩ rfl rfl ?_
   clear hm0 hW hH hE hG hD xV xD hR hcode h16 h34 e4 e2 ht;clear hidx hlen hb oD;clear el L D;clear wh hh eh gl dh;rintro ⟨⟨j,L,D⟩,m,K1⟩ ⟨hj,hw,hb,oD,hcode,le1,hm⟩;dsimp only at *;obtain ⟨wb,hb',eb,aV,cV,aD,cD,aL,cL,wh,hh,eh,gl,dh,rfl,hW,hH,hE,hG,hD,xV,xD⟩:=id hm;refine sq (rg (cmpS hT 0 I fun b39 h39=>fin hT 0 I (th (sq (ifP h39 I (fun e6=>?_) (fun e6=>?_))))))
   ·have hjx:j<x.length:=by omega
    obtain ⟨e,he⟩:∃ e,x[j]?=some e:=⟨x[j],List.getElem?_eq_getElem hjx⟩;have hem:=List.mem_of_getElem? he;obtain ⟨q1,q2,q3⟩:=hx e hem;have hoke:=hok e hem;obtain ⟨a,rfl⟩:=xs.addr qo (by decide);obtain ⟨cc,⟨ae,ce,rfl,xe⟩,_,hcell⟩:=xs.cells he;rw[List.drop_eq_getElem_cons hjx,show x[j]=e from by rw[List.getElem?_eq_getElem hjx] at he;exact Option.some.inj he,app1_step] at hw;obtain ⟨V,hV⟩:∃ V,V=L.w.append e.bytes D:=⟨_,rfl⟩;have hb1:=hb.w1 e.bytes D V.2.2;have hb2:=hb.w2 e.bytes D e ⟨hoke,q1,q2⟩;have oD1:=oD.append hb.w qo e.bytes;have hll:=hb.len;rw[<-hV] at hb1 hb2 oD1 hw;refine sk (th (sq (bk (sq (rg (ixs hT 0 j I I (hys.le le1) hjx (by decide) fun a40 h40=>?_))))));cases h40;refine lds hT 0 (e.v ae ce).toList I qk (.inl I) (fun j v hv=>(hcell j v hv).le le1) (al hT 0 (.agg #[.int .u64 0,.int .u64 0,.int .i64 0,.slice none 0 0]) I qk fun b9=>stS hT 0 0 I I qk I I (fin hT 0 I (th (sq (rg (ldS hT 0 0 I I qk (cl hT 0 I (putEntC e ae ce q1 q2 (.inl I) (xe.le le1) q3) ?_)))))))
    rintro v44 K44 hs44 ⟨rfl,h44,ao44,c44,rfl,rfl,o44⟩;rw[putEnt_eq hoke] at o44 ⊢;have o44:Own h44 ao44 e.bytes.length c44 5 1 (bv e.bytes):=o44;have hel:=e.bytes_length hoke q1 q2;refine fin hT 5 I (th (sq (sq (rg (ldp hT 4 2 I I I (cl hT 1 I (Ct.at2 3 6 I I (appendWH wb db L.w hW D (c+12*j) oD qo hb.w hD ao44 c44 e.bytes qo (.inr ⟨0,I⟩) o44.isS)) ?_))))));rintro v53 K53 hs53 ⟨wh',dh',rfl,le2,hW',hD',rfl⟩;rw[<-hV] at hW' hD' ⊢;refine cl hT 0 I (Ct.at 2 I (didLC lb wb db hb' eb L _ _ _ _)) ?_;rintro v54 K54 hs54 ⟨_,rfl,rfl,rfl,rfl⟩;have ed:didV L.code V.2.2=V.2.2:=by unfold didV;rw[if_pos hcode]
    rw[ed];refine cmpS hT 0 I fun b55 h55=>fin hT 0 I (th (ifP h55 I (fun e8=>?_) (fun e8=>?_)))
    ·rw[if_pos e8] at hw;refine sq (rg (ldp hT 3 2 I I I (fin hT 1 I (th (rt (rT (rB (rT (rT (rB (rT (WQ.drop (WQ.drop ?_)))))))))))));rw[<-hw];exact ret1 I I ⟨le1.trans le2,[_,_,_,_,_,_],I,⟨wb,hb',eb,aV,cV,aD,cD,aL,cL,wh',hh,eh,gl,dh',I,hW',hH.le le2,hE.le le2,hG.imp fun _ _ h=>h.le le2,hD',xV.le le2,xD.le le2⟩,I⟩
    ·have e8:=Decidable.not_not.1 e8;rw[if_neg (by rw[e8];simp)] at hw;have eL:({ L with code:=V.2.2 }:Lg)=L:=by rw[e8,<-hcode]
     rw[eL];refine sk (th (rga [pt lb (lgA wb db hb' eb L (.slice aV L.sn.vot.length cV) (.slice aD L.sn.data.length cD) (.slice aL L.l.length cL)) 91,pt b9 (e.v ae ce) 46] 11 [0,2,4,6,8,10,13,15,17,18,20,23] (by simp) qk qk (dldpw hT qk 4 0 I qk I I (dldS hT qk 0 1 I qk I qk (dact hT qk 0 I (cl hT 0 I (copiedC e ae ce (.inl I) (xe.le (le1.trans le2)) q3) ?_))))));rintro v66 K66 hs66 ⟨le3,rfl,ao2,c2,rfl,x2⟩;refine dnexL [pt lb (lgA wb db hb' eb L (.slice aV L.sn.vot.length cV) (.slice aD L.sn.data.length cD) (.slice aL L.l.length cL)) 91,pt b9 (e.v ae ce) 46] (by simp) (by simp) le3 (dact hT qk 0 I (lit hT 0 (e.v ao2 c2) I (by decide) qk fun b67=>dnex [pt lb (lgA wb db hb' eb L (.slice aV L.sn.vot.length cV) (.slice aD L.sn.data.length cD) (.slice aL L.l.length cL)) 91,pt b9 (e.v ae ce) 46] (by simp) (by simp) I (dact hT qk 0 I (appSq hT 0 7 (e.v ao2 c2).toList e I I I (hG.imp fun _ _ h=>h.le (le2.trans le3)) ⟨ao2,c2,I,x2⟩ I (by simp[Ent.v,Value.oneCell']) I (by decide) (by show (L.l.length+1)*48<=_;omega) (by simp only[maxLen];omega) fun ao68 c68 g68 o68=>dnex [pt lb (lgA wb db hb' eb L (.slice aV L.sn.vot.length cV) (.slice aD L.sn.data.length cD) (.slice aL L.l.length cL)) 91,pt b9 (e.v ae ce) 46] (by simp) (by simp) rfl (dact hT qk 2 rfl (stp hT 0 3 rfl rfl rfl rfl (dnext (.inl qk) (dend hT qk 0 rfl (bl (th (rg (WL.drop (WL.drop (WL.drop (ar hT 0 rfl (i64w (x:=((j+1:Nat):Int)) qo) ?_)))))))))))))))
     refine fin hT 1 I ?_;have le23:=le2.trans le3;exact again (x:=((j,L,D),[],em)) ((j+1,{ L with w:=V.1,l:=L.l++[e] },V.2.1),[_,_,_,_,_,_],K66) ⟨I,I,I,I,trivial⟩ I I ⟨by dsimp only;omega,hw,hb2.up (by dsimp only;omega),oD1.up (by dsimp only;omega),hcode,le1.trans le23,⟨wb,hb',eb,aV,cV,aD,cD,ao68,c68,wh',hh,eh,g68,dh',by rw[List.length_append];rfl,hW'.le le3,hH.le le23,hE.le le23,by rw[List.length_append];exact o68,hD'.le le3,xV.le le23,xD.le le23⟩⟩ (by dsimp only;omega)
   ·obtain rfl:j=x.length:=by omega
    rw[List.drop_length] at hw;have hw:(L,D,(0:Int))=R:=hw;refine ex (xt (xt (xb (th (sq (rg (fin hT 1 I (th (rt ?_)))))))));rw[<-hw];exact ret1 I I ⟨le1,[_,_,_,_,_,_],I,hm,I⟩
end
section
theorem folR_idx:∀ (x:List Ent) (i t:Nat),folR i t x=0->∀ j e,x[j]?=some e->e.idx=i+j+1
 | [],_,_,_,j,e,h=>by simp at h
 | a::r,i,t,h,j,e,he=>by
  rw[folR] at h
  split at h
  ·cases h
  ·rename_i h1;have ha:a.idx=i+1:=by omega
   cases j with
   | zero=>simp at he;subst he;omega
   | succ j=>
    have:=folR_idx r _ _ h j e (by simpa using he);omega
theorem fol_folR{i t:Nat}{x:List Ent}(h:fol i t x=0):folR i t x=0:=by
 unfold fol at h
 split at h
 ·exact h
 ·cases h
theorem skp_suf(s:Snp)(l:List Ent):∀ (x:List Ent) (b:Bool),(skp s l x b).1 <:+ x
 | [],b=>List.suffix_refl _
 | e::r,b=>by
  unfold skp
  split
  ·exact List.suffix_refl _
  ·exact (skp_suf s l r true).trans<|List.suffix_cons e r
theorem skp_cons(s:Snp)(l:List Ent)(e:Ent)(r:List Ent)(b:Bool):skp s l (e::r) b=if (trm s l e.idx).2=false\/(trm s l e.idx).1≠e.term then (e::r,(trm s l e.idx).2) else skp s l r true:=rfl
theorem lgAt_le(s:Snp)(l:List Ent)(i:Nat):(lgAt s l i).getD 0<=l.length:=by
 cases h:lgAt s l i with
 | none=>exact Nat.zero_le _
 | some k=>have:=lgAt_some h;show k<=_;omega
theorem LBd.wc{c d:Nat}{L:Lg}(o:LBd c L){W:Wl}(h:WBd d W)(hcd:c<=d)(k:Int):LBd d { L with w:=W,code:=k }:=
 ⟨h,o.hard,o.head,o.kt,o.kv,o.idx,o.st,o.vot,o.data,by have:=o.place;dsimp only;omega,by have:=o.fr;dsimp only;omega,by have:=o.len;dsimp only;omega,o.ents⟩
theorem LBd.cutAt{c:Nat}{L:Lg}(o:LBd c L)(i:Nat)(D:Dk):LBd (c+1) (L.cutAt i (L.w.truncate i D).1):=
 ⟨o.w.truncate i D,o.hard,o.head,o.kt,o.kv,o.idx,o.st,o.vot,o.data,by have:=o.place;unfold Lg.cutAt;dsimp only;omega,by have:=o.fr;unfold Lg.cutAt;dsimp only;omega,by have:=o.len;unfold Lg.cutAt;dsimp only;rw[List.length_take];omega,fun y hy=>o.ents y (List.mem_of_mem_take hy)⟩
theorem LBd.append{c:Nat}{L:Lg}(o:LBd c L){D:Dk}(d:DOk c D)(x:List Ent)(hx:∀ e∈x,e.idx<=mxU/\e.term<=mxU)(hc:c+12*x.length<=999999990):LBd (c+12*x.length) (L.append x D).1/\DOk (c+12*x.length) (L.append x D).2.1:=by
 unfold Lg.append
 split
 ·exact ⟨o.up qo,d.up qo⟩
 ·split
  ·exact ⟨o.up qo,d.up qo⟩
  ·rename_i h;have hok:=fol_ok (Decidable.not_not.1 h);exact LBd.app1 x L D c o d (fun e he=>⟨hok e he,hx e he⟩) hc
theorem LBd.merge3{c:Nat}{L:Lg}(o:LBd c L){D:Dk}(d:DOk c D)(x:List Ent)(last:Nat)(hx:∀ e∈x,e.idx<=mxU/\e.term<=mxU)(hc:c+12*x.length<=999999990):LBd (c+12*x.length) (L.merge3 x last D).1/\DOk (c+12*x.length) (L.merge3 x last D).2.1:=by
 have:=o.append d x hx hc;unfold Lg.merge3
 split <;> exact this
theorem LBd.merge2{c:Nat}{L:Lg}(o:LBd c L){D:Dk}(d:DOk c D)(x:List Ent)(last:Nat)(hx:∀ e∈x,e.idx<=mxU/\e.term<=mxU)(hc:c+2+12*x.length<=999999990):LBd (c+2+12*x.length) (L.merge2 x last D).1/\DOk (c+2+12*x.length) (L.merge2 x last D).2.1:=by
 have hsuf:=skp_suf L.sn L.l x true;have hmem:∀ e∈(skp L.sn L.l x true).1,e.idx<=mxU/\e.term<=mxU:=fun e he=>hx e (hsuf.subset he);have hlen:=hsuf.length_le;unfold Lg.merge2
 split
 ·have:=o.merge3 d [] last (by simp) (by simp;omega);exact ⟨this.1.up (by simp;omega),this.2.up (by simp;omega)⟩
 ·rename_i e r h;rw[h] at hmem hlen;have hie:e.idx<18446744073709551616:=by have:=(hmem e (by simp)).1;unfold mxU at this;omega
  have hd2:=d.truncate o.w qo e.idx hie
  split
  ·split
   ·exact ⟨(o.wc (o.w.truncate e.idx D) qo _).up qo,hd2.up qo⟩
   ·have:=((o.cutAt e.idx D).up (show c+1<=c+2 by omega)).merge3 hd2 (e::r) last hmem qo;exact ⟨this.1.up qo,this.2.up qo⟩
  ·have:=o.merge3 d (e::r) last hmem qo;exact ⟨this.1.up qo,this.2.up qo⟩
theorem LBd.merge1{c:Nat}{L:Lg}(o:LBd c L){D:Dk}(d:DOk c D)(i t:Nat)(x:List Ent)(last:Nat)(hx:∀ e∈x,e.idx<=mxU/\e.term<=mxU)(hc:c+2+12*x.length<=999999990):LBd (c+2+12*x.length) (L.merge1 i t x last D).1/\DOk (c+2+12*x.length) (L.merge1 i t x last D).2.1:=by
 unfold Lg.merge1
 split
 ·exact ⟨o.up qo,d.up qo⟩
 ·exact o.merge2 d x last hx hc
theorem LBd.merge{c:Nat}{L:Lg}(o:LBd c L){D:Dk}(d:DOk c D)(i t:Nat)(x:List Ent)(hx:∀ e∈x,e.idx<=mxU/\e.term<=mxU)(hc:c+2+12*x.length<=999999990):LBd (c+2+12*x.length) (L.merge i t x D).1/\DOk (c+2+12*x.length) (L.merge i t x D).2.1:=by
 have h0:LBd (c+2+12*x.length) L/\DOk (c+2+12*x.length) D:=⟨o.up qo,d.up qo⟩;unfold Lg.merge
 split
 ·exact h0
 ·split
  ·exact h0
  ·split
   ·split
    ·exact h0
    ·split
     ·exact h0
     ·have:=o.merge1 d L.sn.idx L.sn.term (x.drop (L.sn.idx-i)) (i+x.length) (fun e he=>hx e (List.mem_of_mem_drop he)) (by rw[List.length_drop];omega);exact ⟨this.1.up (by rw[List.length_drop];omega),this.2.up (by rw[List.length_drop];omega)⟩
   ·exact o.merge1 d i t x _ hx hc
end
section
def okM(r:Nat×Bool×Int):Value:=.tuple #[.int .u64 r.1,.bool r.2.1,.int .i64 r.2.2]
theorem merge2_nil{L:Lg}{x:List Ent}{B:Bool}{last:Nat}{D:Dk}(h:skp L.sn L.l x true=([],B)):L.merge2 x last D=L.merge3 [] last D:=by
 unfold Lg.merge2
 split
 ·rfl
 ·rename_i h2;rw[h] at h2;cases h2
theorem merge2_cons{L:Lg}{x:List Ent}{e:Ent}{r:List Ent}{B:Bool}{last:Nat}{D:Dk}(h:skp L.sn L.l x true=(e::r,B)):L.merge2 x last D=if B=true then
    (if (L.w.truncate e.idx D).2.2≠0 then ({ L with w:=(L.w.truncate e.idx D).1,code:=(L.w.truncate e.idx D).2.2 },(L.w.truncate e.idx D).2.1,0,false,(L.w.truncate e.idx D).2.2)
     else (L.cutAt e.idx (L.w.truncate e.idx D).1).merge3 (e::r) last (L.w.truncate e.idx D).2.1)
   else L.merge3 (e::r) last D:=by
 unfold Lg.merge2
 split
 ·rename_i h2;rw[h] at h2;cases h2
 ·rename_i e' r' h2;rw[h] at h2 ⊢;cases h2
  rfl
attribute [local irreducible] Code.wp wpList Calls
theorem mergeLC{w0:World}{K:PH}{m hs:List PH}(lb db:Nat)(L:Lg)(D:Dk)(c:Nat)(hb:LBd c L)(oD:DOk c D)(hm:LgM K lb db L D m)(i t:Nat)(hi:i<=mxU)(ht:t<=mxU)(ao:Option Addr)(cap:Nat)(x:List Ent)(xs:SlS 4 (EntC K) K ao x.length cap x)(hx:∀ e∈x,entB e)(hc:c+2+12*x.length<=999999000):
  Ct Tryz.prog w0 12 [.pointer (some ⟨lb,0,none⟩),.int .u64 (i:Nat),.int .u64 (t:Nat),.slice ao x.length cap] K (m++hs)
   (fun u K' hs'=>Le K K'/\∃ m',hs'=m'++hs/\LgM K' lb db (L.merge i t x D).1 (L.merge i t x D).2.1 m'/\u=okM (L.merge i t x D).2.2):=by
 have hm0:=hm;obtain ⟨wb,hb',eb,aV,cV,aD,cD,aL,cL,wh,hh,eh,gl,dh,rfl,hW,hH,hE,hG,hD,xV,xD⟩:=hm;have hidx:=hb.idx;have hlen:=hb.len;unfold lgTop at hidx;obtain ⟨R,hR⟩:∃ R,R=L.merge i t x D:=⟨_,rfl⟩;rw[<-hR];unfold Lg.merge at hR;refine enter Tryz.func12 qk I I I (sq (rg (fin hT 3 I (th (sq (sq (rg (ldp hT 3 0 I I I (cmpS hT 0 I fun b21 h21=>fin hT 0 I (th (ifP h21 I (fun e2=>?_) (fun e2=>?_))))))))))))
 ·rw[if_pos e2] at hR;refine sq (rga [pt lb (lgA wb db hb' eb L (.slice aV L.sn.vot.length cV) (.slice aD L.sn.data.length cD) (.slice aL L.l.length cL)) 91] 7 [0,2,4,6,8,10,12] (by simp) qk qk (dldp hT qk 3 0 I I I (dend hT qk 3 I (th (rt (rT ?_))))));rw[hR];exact ret3 I I I I ⟨Le.refl _,[_,_,_,_,_,_],I,hm0,I⟩
 ·rw[if_neg e2] at hR;have hcode:=Decidable.not_not.1 e2;refine sk (th (sq (rg (cl hT 3 I (followLC i t hi ht ao cap x xs hx qo) ?_))));rintro v29 K29 hs29 ⟨rfl,rfl,rfl⟩;refine fin hT 1 I (th (sq (sq (rg (cmpS hT 1 I fun b31 h31=>fin hT 0 I (th (ifP h31 I (fun e4=>?_) (fun e4=>?_))))))))
  ·rw[if_pos e4] at hR;refine sq (rg (fin hT 4 I (th (rt (rT ?_)))));rw[hR];exact ret3 I I I I ⟨Le.refl _,[_,_,_,_,_,_],I,hm0,I⟩
  ·rw[if_neg e4] at hR;have hfol:=fol_folR (Decidable.not_not.1 e4)
   have hlast:i+x.length<=mxU:=by
    rcases Nat.eq_zero_or_pos x.length with h|h
    ·omega
    ·obtain ⟨e,he⟩:∃ e,x[x.length-1]?=some e:=⟨x[x.length-1],List.getElem?_eq_getElem qo⟩;have h1:=folR_idx x i t hfol _ e he;have h2:=(hx e (List.mem_of_getElem? he)).1;omega
   obtain ⟨last,hla⟩:∃ last,last=i+x.length:=⟨_,rfl⟩;rw[<-hla] at hR hlast;unfold mxU at hi ht hlast;refine sk (th (sq (rg (ar hT 3 I (u64w (x:=((x.length:Nat):Int)) qo) (ar hT 0 I (v':=.int .u64 (last:Nat)) (by rw[show ((i:Nat):Int)+((x.length:Nat):Int)=((last:Nat):Int) from by omega];exact u64w qo) ?_)))))
   refine fin hT 1 I (th (jn (σ:=(Nat×Nat×List Ent)×(Option Addr×Nat)) (fun s=>[(0,.pointer (some ⟨lb,0,none⟩)),(1,.int .u64 s.1.1),(2,.int .u64 s.1.2.1),(3,.slice s.2.1 s.1.2.2.length s.2.2),(12,.int .u64 (last:Nat))])
    (fun _=>[pt lb (lgA wb db hb' eb L (.slice aV L.sn.vot.length cV) (.slice aD L.sn.data.length cD) (.slice aL L.l.length cL)) 91,wh,hh,eh,gl,dh]++hs)
    (fun s=>L.merge1 s.1.1 s.1.2.1 s.1.2.2 last D=R/\s.1.1<=18446744073709551615/\SlS 4 (EntC K29) K29 s.2.1 s.1.2.2.length s.2.2 s.1.2.2/\(∀ e∈s.1.2.2,entB e)/\s.1.2.2.length<=x.length) ?_ ?_))
   ·refine sq<|rg (ldp hT 5 0 I I I (cmpS hT 0 I fun b44 h44=>fin hT 0 I<|th (ifP h44 I (fun e6=>?_) (fun e6=>?_))))
    ·rw[if_pos qo] at hR;refine sq (sq (rg (ldp hT 5 0 I I I (cmpS hT 0 I fun b51 h51=>fin hT 0 I (th (ifP h51 I (fun e8=>?_) (fun e8=>?_)))))))
     ·rw[if_pos qo] at hR;refine sq (rg (fin hT 4 I (th (rt (rT (jr ?_))))));rw[hR];exact ret3 I I I I ⟨Le.refl _,[_,_,_,_,_,_],I,hm0,I⟩
     ·rw[if_neg qo] at hR;obtain ⟨y,hy⟩:∃ y,y=x.drop (L.sn.idx-i):=⟨_,rfl⟩;have hyl:y.length=x.length-(L.sn.idx-i):=by rw[hy,List.length_drop]
      have ysl:=xs.cut (L.sn.idx-i) qo;rw[<-hyl,<-hy] at ysl;rw[<-hy] at hR;have hyx:∀ e∈y,entB e:=fun e he=>hx e (by rw[hy] at he;exact List.mem_of_mem_drop he);have hcap:x.length<=cap:=by obtain ⟨_,hh⟩:=xs.isS;exact hh.2.1
      refine sk (th (sq (rg (ldp hT 5 0 I I I (ar hT 1 I (u64s qo qo) (slx hT 0 (L.sn.idx-i) y.length I I (by show ((x.length:Nat):Int)=_;omega) qo (fin hT 1 rfl (th (sq (rga [pt lb (lgA wb db hb' eb L (.slice aV L.sn.vot.length cV) (.slice aD L.sn.data.length cD) (.slice aL L.l.length cL)) 91] 12 [0,2,4,6,8,10,12,14,16,18,20,22] (by simp) qk qk (dldp hT qk 4 0 rfl rfl rfl (dldp hT qk 4 0 rfl rfl rfl (dend hT qk 2 rfl (th (sq (rg ?_))))))))))))))));cases y with
      | nil=>
       rw[if_neg (by simp)] at hR;exact cmp hT 2 I (fun h=>absurd h (by simp)) (fun _=>fin hT 8 I (th (ifF I (sk (jx ((L.sn.idx,L.sn.term,[]),(_,_)) ⟨hR.symm,by dsimp only;omega,ysl,by simp,Nat.zero_le _⟩ ⟨rfl,rfl,rfl,rfl,rfl,trivial⟩ rfl rfl)))))
      | cons e r=>
       obtain ⟨zs,hzs⟩:=ysl.isS;obtain ⟨a,ha⟩:=ysl.addr (by simp) (by decide);have ysl2:=ysl;rw[ha] at ysl2 hzs ⊢;obtain ⟨cc,⟨ae,ce,rfl,xe⟩,_,hcell⟩:=ysl2.cells (i:=0) (x:=e) rfl;refine cmp hT 2 I (fun _=>ixs hT 2 0 I I hzs (by simp) (by decide) fun a77 h77=>?_) (fun h=>absurd (show ((0:Int)<(((e::r).length:Nat):Int)) by simp) h);cases h77;refine ld hT 1 I (.inl I) (hcell 1 _ I) (cmpS hT 1 I fun b81 h81=>fin hT 1 I (th (ifP h81 I (fun e12=>?_) (fun e12=>?_))))
       ·rw[if_pos (by simp;omega)] at hR;refine sq (rg (fin hT 3 I (th (rt (jr ?_)))));rw[hR];exact ret3 I I I I ⟨Le.refl _,[_,_,_,_,_,_],I,hm0,I⟩
       ·rw[if_neg (by simp;omega)] at hR;exact sk (jx ((L.sn.idx,L.sn.term,e::r),(_,_)) ⟨hR.symm,by dsimp only;omega,ysl2,hyx,by dsimp only;omega⟩ ⟨rfl,rfl,rfl,rfl,rfl,trivial⟩ rfl rfl)
    ·rw[if_neg qo] at hR;exact sk (jx ((i,t,x),(ao,cap)) ⟨hR.symm,hi,xs,hx,Nat.le_refl _⟩ ⟨I,I,I,I,I,trivial⟩ I I)
   ·clear hR hfol hla hi ht xs hx e4;clear h31;rintro ⟨⟨i,t,y⟩,⟨ao,cap⟩⟩ ⟨hR,hi,xs,hx,hyl⟩;dsimp only at *;unfold Lg.merge1 at hR;refine sq (rg (cl hT 2 I (termLC lb db L D c hb qo hm0 i qo) ?_));rintro v86 K86 hs86 ⟨rfl,rfl,rfl⟩;obtain ⟨T,hTT⟩:∃ T,T=trm L.sn L.l i:=⟨_,rfl⟩;rw[<-hTT] at hR ⊢;obtain ⟨u,b⟩:=T;dsimp only at hR;refine fin hT 5 I (th (sq (sq (rg (cbS hT 1 (b=false) I (by cases b <;> simp) fun b90 h90=>?_)))))
    refine' bjo (q:=u≠t) hT 1 4 95 [90,91] h90 I I I I I I I (fun _=>?x13) (fun b95 h95=>?_)
    case x13=>
     exact cmpS hT 2 I fun b94 h94=>fin hT 1 I<|bjx (h94.trans qo) I I I
    refine fin hT 0 I<|th (ifP h95 I (fun e15=>?_) (fun e15=>?_))
    ·rw[if_pos e15] at hR;refine sq (rg (cl hT 2 I (backLC lb db L D c hb qo hm0 i qo) ?_));rintro v98 K98 hs98 ⟨rfl,rfl,rfl⟩;refine fin hT 3 I (th (rt (rT ?_)));rw[<-hR];exact ret3 I I I I ⟨Le.refl _,[_,_,_,_,_,_],I,hm0,I⟩
    ·rw[if_neg e15] at hR;obtain ⟨X,B,hXB⟩:∃ X B,skp L.sn L.l y true=(X,B):=⟨_,_,rfl⟩;have hXs:X <:+ y:=by have:=skp_suf L.sn L.l y true;rw[hXB] at this;exact this
     have hXl:=hXs.length_le;have hXe:∀ e∈X,entB e:=fun e he=>hx e (hXs.subset he);obtain rfl:b=true:=by cases b with|true=>rfl|false=>exact absurd (.inl rfl) e15
     refine sk (th (jn (σ:=Option Addr×Nat) (fun s=>[(0,.pointer (some ⟨lb,0,none⟩)),(3,.slice s.1 X.length s.2),(12,.int .u64 (last:Nat)),(14,.bool B)])
      (fun _=>[pt lb (lgA wb db hb' eb L (.slice aV L.sn.vot.length cV) (.slice aD L.sn.data.length cD) (.slice aL L.l.length cL)) 91,wh,hh,eh,gl,dh]++hs)
      (fun s=>SlS 4 (EntC K86) K86 s.1 X.length s.2 X) ?_ ?_))
     ·refine bk ?_
      refine loop (σ:=(List Ent×Bool)×(Option Addr×Nat)) (fun s=>[(0,.pointer (some ⟨lb,0,none⟩)),(3,.slice s.2.1 s.1.1.length s.2.2),(12,.int .u64 (last:Nat)),(14,.bool s.1.2)]) (fun _=>K86)
       (fun _=>[pt lb (lgA wb db hb' eb L (.slice aV L.sn.vot.length cV) (.slice aD L.sn.data.length cD) (.slice aL L.l.length cL)) 91,wh,hh,eh,gl,dh]++hs)
       (fun s=>skp L.sn L.l s.1.1 s.1.2=(X,B)/\SlS 4 (EntC K86) K86 s.2.1 s.1.1.length s.2.2 s.1.1/\(∀ e∈s.1.1,entB e)/\s.1.1.length<=y.length) (fun s=>s.1.1.length)
       ((y,true),(ao,cap)) ⟨hXB,xs,hx,Nat.le_refl _⟩ ⟨rfl,rfl,rfl,rfl,trivial⟩ rfl rfl ?_
      rintro ⟨⟨z,B0⟩,⟨az,cz⟩⟩ ⟨hz,zs,hze,hzl⟩;dsimp only at *;refine sq (sq (rg ?_));cases z with
      | nil=>
       have hz:(([],B0):List Ent×Bool)=(X,B):=hz;cases hz;exact cmp hT 2 I (fun h=>absurd h (by simp)) (fun _=>fin hT 0 I (th (ifF I (ex (xt (xt (xb (jx (az,cz) zs ⟨I,I,I,I,trivial⟩ I I))))))))
      | cons e r=>
       rw[skp_cons] at hz;obtain ⟨ws,hws⟩:=zs.isS;obtain ⟨a,rfl⟩:=zs.addr (by simp) (by decide);obtain ⟨cc,⟨ae,ce,rfl,xe⟩,_,hcell⟩:=zs.cells (i:=0) (x:=e) rfl;obtain ⟨q1,q2,q3⟩:=hze e (by simp);unfold mxU at q1 q2;refine cmp hT 2 I (fun _=>fin hT 0 I (th (ifT I (sk (th (bk (sq (rg (ixs hT 2 0 I I hws (by simp) (by decide) fun a105 h105=>?_))))))))) (fun h=>absurd (show ((0:Int)<(((e::r).length:Nat):Int)) by simp) h);cases h105;refine ld hT 1 I (.inl I) (hcell 0 _ I) (cl hT 0 I (termLC lb db L D c hb qo hm0 e.idx qo) ?_);rintro v108 K108 hs108 ⟨rfl,rfl,rfl⟩;obtain ⟨V,hV⟩:∃ V,V=trm L.sn L.l e.idx:=⟨_,rfl⟩;rw[<-hV] at hz ⊢;obtain ⟨v,b'⟩:=V;dsimp only at hz;refine fin hT 5 I (th (sq (sq (rg (cbS hT 1 (b'=false) I (by cases b' <;> simp) fun b112 h112=>?_)))))
       refine' bjo (q:=v≠e.term) hT 1 7 120 [112,113] h112 I I I I I I I (fun _=>?x18) (fun b120 h120=>?_)
       case x18=>
        refine ixs hT 2 0 I I hws (by simp) (by decide) fun a116 h116=>?_;cases h116;exact ld hT 1 I (.inl I) (hcell 1 _ I) (cmpS hT 0 I fun b119 h119=>fin hT 1 I (bjx (h119.trans qo) I I I))
       refine fin hT 0 I<|th (ifP h120 I (fun e20=>?_) (fun e20=>?_))
       ·rw[if_pos e20] at hz;cases hz;exact ex (xt (xn I (xt (xb (jx (_,cz) zs ⟨I,I,I,I,trivial⟩ I I)))))
       ·rw[if_neg e20] at hz;obtain rfl:b'=true:=by cases b' with|true=>rfl|false=>exact absurd (.inl rfl) e20
        refine sk (th (rg ?_));have hcz:(e::r).length<=cz:=hws.2.1;refine slx hT 1 1 r.length I I (by show (((e::r).length:Nat):Int)=_;simp;omega) (by simp at hcz;omega) (fin hT 1 rfl (bl ?_));have zs2:=zs.cut 1 (by simp);exact again (x:=((e::r,B0),(none,0))) ((r,true),(_,_)) ⟨I,I,I,I,trivial⟩ I I ⟨hz,zs2,fun y hy=>hze y (by simp[hy]),by dsimp only;simp only[List.length_cons] at hzl;omega⟩ (by simp)
     ·clear xs;rintro ⟨az,cz⟩ zs;dsimp only at *;have hR3:∀ (L':Lg) (D':Dk),LBd (c+2) L'->DOk (c+2) D'->True:=fun _ _ _ _=>trivial
      refine jnK (σ:=(Lg×Dk)×List PH×PH) (fun _=>[(0,.pointer (some ⟨lb,0,none⟩)),(3,.slice az X.length cz),(12,.int .u64 (last:Nat))]) (fun s=>s.2.2) (fun s=>s.2.1++hs)
       (fun s=>s.1.1.merge3 X last s.1.2=R/\LBd (c+2) s.1.1/\DOk (c+2) s.1.2/\Le K86 s.2.2/\LgM s.2.2 lb db s.1.1 s.1.2 s.2.1) ?_ ?_
      ·refine sq (rg ?_);cases X with
       | nil=>
        rw[merge2_nil hXB] at hR;exact cmp hT 2 I (fun h=>absurd h (by simp)) (fun _=>fin hT 3 I (th (ifF I (sk (jxK ((L,D),[_,_,_,_,_,_],_) ⟨hR,hb.up qo,oD.up qo,Le.refl _,hm0⟩ ⟨I,I,I,trivial⟩ I I)))))
       | cons e r=>
        rw[merge2_cons hXB] at hR;obtain ⟨q1,q2,q3⟩:=hXe e (by simp);have q1':=q1;unfold mxU at q1 q2;refine cmp hT 2 I (fun _=>?_) (fun h=>absurd (show ((0:Int)<(((e::r).length:Nat):Int)) by simp) h);cases B with
        | false=>
         rw[if_neg (by simp)] at hR;exact fin hT 3 I (th (ifF I (sk (jxK ((L,D),[_,_,_,_,_,_],_) ⟨hR,hb.up qo,oD.up qo,Le.refl _,hm0⟩ ⟨I,I,I,trivial⟩ I I))))
        | true=>
         rw[if_pos rfl] at hR;obtain ⟨ws,hws⟩:=zs.isS;obtain ⟨a,rfl⟩:=zs.addr (by simp) (by decide);obtain ⟨cc,⟨ae,ce,rfl,xe⟩,_,hcell⟩:=zs.cells (i:=0) (x:=e) rfl;obtain ⟨V,hV⟩:∃ V,V=L.w.truncate e.idx D:=⟨_,rfl⟩;have hbc:=hb.cutAt e.idx D;have hdc:=oD.truncate hb.w qo e.idx qo;rw[<-hV] at hR hbc hdc;refine fin hT 3 I (th (ifT I (sq (sq (rga [pt lb (lgA wb db hb' eb L (.slice aV L.sn.vot.length cV) (.slice aD L.sn.data.length cD) (.slice aL L.l.length cL)) 91] 9 [0,2,4,6,8,10,12,14,16,19,21,22] (by simp) qk qk (dldpw hT qk 4 0 I qk I I (dixs hT qk 1 0 I I (by simp) (dldw hT qk 1 I qk (.inl I) (hcell 0 _ I) (dact hT qk 0 I (cl hT 0 I (Ct.at2 1 4 I I (truncWH wb db L.w hW D c oD qo hb.w hD e.idx qo)) ?_))))))))));rintro v138 K138 hs138 ⟨wh',dh',rfl,le2,hW',hD',rfl⟩;rw[<-hV] at hW' hD' ⊢
         refine dnext (.inl qk) (dact hT qk 0 I (cl hT 0 I (didLC lb wb db hb' eb L _ _ _ _) ?_));rintro v139 K139 hs139 ⟨_,rfl,rfl,rfl,rfl⟩;have ed:didV L.code V.2.2=V.2.2:=by unfold didV;rw[if_pos hcode]
         rw[ed];refine dnext (.inl qk) (dcbS hT qk 0 (V.2.2≠0) I (by simp) fun b140 h140=>dend hT qk 0 I (th (ifP h140 I (fun e24=>?_) (fun e24=>?_))))
         ·rw[if_pos e24] at hR;refine sq (rga [pt lb (lgA wb db hb' eb { L with code:=V.2.2 } (.slice aV L.sn.vot.length cV) (.slice aD L.sn.data.length cD) (.slice aL L.l.length cL)) 91] 7 [0,2,4,6,8,10,12] (by simp) qk qk (dldp hT qk 3 0 I I I (dend hT qk 3 I (th (rt (rT (jrK ?_)))))));rw[<-hR];exact ret3 I I I I ⟨le2,[_,_,_,_,_,_],I,⟨wb,hb',eb,aV,cV,aD,cD,aL,cL,wh',hh,eh,gl,dh',I,hW',hH.le le2,hE.le le2,hG.imp fun _ _ h=>h.le le2,hD',xV.le le2,xD.le le2⟩,I⟩
         ·have e24:=Decidable.not_not.1 e24;rw[if_neg (by rw[e24];simp)] at hR;have eL:({ L with code:=V.2.2 }:Lg)=L:=by rw[e24,<-hcode]
          rw[eL]
          have hm2:LgM K139 lb db { L with w:=V.1 } V.2.1 [pt lb (lgA wb db hb' eb L (.slice aV L.sn.vot.length cV) (.slice aD L.sn.data.length cD) (.slice aL L.l.length cL)) 91,wh',hh,eh,gl,dh']:=
           ⟨wb,hb',eb,aV,cV,aD,cD,aL,cL,wh',hh,eh,gl,dh',rfl,hW',hH.le le2,hE.le le2,hG.imp fun _ _ h=>h.le le2,hD',xV.le le2,xD.le le2⟩
          have hbw:LBd (c+1) { L with w:=V.1 }:=by have:=hb.wc (hb.w.truncate e.idx D) (Nat.le_succ c) L.code;rw[<-hV] at this;exact this
          refine sk (th (sq (rg (ixs hT 2 0 I I (hws.le le2) (by simp) (by decide) fun a148 h148=>?_))));cases h148;refine ld hT 1 I (.inl I) ((hcell 0 _ I).le le2) (cl hT 0 I (atLC lb db { L with w:=V.1 } V.2.1 (c+1) hbw qo hm2 e.idx qo) ?_);rintro v151 K151 hs151 ⟨rfl,rfl,rfl⟩;have hkl:=lgAt_le L.sn L.l e.idx;obtain ⟨k,hk⟩:∃ k,k=(lgAt L.sn L.l e.idx).getD 0:=⟨_,rfl⟩;have hcG:=hG.caps;refine fin hT 5 I (th (rg (ldp hT 4 0 I I I ?_)));rw[<-hk] at hkl;refine slx hT 1 0 k I I (by show (((lgAt L.sn L.l e.idx).getD 0:Nat):Int)=_;rw[<-hk];simp) qo (stp hT 2 0 rfl rfl rfl rfl ?_);obtain ⟨gl3,hg3,hG3⟩:=hG.cut 0 k qo;refine fin hT 0 I (WQ.loss 4 gl3 I hg3 ?_);have hln:(L.l.take k).length=k:=by rw[List.length_take];omega
          refine jxK ((L.cutAt e.idx V.1,V.2.1),[_,_,_,_,_,_],_) ⟨hR,hbc.up qo,hdc,le2,⟨wb,hb',eb,aV,cV,aD,cD,cutA aL cL 0 4,cL-0,wh',hh,eh,gl3,dh',?_,hW',hH.le le2,hE.le le2,?_,hD',xV.le le2,xD.le le2⟩⟩ ⟨I,I,I,trivial⟩ I I
          ·unfold Lg.cutAt;dsimp only;rw[<-hk,hln];rfl
          ·unfold Lg.cutAt;dsimp only;rw[<-hk,hln];have:=hG3.imp (R':=EntC K151) fun _ _ h=>h.le le2
           rwa [List.drop_zero] at this
      ·clear hR;rintro ⟨⟨L',D'⟩,m',K'⟩ ⟨hR,hb2,oD2,le2,hm2⟩;dsimp only at *;unfold Lg.merge3 at hR;refine sq (rg (cl hT 2 I (appendLC lb db L' D' (c+2) hb2 oD2 hm2 az cz X (zs.le le2 fun _ _ h=>h.le le2) hXe qo) ?_));rintro v165 K165 hs165 ⟨le3,m3,rfl,hm3,rfl⟩;refine fin hT 1 I (th (sq (sq (rg (cmpS hT 1 I fun b167 h167=>fin hT 0 I (th (ifP h167 I (fun e26=>?_) (fun e26=>?_))))))))
       ·rw[if_pos e26] at hR;refine sq (rg (fin hT 4 I (th (rt (rT ?_)))));rw[<-hR];exact ret3 I I I I ⟨le2.trans le3,m3,I,hm3,I⟩
       ·rw[if_neg e26] at hR;refine sk (th (sq (rg (fin hT 4 I (th (rt ?_))))));rw[<-hR];exact ret3 I I I I ⟨le2.trans le3,m3,I,hm3,I⟩
end
section
def chk1(ao:Option Addr)(n i:Nat):List Value:=[.slice (cutA ao (64*i+min 64 (n-64*i)) (64*i) 1) (min 64 (n-64*i)) (min 64 (n-64*i))]
def chk(ao:Option Addr)(n:Nat):List (List Value):=(List.range ((n+63) / 64)).map (chk1 ao n)
theorem chk_len(ao:Option Addr)(n:Nat):(chk ao n).length=(n+63) / 64:=by simp[chk]
theorem chk_get(ao:Option Addr){n i:Nat}(h:i<(n+63) / 64):(chk ao n)[i]?=some (chk1 ao n i):=by simp[chk,h]
theorem IsS.sub3{h:PH}{ao:Option Addr}{n cap:Nat}{xs:List Value}(x:IsS h ao n cap 1 xs)(L N:Nat)(hN:L+N<=n):IsS h (cutA ao (L+N) L 1) N N 1 ((xs.drop L).take N):=by
 have hl:xs.length=n:=by have:=x.1;omega
 rcases Nat.eq_zero_or_pos N with h0|h0
 ·subst h0;rw[List.take_zero];exact IsS.nil _ _ _ _
 ·refine ⟨by rw[List.length_take,List.length_drop];omega,Nat.le_refl _,fun j v hv=>?_⟩;have hj:j<N:=by have:=(List.getElem?_eq_some_iff.1 hv).1;rw[List.length_take] at this;omega
  rw[List.getElem?_take_of_lt hj,List.getElem?_drop] at hv;obtain ⟨a,rfl,hc⟩:=x.2.2 _ v hv;refine ⟨a.add (L*1),by rw[cutA,if_neg qo];rfl,?_⟩;rw[Deep.add_add,Nat.mul_one];exact hc
attribute [local irreducible] Code.wp wpList Calls
section joinx
variable {P:Program} {w0:World} {Q:Exit->Act->World->Prop} {n:Nat} {l:Sl} {K:PH} {hs:List PH} {r:Option Nat} {ds:List Deferred}
def JZ(ds:List Deferred)(w0:World){σ:Type}(F:σ->Sl)(HK:σ->PH)(H:σ->List PH)(J:σ->Prop)(n:Nat)(Q:Exit->Act->World->Prop):Exit->Act->World->Prop
 | .normal,a',w=>∃ s a,J s/\a'=wd ds a/\Ag n (F s) a/\Sat w0 w (HK s) (H s)
 | e,a,w=>Q e a w
theorem jnZ{σ:Type}{x y:Code}(F:σ->Sl)(HK:σ->PH)(H:σ->List PH)(J:σ->Prop)(h1:WX P w0 r ds x (JZ ds w0 F HK H J n Q) n l K hs)(h2:∀ s,J s->WX P w0 r ds y Q n (F s) (HK s) (H s)):WX P w0 r ds (.seq x y) Q n l K hs:=
 sqX fun a w ha hw=>wpIn_mono (h1 a w ha hw) (fun e a w h=>by
  cases e with
  | normal=>obtain ⟨s,a1,hJ,rfl,ha,hw⟩:=h;exact h2 s hJ a1 w ha hw
  | _=>exact h)
theorem jxZ{σ:Type}{F:σ->Sl}{HK:σ->PH}{H:σ->List PH}{J:σ->Prop}(s:σ)(hJ:J s)(hF:Sub l (F s))(hK:K=HK s)(hH:hs=H s):WQX ds w0 (JZ ds w0 F HK H J n Q) .normal n l K hs:=
 fun a w ha hw=>⟨s,a,hJ,rfl,ha.sub hF,by rw[<-hK,<-hH];exact hw⟩
end joinx
theorem ents_one{K:PH}:∀ {css:List (List Value)} {l:List Ent},Al2 (EntC K) css l->∀ u∈css.flatten,u.oneCell'=true
 | [],[],_,u,hu=>by simp at hu
 | c::css,x::l,h,u,hu=>by
  rw[List.flatten_cons,List.mem_append] at hu;rcases hu with hu|hu
  ·obtain ⟨ao,cap,rfl,_⟩:=h.1;simp[Ent.v] at hu;rcases hu with rfl|rfl|rfl|rfl <;> rfl
  ·exact ents_one h.2 u hu
 | _::_,[],h,_,_=>h.elim
 | [],_::_,h,_,_=>h.elim
theorem chunkC{w0:World}{K:PH}{hs:List PH}(ao:Option Addr)(n c:Nat):Ct Tryz.prog w0 128 [.slice ao n c,.int .i64 64] K hs
  (fun v K' hs'=>Le K K'/\hs'=hs/\∃ b2 b3,v=.func (.func 149) #[] #[.pointer (some ⟨b2,0,none⟩),.pointer (some ⟨b3,0,none⟩)]/\Cell K' ⟨b2,0,none⟩ (.slice ao n c)/\Cell K' ⟨b3,0,none⟩ (.int .i64 64)):=by
 exact enter Tryz.func128 qk I I I<|sq (rg (bx hT 0 I fun b2=>bx hT 0 I fun b3=>fin hT 1 I<|th (sq<|sq (rg<|ldp hT 0 0 I I I (cmp hT 0 I (fun h=>absurd h (by decide)) (fun _=>fin hT 0 I<|th (ifF I<|sk (th<|sq (rg<|fin hT 2 I (th<|rt (WQ.frz fun K1 l1 l2=>WQ.frz fun K2 l3 l4=>ret1 I I ⟨l1.trans l3,I,b2,b3,I,(Cell.pt I).le l4,((Cell.pt I).le l2).le l3⟩)))))))))))
theorem chunkI{w0:World}(b2 b3:Nat)(ao:Option Addr)(n c:Nat)(hn:n<=1099511627776)(hnc:n<=c):ItCt Tryz.prog w0 149 [.pointer (some ⟨b2,0,none⟩),.pointer (some ⟨b3,0,none⟩)] (chk ao n)
  (fun K _=>Cell K ⟨b2,0,none⟩ (.slice ao n c)/\Cell K ⟨b3,0,none⟩ (.int .i64 64)):=by
 intro L St Sp hRd hY K hs h0;refine enterX Tryz.func149 qk I I I (sqX (rgX (fin hT 1 I (nxX (thX (bkX (loopX (σ:=Nat×PH×List PH) (fun s=>[(0,.func (.yield L) #[] #[]),(1,.pointer (some ⟨b2,0,none⟩)),(2,.pointer (some ⟨b3,0,none⟩)),(4,.int .i64 (64*s.1:Nat))]) (fun s=>s.2.1) (fun s=>s.2.2) (fun s=>s.1<=(n+63) / 64/\St s.1 s.2.1 s.2.2) (fun s=>(n+63) / 64-s.1) (0,K,hs) ⟨Nat.zero_le _,h0⟩ ⟨I,I,I,I,trivial⟩ I I ?_)))))));rintro ⟨i,K,hs⟩ ⟨hi,hst⟩;dsimp only at *;obtain ⟨c1,c2⟩:=hRd i K hs hst;refine sqX (sqX (rgX (ld hT 1 I (.inl I) c1 (cmpS hT 1 I fun b9 h9=>fin hT 0 I (nxX (thX (ifPX h9 I (fun e2=>?_) (fun e2=>?_))))))))
 ·have hil:i<(n+63) / 64:=by omega
  obtain ⟨N,hN⟩:∃ N,N=min 64 (n-64*i):=⟨_,rfl⟩;refine skX (thX (sqX (bkX (sqX (rgaX [] 7 [0,2,4,6,8,10,12] (by simp) qk qk (dld hT qk 0 I (.inl I) c2 (dld hT qk 0 I (.inl I) c1 (dslx hT qk 1 (64*i) (n-64*i) I I I (by show ((n:Nat):Int)=_;omega) qo ?_))))))))
  refine dar hT qk 1 I (v':=.int .i64 (N:Nat)) (by
   congr 1
   rw[hN]
   split <;> omega) ?_
  refine dend hT qk 1 I<|nxX (thX<|sqX (rgI<|WLI.cut 10 (ld hT 1 I (.inl I) c1<|ar hT 3 I (i64w (x:=((64*i+N:Nat):Int)) qo) (ar hT 2 I (i64w (x:=((64*i+N:Nat):Int)) qo)<|sl3g hT 0 (64*i) N (64*i+N) I I I I (Nat.le_refl _) qo (fin hT 0 I<|cutX ?_)))))
  have hv:(chk ao n)[i]?=some [.slice (cutA ao (64*i+N) (64*i) 1) N (64*i+N-64*i)]:=by
   rw[chk_get ao hil,chk1,<-hN,Nat.add_sub_cancel_left]
  refine yld I (hY i _ K hs hv hst) ?_;rintro v17 K17 hs17 (⟨rfl,hn'⟩|⟨rfl,hp⟩)
  ·refine WLI.fin (fin hT 1 I (nxX (thX (ifFX I (skX (blX (thX (rgX ?_))))))));obtain ⟨c1',c2'⟩:=hRd (i+1) K17 hs17 hn';exact ld hT 1 I (.inl I) c2' (ar hT 0 I (v':=.int .i64 ((64*(i+1):Nat):Int)) (by rw[i64w qo];congr 1) (fin hT 1 rfl (nxX (againX (x:=(i,K,hs)) (i+1,K17,hs17) ⟨rfl,rfl,rfl,rfl,trivial⟩ rfl rfl ⟨by dsimp only;omega,hn'⟩ (by dsimp only;omega)))))
  ·exact WLI.fin<|fin hT 1 I (nxX<|thX (ifTX I<|rtX (rBX<|rTX (rTX<|rBX (ret0X I (.inr hp))))))
 ·refine exX (xtX (xtX (xbX ?_)));obtain rfl:i=(n+63) / 64:=by omega
  exact end0X I (.inl (by rw[chk_len];exact hst))
theorem cloneEC{w0:World}{K hv:PH}{hs:List PH}(ao:Option Addr)(n c:Nat)(l:List Ent)(hm:In K hs hv)(x:SlS 4 (EntC K) hv ao n c l)(hl:n<=1000000000000):Ct Tryz.prog w0 129 [.slice ao n c] K hs
  (fun v K' hs'=>K'=K/\∃ h' ao' c',hs'=h'::hs/\v=.slice ao' n c'/\SlZ 4 46 (EntC K) h' ao' n c' l):=by
 cases ao with
 | none=>
  obtain rfl:n=0:=by
   rcases Nat.eq_zero_or_pos n with h|h
   ·exact h
   ·obtain ⟨a,ha⟩:=x.addr h (by decide);cases ha
  have hl0:l=[]:=List.eq_nil_of_length_eq_zero x.len.symm;subst hl0;exact enter Tryz.func129 qk I I I (sq (rg (fin hT 1 I (th (sq (sq (rg (cbS hT 1 True I (by simp) fun b4 h4=>fin hT 0 I (th (ifP h4 I (fun e2=>sq (rg (fin hT 1 I (th (rt (rT (WQ.em (ret1 I I ⟨I,em,none,0,I,I,SlZ.nil _ _⟩)))))))) (fun e2=>absurd trivial e2)))))))))))
 | some a=>
  obtain rfl:=x.len;obtain ⟨css,hn,hS,hal,hcl⟩:=x;refine enter Tryz.func129 qk I I I (sq (rg (fin hT 1 I (th (sq (sq (rg (cbS hT 1 False I (by simp) fun b4 h4=>fin hT 0 I (th (ifP h4 I (fun e2=>e2.elim) (fun e2=>sk (th (sq (rg (lit hT 0 #[] I (by decide) qk fun b5=>app hT 1 0 I I (Own.ofPt (c:=#[]) (n:=0) (by simp) (by simp[maxLen])) (In.cons hm) hS I (by decide) (ents_one hal) (by show (0+l.length)*48<=_;omega) (by simp[maxLen];omega) fun ao7 c7 g7 o7=>fin hT 1 rfl (th (rt ?_)))))))))))))))));have e:0+l.length=l.length:=Nat.zero_add _;rw[e] at o7;exact ret1 I (by rw[e];rfl) ⟨rfl,g7,ao7,c7,rfl,rfl,css,rfl,.inl (by simpa using o7),hal,hcl⟩
end
section
theorem res_c1{P:Program}{w0:World}{fn:Func}{n:Nat}{l:Sl}{K:PH}{hs:List PH}{T:Tab}(hT:TabOK P T)(j:Nat){u tu b2 ty2:Nat}{k:UK}{x:Value}{fr2:Nat×Nat}(hr:fn.results=#[.cell u tu])(hu:look l u=some (.pointer (some ⟨b2,0,none⟩)))(hj:hs[j]?=some (pt b2 #[x] ty2 fr2))
  (hk:asc T.kinds tu=some k) (h1:k.one=true):∀ a w,Ag n l a->Sat w0 w K hs->(results fn a.tmps).run P w=.ok x w:=by
 intro a w ha hw
 have h3:(loadVar tu ⟨b2,0,none⟩).run P w=.ok x w:=by
  have:=run_load1 (P:=P) (w:=w) hT hk h1 (a:=⟨b2,0,none⟩) (v:=x) (hw.cell (.inr ⟨j,hj⟩) (Cell.pt rfl));simpa[Instr.loadAt,Instr.sureAddr] using this
 simp[results,hr,ha.slot u _ hu,asAddr,h3]
theorem lgW_step(place f n:Nat)(b:List UInt8)(D:Dk):lgW place (f+1) n b D=if b=[] then (D,0)
  else if (D.write (lgA4 place) n (b.take 64)).2≠0 then D.write (lgA4 place) n (b.take 64)
  else lgW place f (n+1) (b.drop 64) (D.write (lgA4 place) n (b.take 64)).1:=rfl
attribute [local irreducible] Code.wp wpList Calls
theorem layLC{w0:World}{K:PH}{m hs:List PH}(lb db:Nat)(L:Lg)(D:Dk)(c:Nat)(hb:LBd c L)(hc:c<=999000000)(oD:DOk c D)(hm:LgM K lb db L D m)(hcode:L.code=0)(s:Snp)(hsi:s.idx<=lgTop)(hlt:L.sn.idx<s.idx)(hst:s.term<=mxU)(hsd:s.data.length<=2097152)(hsv:s.vot.length<=1000)
  (aS:Option Addr) (cS:Nat) (aT:Option Addr) (cT:Nat) (xS:IsS K aS s.vot.length cS 1 (iv s.vot)) (xT:IsS K aT s.data.length cT 1 (bv s.data)) (fr:Nat) (hfr:fr<18446744073709551616):
  Ct Tryz.prog w0 82 [.pointer (some ⟨lb,0,none⟩),.agg (snV s aS cS aT cT),.int .u64 (fr:Nat)] K (m++hs)
   (fun u K' hs'=>Le K K'/\∃ m',hs'=m'++hs/\LgM K' lb db (L.lay s fr D).1 (L.lay s fr D).2.1 m'/\u=.int .i64 (L.lay s fr D).2.2):=by
 have hm0:=hm;obtain ⟨wb,hb',eb,aV,cV,aD,cD,aL,cL,wh,hh,eh,gl,dh,rfl,hW,hH,hE,hG,hD,xV,xD⟩:=hm;have hpl:=hb.place;have hlen:=hb.len;have hidx:=hb.idx;unfold lgTop at hpl hidx hsi;obtain ⟨pl,hplE⟩:∃ pl,pl=L.place+1:=⟨_,rfl⟩;obtain ⟨R0,hR0⟩:∃ R0,R0=lgW pl (s.data.length+1) 0 s.data D:=⟨_,rfl⟩;obtain ⟨R,hR⟩:∃ R,R=L.lay s fr D:=⟨_,rfl⟩;rw[<-hR];unfold Lg.lay at hR;rw[<-hplE,<-hR0] at hR;have hcapT:s.data.length<=cT:=xT.2.1;refine enterX Tryz.func82 qk I I I (sqX (rgX (bx hT 0 I fun b3=>bx hT 0 I fun b4=>al hT 0 (.int .i64 0) I qk fun b6=>fin hT 0 I (nxX (thX (sqX (rgX (ldp hT 0 2 I I I (ldp hT 2 3 I I I (fin hT 1 I (nxX (thX (sqX (rgX (ar hT 1 I (v':=.int .u64 (pl:Nat)) (by rw[show ((L.place:Nat):Int)+1=((pl:Nat):Int) from by omega];exact u64w qo) (al hT 0 (.int .u64 0) I qk fun b8=>stp hT 0 0 I I I I ?_))))))))))))))))
 refine fin hT 0 I (nxX (thX (sqX (rgX (al hT 0 (.int .i64 0) I qk fun b9=>stp hT 0 0 I I I I (WL.hs (pt b9 #[.int .i64 0] 3::pt b8 #[.int .u64 (pl:Nat)] 23::pt b6 #[.int .i64 0] 42::pt b4 (snV s aS cS aT cT) 32::pt b3 #[.pointer (some ⟨lb,0,none⟩)] 35::pt lb (lgA wb db hb' eb L (.slice aV L.sn.vot.length cV) (.slice aD L.sn.data.length cD) (.slice aL L.l.length cL)) 91::wh::hh::eh::gl::dh::hs) I (fin hT 0 I (nxX (thX (sqX (sqX (rgX (ldp hT 1 3 I I I (cl hT 0 I (chunkC aT s.data.length cT) ?_))))))))))))));rintro v26 K1 hs26 ⟨le1,rfl,d2,d3,rfl,k2,k3⟩;refine fin hT 0 I (nxX (thX (bkX ?_)))
 refine rgf [.pointer (some ⟨d2,0,none⟩),.pointer (some ⟨d3,0,none⟩)] (chk aT s.data.length) (fun K _=>Cell K ⟨d2,0,none⟩ (.slice aT s.data.length cT)/\Cell K ⟨d3,0,none⟩ (.int .i64 64)) I (chunkI d2 d3 aT s.data.length cT qo hcapT) qk (fun vs hv=>?_) I
  (fun i K' hs'=>Le K1 K'/\∃ D' dh',hs'=pt b9 #[.int .i64 (i:Nat)] 3::pt b8 #[.int .u64 (pl:Nat)] 23::pt b6 #[.int .i64 0] 42::pt b4 (snV s aS cS aT cT) 32::pt b3 #[.pointer (some ⟨lb,0,none⟩)] 35::pt lb (lgA wb db hb' eb L (.slice aV L.sn.vot.length cV) (.slice aD L.sn.data.length cD) (.slice aL L.l.length cL)) 91::wh::hh::eh::gl::dh'::hs /\
   lgW pl (s.data.length+1-i) i (s.data.drop (64*i)) D'=R0/\DOk (c+i) D'/\DskH K' db D' dh')
  (fun cc K' hs'=>cc=.ret/\Le K1 K'/\R0.2≠0/\∃ x dh',hs'=x::pt b8 #[.int .u64 (pl:Nat)] 23::pt b6 #[.int .i64 R0.2] 42::pt b4 (snV s aS cS aT cT) 32::pt b3 #[.pointer (some ⟨lb,0,none⟩)] 35::pt lb (lgA wb db hb' eb { L with code:=R0.2 } (.slice aV L.sn.vot.length cV) (.slice aD L.sn.data.length cD) (.slice aL L.l.length cL)) 91::wh::hh::eh::gl::dh'::hs/\DskH K' db R0.1 dh')
  ⟨Le.refl _,D,dh,rfl,hR0.symm,oD,hD.le le1⟩ (fun i K' hs' t u h=>⟨k2.le h.1,k3.le h.1⟩) ?_ ?_ ?_
 ·obtain ⟨y,_,rfl⟩:=List.mem_map.1 hv
  rfl
 ·rintro LL i vs K' hs' t u hvs ⟨le2,D',dh',rfl,hw,oD',hD'⟩;have hi:i<(s.data.length+63) / 64:=by have:=(List.getElem?_eq_some_iff.1 hvs).1;rw[chk_len] at this;exact this
  rw[chk_get aT hi] at hvs;cases hvs;obtain ⟨b,hbE⟩:∃ b,b=(s.data.drop (64*i)).take 64:=⟨_,rfl⟩;have hbl:b.length=min 64 (s.data.length-64*i):=by rw[hbE,List.length_take,List.length_drop]
  have hb0:s.data.drop (64*i)≠[]:=fun h=>by have:=congrArg List.length h;rw[List.length_drop] at this;simp at this;omega
  have xb:IsS K' (cutA aT (64*i+b.length) (64*i) 1) b.length b.length 1 (bv b):=by
   have:=(xT.le (le1.trans le2)).sub3 (64*i) b.length qo
   have e:((bv s.data).drop (64*i)).take b.length=bv b:=by
    rw[hbE];simp[bv]
   rwa [e] at this
  obtain ⟨f,hf⟩:∃ f,s.data.length+1-i=f+1:=⟨s.data.length-i,by omega⟩;obtain ⟨E,hE'⟩:∃ E,E=D'.write (lgA4 pl) i b:=⟨_,rfl⟩;have oE:=oD'.write (lgA4 pl) i b (by unfold lgA4;omega);rw[hf,lgW_step,if_neg hb0,<-hbE,<-hE'] at hw;rw[<-hE'] at oE;rw[chk1,<-hbl];refine rgX (fin hT 1 I (nxX (asgX (hs':=pt b9 #[.int .i64 (i:Nat)] 3::pt b8 #[.int .u64 (pl:Nat)] 23::pt b6 #[.int .i64 0] 42::pt b4 (snV s aS cS aT cT) 32::pt b3 #[.pointer (some ⟨lb,0,none⟩)] 35::pt lb (lgA wb db hb' eb L (.slice aV L.sn.vot.length cV) (.slice aD L.sn.data.length cD) (.slice aL L.l.length cL)) 91::wh::hh::eh::gl::dh'::hs) I fun u=>bkX (sqX (sqX (rgaX [pt b3 #[.pointer (some ⟨lb,0,none⟩)] 35,pt lb (lgA wb db hb' eb L (.slice aV L.sn.vot.length cV) (.slice aD L.sn.data.length cD) (.slice aL L.l.length cL)) 91,pt b8 #[.int .u64 (pl:Nat)] 23,pt b9 #[.int .i64 (i:Nat)] 3] 10 [0,2,4,6,8,10,14,16,13,19,21,22] (by simp) qk qk (dldtp [] hT qk 0 0 I qk I I (dldtp [9,4,3,2] hT qk 0 0 I qk I I (dldtp [9] hT qk 2 1 I qk I I (dldtp [9,6] hT qk 0 2 I qk I I (dldtp [9] hT qk 0 3 I qk I I (dact hT qk 1 I (cl hT 0 I (areaLC pl qo) ?_)))))))))))))
  rintro v34 K34 hs34 ⟨rfl,rfl,rfl⟩;refine dnex [pt b3 #[.pointer (some ⟨lb,0,none⟩)] 35,pt lb (lgA wb db hb' eb L (.slice aV L.sn.vot.length cV) (.slice aD L.sn.data.length cD) (.slice aL L.l.length cL)) 91,pt b8 #[.int .u64 (pl:Nat)] 23,pt b9 #[.int .i64 (i:Nat)] 3] (by simp) (by simp) I (dact hT qk 0 I (cl hT 0 I (Ct.at 10 I (writeH db D' (c+i) oD'.ok qo hD' (lgA4 pl) i (by unfold lgA4;omega) _ b.length b (.inl rfl) xb)) ?_));rintro v37 K37 hs37 ⟨dh2,rfl,le3,hD2,rfl⟩;rw[<-hE'] at hD2 ⊢;refine dnexL [pt b3 #[.pointer (some ⟨lb,0,none⟩)] 35,pt lb (lgA wb db hb' eb L (.slice aV L.sn.vot.length cV) (.slice aD L.sn.data.length cD) (.slice aL L.l.length cL)) 91,pt b8 #[.int .u64 (pl:Nat)] 23,pt b9 #[.int .i64 (i:Nat)] 3] (by simp) (by simp) le3 (dact hT qk 0 I (cl hT 0 I (Ct.at 5 I (didLC lb wb db hb' eb L _ _ _ _)) ?_));rintro v38 K38 hs38 ⟨_,rfl,rfl,rfl,rfl⟩;have ed:didV L.code E.2=E.2:=by unfold didV;rw[if_pos hcode]
  rw[ed];refine dnext (.inl qk) (dcbS hT qk 0 (E.2≠0) I (by simp) fun b39 h39=>dend hT qk 0 I (nxX (thX (ifPX h39 I (fun e1=>?_) (fun e1=>?_)))))
  ·rw[if_pos e1] at hw;refine sqX (rgX (ldp hT 0 4 I I I (ldp hT 2 5 I I I (stp hT 0 2 I I I I (fin hT 0 I (nxX (thX (rtX (rTX (rBX (jmpR (hs':=pt b9 #[.int .i64 (i:Nat)] 3::pt b8 #[.int .u64 (pl:Nat)] 23::pt b6 #[.int .i64 E.2] 42::pt b4 (snV s aS cS aT cT) 32::pt b3 #[.pointer (some ⟨lb,0,none⟩)] 35::pt lb (lgA wb db hb' eb { L with code:=E.2 } (.slice aV L.sn.vot.length cV) (.slice aD L.sn.data.length cD) (.slice aL L.l.length cL)) 91::wh::hh::eh::gl::dh2::hs) I ?_)))))))))));rw[<-hw];exact ⟨I,le2.trans le3,e1,_,dh2,I,hD2⟩
  ·have e1:=Decidable.not_not.1 e1;rw[if_neg (by rw[e1];simp)] at hw;have eL:({ L with code:=E.2 }:Lg)=L:=by rw[e1,<-hcode]
   rw[eL];refine skX (thX (rgX (ldp hT 0 0 I I I (ar hT 0 I (i64w (x:=((i+1:Nat):Int)) qo) (stp hT 0 0 I I I I (fin hT 0 I (nxX (blX (rndX (hs':=pt b9 #[.int .i64 (i+1:Nat)] 3::pt b8 #[.int .u64 (pl:Nat)] 23::pt b6 #[.int .i64 0] 42::pt b4 (snV s aS cS aT cT) 32::pt b3 #[.pointer (some ⟨lb,0,none⟩)] 35::pt lb (lgA wb db hb' eb L (.slice aV L.sn.vot.length cV) (.slice aD L.sn.data.length cD) (.slice aL L.l.length cL)) 91::wh::hh::eh::gl::dh2::hs) I (⟨le2.trans le3,E.1,dh2,I,?_,oE,hD2⟩))))))))));rw[List.drop_drop] at hw;rw[show s.data.length+1-(i+1)=f from by omega,show 64*(i+1)=64*i+64 from by omega];exact hw
 ·rintro DD K2 hs' ⟨le2,D',dh',rfl,hw,oD1,hD'⟩;rw[chk_len] at hw oD1;have hdr:s.data.drop (64*((s.data.length+63) / 64))=[]:=List.drop_eq_nil_of_le qo;obtain ⟨f,hf⟩:∃ f,s.data.length+1-(s.data.length+63) / 64=f+1:=⟨s.data.length-(s.data.length+63) / 64,by omega⟩;rw[hdr,hf,lgW_step,if_pos rfl] at hw;rw[<-hw] at hR;rw[if_neg (by simp)] at hR;dsimp only at hR;unfold Lg.lay1 at hR;rw[<-hplE] at hR;have le12:=le1.trans le2;obtain ⟨c1,hc1⟩:∃ c1,c1=c+(s.data.length+63) / 64:=⟨_,rfl⟩;rw[<-hc1] at oD1;have hc1b:c1<=c+32768:=by omega
  obtain ⟨E,hEE⟩:∃ E,E=D'.sync (lgA4 pl):=⟨_,rfl⟩;have oE:=oD1.sync (lgA4 pl);rw[<-hEE] at hR oE;refine blX (thX (WX.perm (hs':=pt b9 #[.int .i64 (((chk aT s.data.length).length:Nat):Int)] 3::pt b8 #[.int .u64 (pl:Nat)] 23::pt b6 #[.int .i64 0] 42::pt b4 (snV s aS cS aT cT) 32::pt b3 #[.pointer (some ⟨lb,0,none⟩)] 35::pt lb (lgA wb db hb' eb L (.slice aV L.sn.vot.length cV) (.slice aD L.sn.data.length cD) (.slice aL L.l.length cL)) 91::wh::hh::eh::gl::dh'::(hs++[dfr DD])) (List.Perm.refl _) (WX.drop (sqX (sqX (rgaX [pt b3 #[.pointer (some ⟨lb,0,none⟩)] 35,pt lb (lgA wb db hb' eb L (.slice aV L.sn.vot.length cV) (.slice aD L.sn.data.length cD) (.slice aL L.l.length cL)) 91,pt b8 #[.int .u64 (pl:Nat)] 23] 8 [0,2,4,6,8,10,13,15,17,18] (by simp) qk qk (dldtp [] hT qk 0 0 I qk I I (dldtp [7,4,3,2] hT qk 0 0 I qk I I (dldtp [7] hT qk 2 1 I qk I I (dldtp [7,6] hT qk 0 2 I qk I I (dact hT qk 0 I (cl hT 0 I (areaLC pl qo) ?_))))))))))))
  rintro v52 K52 hs52 ⟨rfl,rfl,rfl⟩;refine dnex [pt b3 #[.pointer (some ⟨lb,0,none⟩)] 35,pt lb (lgA wb db hb' eb L (.slice aV L.sn.vot.length cV) (.slice aD L.sn.data.length cD) (.slice aL L.l.length cL)) 91,pt b8 #[.int .u64 (pl:Nat)] 23] (by simp) (by simp) I (dact hT qk 0 I (cl hT 0 I (Ct.at 9 I (syncH db D' c1 oD1.ok qo hD' (lgA4 pl))) ?_));rintro v53 K53 hs53 ⟨dh2,rfl,rfl,hD2,rfl⟩;rw[<-hEE] at hD2 ⊢;refine dnex [pt b3 #[.pointer (some ⟨lb,0,none⟩)] 35,pt lb (lgA wb db hb' eb L (.slice aV L.sn.vot.length cV) (.slice aD L.sn.data.length cD) (.slice aL L.l.length cL)) 91,pt b8 #[.int .u64 (pl:Nat)] 23] (by simp) (by simp) I (dact hT qk 0 I (cl hT 0 I (Ct.at 4 I (didLC lb wb db hb' eb L _ _ _ _)) ?_));rintro v54 K54 hs54 ⟨_,rfl,rfl,rfl,rfl⟩;have ed:didV L.code E.2=E.2:=by unfold didV;rw[if_pos hcode]
  rw[ed];refine dnext (.inl qk) (dcbS hT qk 0 (E.2≠0) I (by simp) fun b55 h55=>dend hT qk 0 I (nxX (thX (ifPX h55 I (fun e2=>?_) (fun e2=>?_)))))
  ·rw[if_pos e2] at hR;refine sqX (rgX (ldp hT 0 3 I I I (ldp hT 2 4 I I I (stp hT 0 1 I I I I (fin hT 0 I (nxX (thX (rtX (rTX (retmD DD 4 (hs':=pt b8 #[.int .u64 (pl:Nat)] 23::pt b6 #[.int .i64 E.2] 42::pt b4 (snV s aS cS aT cT) 32::pt b3 #[.pointer (some ⟨lb,0,none⟩)] 35::pt lb (lgA wb db hb' eb { L with code:=E.2 } (.slice aV L.sn.vot.length cV) (.slice aD L.sn.data.length cD) (.slice aL L.l.length cL)) 91::wh::hh::eh::gl::dh2::hs) I (.inl I) (res_c1 hT 1 I I I I I) ?_))))))))));rw[hR];exact ⟨le12,[_,_,_,_,_,_],I,⟨wb,hb',eb,aV,cV,aD,cD,aL,cL,wh,hh,eh,gl,dh2,I,hW.le le12,hH.le le12,hE.le le12,hG.imp fun _ _ h=>h.le le12,hD2,xV.le le12,xD.le le12⟩,I⟩
  ·have e2:=Decidable.not_not.1 e2;rw[if_neg (by rw[e2];simp)] at hR;have eL:({ L with code:=E.2 }:Lg)=L:=by rw[e2,<-hcode]
   rw[eL];clear eL;obtain ⟨E,Ee⟩:=E;dsimp only at hR hD2 oE;clear ed h55;clear hw;refine skX (thX (sqX (rgX (lds hT 1 [.slice aS s.vot.length cS] I qk (.inr ⟨2,I⟩) (cells_sub _ I) (cl hT 0 I (putConfC aS cS s.vot (.inl I) (xS.le le12) qo) ?_)))));rintro v63 K63 hs63 ⟨rfl,h63,ao63,c63,rfl,rfl,o63⟩;unfold Lg.lay2 at hR;rw[<-hplE] at hR;obtain ⟨ns,hns⟩:∃ ns:List Nat,ns=[s.idx,s.term,pl,s.data.length,fr]:=⟨_,rfl⟩;have hnsl:ns.length=5:=by rw[hns];rfl
   have hnsb:∀ n∈ns,n<18446744073709551616:=by
    unfold mxU at hst;rw[hns]
    simp
    omega
   have hfl:∀ j,((ns.take j).flatMap uint).length<=10*5:=fun j=>by
    have:∀ l:List Nat,(∀ n∈l,n<18446744073709551616)->(l.flatMap uint).length<=10*l.length:=fun l=>by
     induction l with
     | nil=>simp
     | cons a l ih=>
      intro h;have h1:=uint_le10 (h a (by simp));have h2:=ih (fun n hn=>h n (by simp[hn]));simp only[List.flatMap_cons,List.length_append,List.length_cons];omega
    have h1:=this (ns.take j) (fun n hn=>hnsb n (List.mem_of_mem_take hn));have h2:(ns.take j).length<=5:=by rw[List.length_take];omega
    omega
   refine fin hT 5 I<|nxX (thX<|sqX (rgX<|fin hT 1 I (nxX<|thX (sqX<|sqX (rgX<|ldp hT 1 3 I I I (ldp hT 1 3 I I I<|ldp hT 0 1 I I I (ldp hT 1 3 I I I<|ar hT 1 I (u64w (x:=((s.data.length:Nat):Int)) qo) (lit hT 1 #[.int .u64 s.idx,.int .u64 s.term,.int .u64 (pl:Nat),.int .u64 s.data.length,.int .u64 (fr:Nat)] I (by decide) qk fun b76=>fin hT 2 I<|nxX (thX<|bkX (WX.em ?_))))))))))
   refine loopX (σ:=Nat×(Option Addr×Nat×PH)) (fun x=>[(2,.int .u64 (fr:Nat)),(3,.pointer (some ⟨b3,0,none⟩)),(4,.pointer (some ⟨b4,0,none⟩)),(6,.pointer (some ⟨b6,0,none⟩)),(7,.int .u64 L.place),(8,.pointer (some ⟨b8,0,none⟩)),(11,.slice ao63 (ob (putConf s.vot)).length c63),(13,.slice x.2.1 ((ns.take x.1).flatMap uint).length x.2.2.1),(76,.slice (some ⟨b76,0,none⟩) 5 5),(77,.int .i64 5),(78,.int .i64 x.1)]) (fun _=>K63)
    (fun x=>x.2.2.2::pt b76 #[.int .u64 s.idx,.int .u64 s.term,.int .u64 (pl:Nat),.int .u64 s.data.length,.int .u64 (fr:Nat)] 23::h63::pt b8 #[.int .u64 (pl:Nat)] 23::pt b6 #[.int .i64 0] 42::pt b4 (snV s aS cS aT cT) 32::pt b3 #[.pointer (some ⟨lb,0,none⟩)] 35::pt lb (lgA wb db hb' eb L (.slice aV L.sn.vot.length cV) (.slice aD L.sn.data.length cD) (.slice aL L.l.length cL)) 91::wh::hh::eh::gl::dh2::(hs++[dfr DD]))
    (fun x=>x.1<=5/\Own x.2.2.2 x.2.1 ((ns.take x.1).flatMap uint).length x.2.2.1 5 1 (bv ((ns.take x.1).flatMap uint))) (fun x=>5-x.1) (0,(none,0,em)) ⟨by omega,Own.nil _ _⟩ ⟨rfl,rfl,rfl,rfl,rfl,rfl,rfl,rfl,rfl,rfl,rfl,trivial⟩ rfl rfl ?_
   rintro ⟨j,⟨ag,cg,g⟩⟩ ⟨hj,og⟩;dsimp only at *;have hflj:=hfl j;refine sqX (rgX (cmpS hT 0 I fun b79 h79=>fin hT 0 I (nxX (thX (sqX (ifPX h79 I (fun e4=>?_) (fun e4=>?_)))))))
   ·have hj5:j<5:=by omega
    obtain ⟨n,hn⟩:∃ n,ns[j]?=some n:=⟨ns[j],List.getElem?_eq_getElem qo⟩;have hnb:=hnsb n (List.mem_of_getElem? hn);have x76:IsS (pt b76 #[.int .u64 s.idx,.int .u64 s.term,.int .u64 (pl:Nat),.int .u64 s.data.length,.int .u64 (fr:Nat)] 23) (some ⟨b76,0,none⟩) 5 5 1 (uvv ns):=by rw[hns];exact (Own.ofPt (n:=5) (size:=1) I (by decide)).isS
    refine skX (thX (sqX (bkX (sqX (rgX (ix1 hT 0 j I I I x76 (uvv_get hn) fun a80 hc80=>ld hT 0 I (.inr ⟨1,I⟩) hc80 (fin hT 1 I (nxX (thX (rgX (cl hT 2 I (putUint ag cg _ n og hnb qo) ?_)))))))))));rintro v84 K84 hs84 ⟨h84,rfl,rfl,ao84,c84,rfl,o84⟩;have etk:(ns.take (j+1)).flatMap uint=(ns.take j).flatMap uint++uint n:=by rw[List.take_add_one,hn];simp
    rw[<-etk] at o84 ⊢;exact fin hT 1 I (nxX (blX (thX (rgX (ar hT 0 I (i64w (x:=((j+1:Nat):Int)) qo) (fin hT 1 I (nxX (againX (x:=(j,(ag,cg,g))) (j+1,(ao84,c84,h84)) ⟨I,I,I,I,I,I,I,I,I,I,I,trivial⟩ I I ⟨by dsimp only;omega,o84⟩ (by dsimp only;omega)))))))))
   ·obtain rfl:j=5:=by omega
    have ens:(ns.take 5).flatMap uint=uint s.idx++(uint s.term++(uint pl++(uint s.data.length++uint fr))):=by rw[hns];simp
    obtain ⟨bb,hbb⟩:∃ bb,bb=(ns.take 5).flatMap uint:=⟨_,rfl⟩;have esay:bb++ob (putConf s.vot)=Lg.say s pl fr:=by rw[hbb,ens];unfold Lg.say;simp only[List.append_assoc]
    rw[<-hbb] at og hflj ⊢
    have hcl:(ob (putConf s.vot)).length<=1:=by
     unfold putConf
     split
     ·simp[ob]
     ·simp[ob]
    obtain ⟨F,hF⟩:∃ F,F=L.head.save 4 E (Lg.say s pl fr):=⟨_,rfl⟩;have oF:=oE.save L.head 4 qo (Lg.say s pl fr);have hsl:(Lg.say s pl fr).length<=51:=by rw[<-esay,List.length_append];omega
    have hHb:=Slt.save_bd hb.head 4 E (Lg.say s pl fr);rw[<-hF] at oF hR hHb;refine exX (xtX (xtX (xbX (thX (sqX (sqX (rgaX [pt b3 #[.pointer (some ⟨lb,0,none⟩)] 35,pt lb (lgA wb db hb' eb L (.slice aV L.sn.vot.length cV) (.slice aD L.sn.data.length cD) (.slice aL L.l.length cL)) 91] 9 [0,2,4,6,8,10,12,15,17,19,20] (by simp) qk qk (dldtp [] hT qk 0 0 I qk I I (dldtp [8,4,3,2] hT qk 0 0 I qk I I (dldtp [8] hT qk 2 1 I qk I I (dact hT qk 2 I (app hT 0 0 I I og (.inr ⟨2,I⟩) o63.isS I (by decide) (bv_one _) (by show (bb.length+(ob (putConf s.vot)).length)*1<=_;omega) (by simp only[maxLen];omega) fun ao93 c93 g93 o93=>?_))))))))))));have o93':Own g93 ao93 (Lg.say s pl fr).length c93 5 1 (bv (Lg.say s pl fr)):=own_of o93 (by rw[<-esay,List.length_append]) (by rw[<-esay,bv_append]);have elen:bb.length+(ob (putConf s.vot)).length=(Lg.say s pl fr).length:=by rw[<-esay,List.length_append]
    rw[elen];refine dnex [pt b3 #[.pointer (some ⟨lb,0,none⟩)] 35,pt lb (lgA wb db hb' eb L (.slice aV L.sn.vot.length cV) (.slice aD L.sn.data.length cD) (.slice aL L.l.length cL)) 91] (by simp) (by simp) I (dact hT qk 0 I (cl hT 0 I (Ct.at2 10 11 I I (saveSH eb db 4 L.head (hE.le le12) hb.head E (c1+1) oE.ok qo hD2 qo (Lg.say s pl fr) ao93 c93 qo (.inr ⟨0,I⟩) o93'.isS)) ?_));rintro v94 K3 hs94 ⟨eh3,dh3,rfl,le3,hE3,hD3,rfl⟩;rw[<-hF] at hE3 hD3 ⊢;have le13:=le12.trans le3;refine dnexL [pt b3 #[.pointer (some ⟨lb,0,none⟩)] 35,pt lb (lgA wb db hb' eb L (.slice aV L.sn.vot.length cV) (.slice aD L.sn.data.length cD) (.slice aL L.l.length cL)) 91] (by simp) (by simp) le3 (dact hT qk 0 I (cl hT 0 I (Ct.at 7 I (didLC lb wb db hb' eb L _ _ _ _)) ?_));rintro v95 K95 hs95 ⟨_,rfl,rfl,rfl,rfl⟩;have ed:didV L.code F.2.2=F.2.2:=by unfold didV;rw[if_pos hcode]
    rw[ed];refine dnext (.inl qk) (dcbS hT qk 0 (F.2.2≠0) I (by simp) fun b96 h96=>dend hT qk 0 I (nxX (thX (WX.drop (WX.drop (WX.drop (ifPX h96 I (fun e5=>?_) (fun e5=>?_))))))))
    ·rw[if_pos e5] at hR;refine sqX (rgX (ldp hT 0 3 I I I (ldp hT 2 4 I I I (stp hT 0 1 I I I I (fin hT 0 I (nxX (thX (rtX (rTX (retmD DD 4 (hs':=pt b8 #[.int .u64 (pl:Nat)] 23::pt b6 #[.int .i64 F.2.2] 42::pt b4 (snV s aS cS aT cT) 32::pt b3 #[.pointer (some ⟨lb,0,none⟩)] 35::pt lb (lgA wb db hb' eb { L with code:=F.2.2 } (.slice aV L.sn.vot.length cV) (.slice aD L.sn.data.length cD) (.slice aL L.l.length cL)) 91::wh::hh::eh3::gl::dh3::hs) I (.inl I) (res_c1 hT 1 I I I I I) ?_))))))))));rw[hR];exact ⟨le13,[_,_,_,_,_,_],I,⟨wb,hb',eb,aV,cV,aD,cD,aL,cL,wh,hh,eh3,gl,dh3,I,hW.le le13,hH.le le13,hE3,hG.imp fun _ _ h=>h.le le13,hD3,xV.le le13,xD.le le13⟩,I⟩
    ·have e5:=Decidable.not_not.1 e5;rw[if_neg (by rw[e5];simp)] at hR;have eL:({ L with code:=F.2.2 }:Lg)=L:=by rw[e5,<-hcode]
     rw[eL];clear eL ed h96;obtain ⟨H,D3,F2⟩:=F;dsimp only at hR oF hHb hE3 hD3 e5;subst e5;unfold Lg.lay3 at hR;have hbH:LBd c { L with head:=H }:=⟨hb.w,hb.hard,hHb,hb.kt,hb.kv,hb.idx,hb.st,hb.vot,hb.data,hb.place,hb.fr,hb.len,hb.ents⟩
     have hmH:LgM K95 lb db { L with head:=H } D3 [pt lb (lgA wb db hb' eb L (.slice aV L.sn.vot.length cV) (.slice aD L.sn.data.length cD) (.slice aL L.l.length cL)) 91,wh,hh,eh3,gl,dh3]:=
      ⟨wb,hb',eb,aV,cV,aD,cD,aL,cL,wh,hh,eh3,gl,dh3,rfl,hW.le le13,hH.le le13,hE3,hG.imp fun _ _ h=>h.le le13,hD3,xV.le le13,xD.le le13⟩
     have hG3:=hG.imp (R':=EntC K95) fun _ _ h=>h.le le13;refine skX (thX (WX.perm (hs':=[pt lb (lgA wb db hb' eb L (.slice aV L.sn.vot.length cV) (.slice aD L.sn.data.length cD) (.slice aL L.l.length cL)) 91,wh,hh,eh3,gl,dh3]++(pt b8 #[.int .u64 (pl:Nat)] 23::pt b6 #[.int .i64 0] 42::pt b4 (snV s aS cS aT cT) 32::pt b3 #[.pointer (some ⟨lb,0,none⟩)] 35::(hs++[dfr DD]))) (List.perm_append_comm_assoc [_,_,_,_] [_,_,_,_,_,_] (hs++[dfr DD])) (sqX (rgX (ldp hT 0 9 I I I (ldp hT 1 8 I I I (cl hT 0 I (atLC lb db { L with head:=H } D3 c hbH qo hmH s.idx qo) ?_)))))));rintro v105 K105 hs105 ⟨rfl,rfl,rfl⟩;obtain ⟨NL,hNL⟩:∃ NL,NL=if lgHas L.sn L.l s=true then L.l.drop ((lgAt L.sn L.l s.idx).getD 0+1) else []:=⟨_,rfl⟩;have hNl:NL.length<=L.l.length:=by rw[hNL];split <;> simp
     refine fin hT 5 I (nxX (thX (jnZ (σ:=Option Addr×Nat×PH) (fun _=>[(2,.int .u64 (fr:Nat)),(3,.pointer (some ⟨b3,0,none⟩)),(4,.pointer (some ⟨b4,0,none⟩)),(6,.pointer (some ⟨b6,0,none⟩)),(7,.int .u64 L.place),(8,.pointer (some ⟨b8,0,none⟩))]) (fun _=>K105)
      (fun x=>pt lb (lgA wb db hb' eb L (.slice aV L.sn.vot.length cV) (.slice aD L.sn.data.length cD) (.slice x.1 NL.length x.2.1)) 91::wh::hh::eh3::x.2.2::dh3::pt b8 #[.int .u64 (pl:Nat)] 23::pt b6 #[.int .i64 0] 42::pt b4 (snV s aS cS aT cT) 32::pt b3 #[.pointer (some ⟨lb,0,none⟩)] 35::(hs++[dfr DD])) (fun x=>SlZ 4 46 (EntC K105) x.2.2 x.1 NL.length x.2.1 NL) ?_ ?_)))
     ·refine sqX (rgX (ldp hT 0 9 I I I (ldS hT 0 8 I I qk (cl hT 0 I (hasLC (hv:=K105) lb db { L with head:=H } D3 c hbH qo hmH s qo aS cS aT cT) ?_))));rintro v110 K110 hs110 ⟨rfl,rfl,rfl⟩;refine fin hT 0 I (nxX (thX ?_));cases hhas:lgHas L.sn L.l s with
      | true=>
       rw[if_pos hhas] at hNL
       obtain ⟨k,hk,hkl⟩:∃ k,lgAt L.sn L.l s.idx=some k/\k<L.l.length:=by
        unfold lgHas at hhas;rw[trm_at,if_neg qo] at hhas;cases h:lgAt L.sn L.l s.idx with
        | none=>rw[h] at hhas;simp at hhas
        | some k=>exact ⟨k,rfl,(lgAt_some h).2.2.2⟩
       have hk0:(lgAt L.sn L.l s.idx).getD 0=k:=by rw[hk];rfl
       rw[hk0] at hNL;have hNL2:NL.length=L.l.length-(k+1):=by rw[hNL,List.length_drop]
       have hcap:=hG3.caps;have xcut:=hG3.slS.cut (k+1) qo;rw[<-hNL,<-hNL2] at xcut;refine ifTX I (rgaX [pt b3 #[.pointer (some ⟨lb,0,none⟩)] 35,pt lb (lgA wb db hb' eb L (.slice aV L.sn.vot.length cV) (.slice aD L.sn.data.length cD) (.slice aL L.l.length cL)) 91] 11 [0,2,4,6,8,10,12,14,17,18,20,23] (by simp) qk qk (dldpw hT qk 0 0 I qk I I (dldpw hT qk 0 0 I qk I I (dldpw hT qk 2 1 I qk I I (dar hT qk 1 I (v':=.int .i64 (k+1:Nat)) (by show Value.int .i64 (IntKind.i64.wrap ((((lgAt L.sn L.l s.idx).getD 0:Nat):Int)+1))=_;rw[hk0];exact i64w qo) (dslx hT qk 0 (k+1) NL.length I I I (by show ((L.l.length:Nat):Int)=_;omega) qo (dact hT qk 0 rfl (cl hT 0 rfl (cloneEC _ NL.length _ NL (.inr ⟨4,rfl⟩) xcut qo) ?_))))))));rintro v119 K119 hs119 ⟨rfl,h119,ao119,c119,rfl,rfl,o119⟩
       exact dnex [pt b3 #[.pointer (some ⟨lb,0,none⟩)] 35,pt lb (lgA wb db hb' eb L (.slice aV L.sn.vot.length cV) (.slice aD L.sn.data.length cD) (.slice aL L.l.length cL)) 91] (by simp) (by simp) I<|dact hT qk 2 I (stp hT 0 1 I I I I<|WL.perm (hs':=[_,_,_,_]++(h119::_)) (List.perm_middle (l₁:=[_,_,_,_])).symm (dnext (.inl qk)<|dend hT qk 0 I (nxX<|WQX.perm (perm_front _ 5 gl I) (WQX.drop<|jxZ (ao119,c119,h119) o119 ⟨I,I,I,I,I,I,trivial⟩ I I))))
      | false=>
       rw[if_neg (by rw[hhas];simp)] at hNL;exact ifFX I (rgX (ldp hT 0 9 I I I (stp hT 2 0 I I I I (WL.loss 4 em I (.inr I) (fin hT 0 I (nxX (jxZ (none,0,em) (by rw[hNL];exact SlZ.nil _ _) ⟨I,I,I,I,I,I,trivial⟩ I (by rw[hNL];rfl))))))))
     ·rintro ⟨aN,cN,gN⟩ oN;dsimp only at *;have eLd:L.laid s fr H={ L with head:=H,l:=NL,place:=pl,fr:=fr,sn:=s }:=by unfold Lg.laid;rw[<-hNL,<-hplE]
      obtain ⟨G,hGE⟩:∃ G,G=D3.free (lgA4 L.place):=⟨_,rfl⟩;rw[eLd,<-hGE] at hR;refine sqX (rgaX [pt b3 #[.pointer (some ⟨lb,0,none⟩)] 35,pt b8 #[.int .u64 (pl:Nat)] 23] 10 [0,2,4,6,8,10,13,14,16,19] (by simp) qk qk (dldpw hT qk 0 0 I qk I I (dldpw hT qk 0 0 I qk I I (dldpw hT qk 0 1 I qk I I (dact hT qk 3 I (stp hT 0 0 I I I I (dnex [pt b3 #[.pointer (some ⟨lb,0,none⟩)] 35,pt b8 #[.int .u64 (pl:Nat)] 23] (by simp) (by simp) I (dact hT qk 2 I (stp hT 0 0 I I I I (dnex [pt b3 #[.pointer (some ⟨lb,0,none⟩)] 35,pt b8 #[.int .u64 (pl:Nat)] 23] (by simp) (by simp) I (dend hT qk 0 I (nxX (thX (sqX (rgX (ldp hT 0 9 I I I ?_))))))))))))))));refine ldS hT 0 8 I I qk (sts hT 2 0 I I qk (by simp[lgA,snV]) (fun v hv=>by simp[snV] at hv;rcases hv with rfl|rfl|rfl|rfl <;> rfl) (WL.hs (pt lb (lgA wb db hb' eb { L with head:=H,l:=NL,place:=pl,fr:=fr,sn:=s } (.slice aS s.vot.length cS) (.slice aT s.data.length cT) (.slice aN NL.length cN)) 91::wh::hh::eh3::gN::dh3::pt b8 #[.int .u64 (pl:Nat)] 23::pt b6 #[.int .i64 0] 42::pt b4 (snV s aS cS aT cT) 32::pt b3 #[.pointer (some ⟨lb,0,none⟩)] 35::(hs++[dfr DD])) rfl (fin hT 0 rfl (nxX (thX (sqX (rgaX [pt b3 #[.pointer (some ⟨lb,0,none⟩)] 35,pt b4 (snV s aS cS aT cT) 32] 9 [0,2,4,6,9,10,12,14,16,19] (by simp) qk qk (dldpw hT qk 0 0 rfl qk rfl rfl (dldpw hT qk 2 1 rfl qk rfl rfl (dact hT qk 0 rfl (cl hT 0 rfl (cloneIC aS cS s.vot (.inl rfl) (xS.le le13) qo) ?_)))))))))))
      rintro v141 K4 hs141 ⟨le4,rfl,aV2,cV2,rfl,xV2⟩;refine dnexL [pt b3 #[.pointer (some ⟨lb,0,none⟩)] 35,pt b4 (snV s aS cS aT cT) 32] (by simp) (by simp) le4 (dact hT qk 4 I (stp hT 0 0 I I I I (dnex [pt b3 #[.pointer (some ⟨lb,0,none⟩)] 35,pt b4 (snV s aS cS aT cT) 32] (by simp) (by simp) I (dend hT qk 0 I (nxX (thX (sqX (rgaX [pt b3 #[.pointer (some ⟨lb,0,none⟩)] 35,pt b4 (snV s aS cS aT cT) 32] 7 [0,2,4,7,8,10,12,15] (by simp) qk qk (dldpw hT qk 0 0 I qk I I (dldpw hT qk 1 1 I qk I I (dact hT qk 0 I ?_)))))))))));have le14:=le13.trans le4;refine cl hT 0 I (cloneB aT cT s.data (.inl I) (xT.le le14) qo) ?_;rintro v149 K149 hs149 ⟨rfl,h149,aD2,cD2,rfl,rfl,oD2⟩;refine WL.frz fun K5 le5 l5=>?_;have xD2:=oD2.isS.le l5;refine dnexL [pt b3 #[.pointer (some ⟨lb,0,none⟩)] 35,pt b4 (snV s aS cS aT cT) 32] (by simp) (by simp) le5 (dact hT qk 3 I (stp hT 0 0 I I I I (dnex [pt b3 #[.pointer (some ⟨lb,0,none⟩)] 35,pt b4 (snV s aS cS aT cT) 32] (by simp) (by simp) I (dend hT qk 0 I (nxX (thX (WX.perm (hs':=pt lb (lgA wb db hb' eb { L with head:=H,l:=NL,place:=pl,fr:=fr,sn:=s } (.slice aV2 s.vot.length cV2) (.slice aD2 s.data.length cD2) (.slice aN NL.length cN)) 91::wh::hh::eh3::gN::dh3::pt b8 #[.int .u64 (pl:Nat)] 23::pt b6 #[.int .i64 0] 42::pt b4 (snV s aS cS aT cT) 32::pt b3 #[.pointer (some ⟨lb,0,none⟩)] 35::(hs++[dfr DD])) (List.Perm.refl _) (sqX (rgaX [pt b3 #[.pointer (some ⟨lb,0,none⟩)] 35,pt lb (lgA wb db hb' eb { L with head:=H,l:=NL,place:=pl,fr:=fr,sn:=s } (.slice aV2 s.vot.length cV2) (.slice aD2 s.data.length cD2) (.slice aN NL.length cN)) 91] 8 [0,2,4,6,8,10,13,15,17,19] (by simp) qk qk (dldtp [] hT qk 0 0 I qk I I (dldtp [7,4,3,2] hT qk 0 0 I qk I I (dldtp [7] hT qk 2 1 I qk I I (dact hT qk 1 I (cl hT 0 I (areaLC L.place qo) ?_))))))))))))))
      rintro v159 K159 hs159 ⟨rfl,rfl,rfl⟩;refine dnex [pt b3 #[.pointer (some ⟨lb,0,none⟩)] 35,pt lb (lgA wb db hb' eb { L with head:=H,l:=NL,place:=pl,fr:=fr,sn:=s } (.slice aV2 s.vot.length cV2) (.slice aD2 s.data.length cD2) (.slice aN NL.length cN)) 91] (by simp) (by simp) I (dact hT qk 0 I ?_);have le45:=le4.trans le5;refine cl hT 0 I (Ct.at 5 I (freeH db D3 (c1+1+2) oF.ok qo (hD3.le le45) (lgA4 L.place))) ?_;rintro v160 K160 hs160 ⟨dh4,rfl,rfl,hD4,rfl⟩;rw[<-hGE] at hD4 ⊢;refine dnex [pt b3 #[.pointer (some ⟨lb,0,none⟩)] 35,pt lb (lgA wb db hb' eb { L with head:=H,l:=NL,place:=pl,fr:=fr,sn:=s } (.slice aV2 s.vot.length cV2) (.slice aD2 s.data.length cD2) (.slice aN NL.length cN)) 91] (by simp) (by simp) I (dact hT qk 0 I (cl hT 0 I (didLC lb wb db hb' eb { L with head:=H,l:=NL,place:=pl,fr:=fr,sn:=s } _ _ _ _) ?_));rintro v161 K161 hs161 ⟨_,rfl,rfl,rfl,rfl⟩;have ed:didV L.code G.2=G.2:=by unfold didV;rw[if_pos hcode]
      rw[ed];refine dnext (.inl qk) (dact hT qk 0 I (stp hT 0 7 I I I I (dnext (.inl qk) (dend hT qk 0 I (nxX (thX (rtX (WQX.perm (hs':=[pt b8 #[.int .u64 (pl:Nat)] 23,pt b6 #[.int .i64 G.2] 42,pt b4 (snV s aS cS aT cT) 32,pt b3 #[.pointer (some ⟨lb,0,none⟩)] 35]++([pt lb (lgA wb db hb' eb { L with head:=H,l:=NL,place:=pl,fr:=fr,sn:=s,code:=G.2 } (.slice aV2 s.vot.length cV2) (.slice aD2 s.data.length cD2) (.slice aN NL.length cN)) 91,wh,hh,eh3,gN,dh4]++(hs++[dfr DD]))) (List.perm_append_comm_assoc [_,_,_,_,_,_] [_,_,_,_] (hs++[dfr DD])) (retmD DD 4 (hs':=pt b8 #[.int .u64 (pl:Nat)] 23::pt b6 #[.int .i64 G.2] 42::pt b4 (snV s aS cS aT cT) 32::pt b3 #[.pointer (some ⟨lb,0,none⟩)] 35::pt lb (lgA wb db hb' eb { L with head:=H,l:=NL,place:=pl,fr:=fr,sn:=s,code:=G.2 } (.slice aV2 s.vot.length cV2) (.slice aD2 s.data.length cD2) (.slice aN NL.length cN)) 91::wh::hh::eh3::gN::dh4::hs) I (.inl I) (res_c1 hT 1 I I I I I) ?_)))))))))
      rw[hR];exact ⟨le13.trans le45,[_,_,_,_,_,_],I,⟨wb,hb',eb,aV2,cV2,aD2,cD2,aN,cN,wh,hh,eh3,gN,dh4,I,(hW.le le13).le le45,(hH.le le13).le le45,hE3.le le45,oN.imp fun _ _ h=>h.le le45,hD4,xV2.le le5,xD2⟩,I⟩
 ·rintro DD c' K' hs' ⟨rfl,le2,e0,x,dh',rfl,hD'⟩;rw[if_pos e0] at hR;refine rtX (retmD DD 5 (hs':=x::pt b8 #[.int .u64 (pl:Nat)] 23::pt b6 #[.int .i64 R0.2] 42::pt b4 (snV s aS cS aT cT) 32::pt b3 #[.pointer (some ⟨lb,0,none⟩)] 35::pt lb (lgA wb db hb' eb { L with code:=R0.2 } (.slice aV L.sn.vot.length cV) (.slice aD L.sn.data.length cD) (.slice aL L.l.length cL)) 91::wh::hh::eh::gl::dh'::hs) I (.inl I) (res_c1 hT 2 I I I I I) ?_);have le:=le1.trans le2;rw[hR];exact ⟨le,[_,_,_,_,_,_],I,⟨wb,hb',eb,aV,cV,aD,cD,aL,cL,wh,hh,eh,gl,dh',I,hW.le le,hH.le le,hE.le le,hG.imp fun _ _ h=>h.le le,hD',xV.le le,xD.le le⟩,I⟩
end
section
theorem putConf_len{l:List Int}(h:(putConf l).isSome=true):l.length<=7:=by
 unfold putConf at h
 split at h
 ·rename_i h1;have:=confOK_len l (-1) h1.2 qo qo;omega
 ·simp at h
theorem DOk.lgW(place:Nat)(hp:lgA4 place<=18446744073709551615):∀ (f n:Nat) (b:List UInt8) (D:Dk) (c:Nat),DOk c D->DOk (c+(b.length+63) / 64) (lgW place f n b D).1
 | 0,_,_,D,c,o=>o.up qo
 | f+1,n,b,D,c,o=>by
  rw[lgW_step]
  split
  ·exact o.up qo
  ·rename_i hb;have hbl:0<b.length:=by cases b with|nil=>exact absurd rfl hb|cons a l=>simp
   have h1:=o.write (lgA4 place) n (b.take 64) qo
   split
   ·exact h1.up qo
   ·have:=DOk.lgW place hp f (n+1) (b.drop 64) _ _ h1;rw[List.length_drop] at this;exact this.up qo
theorem lay_code(L:Lg)(s:Snp)(fr:Nat)(D:Dk):(L.lay s fr D).1.code=(L.lay s fr D).2.2:=by
 unfold Lg.lay
 split
 ·rfl
 ·unfold Lg.lay1
  split
  ·rfl
  ·unfold Lg.lay2
   split
   ·rfl
   ·rfl
structure SBd (s:Snp):Prop where
 idx:s.idx<=lgTop
 term:s.term<=mxU
 vot:s.vot.length<=7
 data:s.data.length<=2097152
theorem LBd.lay{c:Nat}{L:Lg}(o:LBd c L)(s:Snp)(hs:SBd s)(fr:Nat)(hfr:fr<=wMany+(c+1))(D:Dk):LBd (c+1) (L.lay s fr D).1:=by
 have hc:∀ k,LBd (c+1) { L with code:=k }:=fun k=>o.wc (W:=L.w) (o.w.up (Nat.le_succ c)) (Nat.le_succ c) k;unfold Lg.lay
 split
 ·exact hc _
 ·unfold Lg.lay1
  split
  ·exact hc _
  ·unfold Lg.lay2;have hH:=Slt.save_bd o.head 4 ((lgW (L.place+1) (s.data.length+1) 0 s.data D).1.sync (lgA4 (L.place+1))).1 (Lg.say s (L.place+1) fr)
   split
   ·exact ⟨o.w.up (Nat.le_succ c),o.hard,hH,o.kt,o.kv,o.idx,o.st,o.vot,o.data,by have:=o.place;dsimp only;omega,by have:=o.fr;dsimp only;omega,by have:=o.len;dsimp only;omega,o.ents⟩
   ·unfold Lg.lay3 Lg.laid;refine ⟨o.w.up (Nat.le_succ c),o.hard,hH,o.kt,o.kv,hs.idx,hs.term,hs.vot,hs.data,by have:=o.place;dsimp only;omega,hfr,?_,?_⟩
    ·have:=o.len;dsimp only
     split
     ·rw[List.length_drop];omega
     ·exact Nat.zero_le _
    ·dsimp only
     split
     ·exact fun e he=>o.ents e<|List.mem_of_mem_drop he
     ·exact fun e he=>by simp at he
theorem DOk.layL{c:Nat}{D:Dk}(d:DOk c D){L:Lg}(o:LBd c L)(hc:c<=999000000)(s:Snp)(hs:SBd s)(fr:Nat):DOk (c+((s.data.length+63) / 64+4)) (L.lay s fr D).2.1:=by
 have hp:=o.place;unfold lgTop at hp;have h1:=DOk.lgW (L.place+1) (by unfold lgA4;omega) (s.data.length+1) 0 s.data D c d;unfold Lg.lay
 split
 ·exact h1.up qo
 ·unfold Lg.lay1;have h2:=h1.sync (lgA4 (L.place+1))
  split
  ·exact h2.up qo
  ·unfold Lg.lay2;have h3:=h2.save L.head 4 qo (Lg.say s (L.place+1) fr)
   split
   ·exact h3.up qo
   ·unfold Lg.lay3;exact (h3.free (lgA4 L.place)).up qo
theorem DOk.syncL{c:Nat}{D:Dk}(d:DOk c D)(L:Lg):DOk (c+1) (L.sync D).2.1:=by
 unfold Lg.sync
 split
 ·exact d.up qo
 ·exact d.syncW L.w
theorem sync_code(L:Lg)(D:Dk):(L.sync D).1.code=(L.sync D).2.2:=by
 unfold Lg.sync
 split <;> rfl
theorem sync_sn(L:Lg)(D:Dk):(L.sync D).1.sn=L.sn/\(L.sync D).1.l=L.l/\(L.sync D).1.fr=L.fr:=by
 unfold Lg.sync
 split <;> exact ⟨rfl,rfl,rfl⟩
attribute [local irreducible] Code.wp wpList Calls
theorem saveLC{w0:World}{K:PH}{m hs:List PH}(lb db:Nat)(L:Lg)(D:Dk)(c:Nat)(hb:LBd c L)(hc:c<=499900000)(oD:DOk c D)(hm:LgM K lb db L D m)(s:Snp)(hsi:s.idx<18446744073709551616)(hst:s.term<=mxU)(hvl:s.vot.length<1099511627776)(hdl:s.data.length<1099511627776)
  (aS:Option Addr) (cS:Nat) (aT:Option Addr) (cT:Nat) (xS:IsS K aS s.vot.length cS 1 (iv s.vot)) (xT:IsS K aT s.data.length cT 1 (bv s.data)):
  Ct Tryz.prog w0 44 [.pointer (some ⟨lb,0,none⟩),.agg (snV s aS cS aT cT)] K (m++hs)
   (fun u K' hs'=>Le K K'/\∃ m',hs'=m'++hs/\LgM K' lb db (L.save s D).1 (L.save s D).2.1 m'/\u=.int .i64 (L.save s D).2.2):=by
 have hm0:=hm;obtain ⟨wb,hb',eb,aV,cV,aD,cD,aL,cL,wh,hh,eh,gl,dh,rfl,hW,hH,hE,hG,hD,xV,xD⟩:=hm;obtain ⟨R,hR⟩:∃ R,R=L.save s D:=⟨_,rfl⟩;rw[<-hR];unfold Lg.save at hR;refine enter Tryz.func44 qk I I I (sq (rg (bx hT 0 I fun b3=>WL.hs (pt b3 (snV s aS cS aT cT) 32::([_,_,_,_,_,_]++hs)) I (WL.perm (List.perm_middle (l₁:=[_,_,_,_,_,_])).symm (fin hT 1 I (th (sq (rg (ldS hT 1 6 I I qk (cl hT 0 I (fitsLC (hv:=K) (hd':=K) lb db L D c hb qo hm0 s hsi aS cS aT cT xS hvl hdl) ?_))))))))));rintro v8 K8 hs8 ⟨rfl,rfl,rfl⟩;refine fin hT 1 I (th ?_)
 by_cases hf:L.fits s=0
 ·rw[if_neg (by rw[hf];simp)] at hR;have hfit:=hf;unfold Lg.fits at hfit
  have hcode:L.code=0:=by
   by_cases h:L.code=0
   ·exact h
   ·rw[if_pos h] at hfit;exact absurd hfit h
  rw[if_neg (by rw[hcode];simp)] at hfit
  have hps:(putConf s.vot).isSome=true/\s.data.length<=2097152:=by
   by_cases h:(putConf s.vot).isSome=false\/2097152<s.data.length
   ·rw[if_pos h] at hfit;cases hfit
   ·have h1:=not_or.1 h;exact ⟨by cases h2:(putConf s.vot).isSome with|true=>rfl|false=>exact absurd h2 h1.1,by omega⟩
  rw[if_neg (by rw[hps.1];simp;exact hps.2)] at hfit
  have hix:L.sn.idx<s.idx/\s.idx<lgTop:=by
   by_cases h:s.idx<=L.sn.idx\/lgTop<=s.idx
   ·rw[if_pos h] at hfit;cases hfit
   ·omega
  have hsB:SBd s:=⟨by omega,hst,putConf_len hps.1,hps.2⟩;rw[hf];refine sq (sq (rg (cmp hT 1 I (fun _=>ldS hT 2 6 I I qk (cl hT 0 I (hasLC (hv:=K8) lb db L D c hb qo hm0 s hsi aS cS aT cT) ?_)) (fun h=>absurd I h))));rintro v14 K14 hs14 ⟨rfl,rfl,rfl⟩;cases hhas:lgHas L.sn L.l s with
  | false=>
   rw[if_pos hhas] at hR;refine fin hT 2 I (th (ifT I (rg (fin hT 1 I (th (sq (sq (rg (fin hT 2 I (th (ifT I (sq (rg (fin hT 2 I (th (rt (rT (WQ.del 6 I ?_))))))))))))))))));rw[hR];exact ret1 I I ⟨Le.refl _,[_,_,_,_,_,_],I,hm0,I⟩
  | true=>
   rw[if_neg (by rw[hhas];simp)] at hR;refine fin hT 2 I (th (ifF I (sk (th (sq (sq (rg (fin hT 2 I (th (ifF I (sk (th ?_))))))))))));unfold Lg.save1 at hR;obtain ⟨Y,hY⟩:∃ Y,Y=L.sync D:=⟨_,rfl⟩;have hYb:=hb.sync D;have hYd:=oD.syncL L;have hYc:=sync_code L D;obtain ⟨hYs,hYl,hYf⟩:=sync_sn L D;rw[<-hY] at hR hYb hYd hYc hYs hYl hYf;refine sq (sq (rga [pt b3 (snV s aS cS aT cT) 32] 10 [0,3,4,6,8,10,12,14,16,18,21,22,24] (by simp) qk qk (dact hT qk 1 I (cl hT 0 I (syncLC lb db L D c hb qo oD hm0) ?_))));rintro v21 K21 hs21 ⟨rfl,m2,rfl,hm2,rfl⟩;rw[<-hY] at hm2 ⊢;obtain ⟨L2,D2,C2⟩:=Y;dsimp only at hm2 hR hYb hYd hYc hYs hYl hYf;obtain ⟨wb2,hb2',eb2,aV2,cV2,aD2,cD2,aL2,cL2,wh2,hh2,eh2,gl2,dh2,rfl,hW2,hH2,hE2,hG2,hD2,xV2,xD2⟩:=id hm2;refine dnex [pt b3 (snV s aS cS aT cT) 32,pt lb (lgA wb2 db hb2' eb2 L2 (.slice aV2 L2.sn.vot.length cV2) (.slice aD2 L2.sn.data.length cD2) (.slice aL2 L2.l.length cL2)) 91] (by simp) (by simp) I (dcmp hT qk 0 (C2≠0) I (by simp) (fun h6=>?_) (fun h6=>?_))
   ·rw[if_pos h6] at hR;refine dact hT qk 7 I (WL.pures hT 1 I (dnext (.inl qk) (dend hT qk 2 I (th (ifT I (sq (rg (ldp hT 3 0 I I I (fin hT 1 I (th (rt (rT (WQ.del 6 I ?_)))))))))))));rw[hR];exact ret1 I I ⟨Le.refl _,[_,_,_,_,_,_],I,hm2,by rw[<-hYc];rfl⟩
   ·have h6:=Decidable.not_not.1 h6;subst h6;rw[if_neg (by simp)] at hR;unfold Lg.save2 at hR;have hfr:=hYb.fr;obtain ⟨Z,hZ⟩:∃ Z,Z=L2.lay s L2.fr D2:=⟨_,rfl⟩;have hZb:=hYb.lay s hsB L2.fr qo D2;have hZd:=hYd.layL (hYb.up (Nat.le_succ c)) qo s hsB L2.fr;have hZc:=lay_code L2 s L2.fr D2;have hdl2:=hsB.data;rw[<-hZ] at hR hZb hZd hZc;refine dldS hT qk 2 0 I qk I qk (dldpw hT qk 3 1 I qk I I (dact hT qk 0 I ?_));unfold wMany at hfr;refine cl hT 0 I (layLC lb db L2 D2 (c+1) (hYb.up (Nat.le_succ c)) qo hYd hm2 hYc s qo (by rw[hYs];exact hix.1) hst hps.2 (by have:=hsB.vot;omega) aS cS aT cT xS xT L2.fr qo) ?_;rintro v30 K30 hs30 ⟨le,m3,rfl,hm3,rfl⟩;rw[<-hZ] at hm3 ⊢;obtain ⟨L3,D3,C3⟩:=Z;dsimp only at hm3 hR hZb hZd hZc;obtain ⟨wb3,hb3',eb3,aV3,cV3,aD3,cD3,aL3,cL3,wh3,hh3,eh3,gl3,dh3,rfl,hW3,hH3,hE3,hG3,hD3,xV3,xD3⟩:=id hm3
    refine dnext (.inl qk) (dcbS hT qk 0 (C3≠0) I (by simp) fun b31 h31=>dend hT qk 1 I<|th (ifP h31 I (fun e7=>?_) (fun e7=>?_)))
    ·rw[if_pos e7] at hR;refine sq (rg (ldp hT 3 0 I I I (fin hT 1 I (th (rt (rT (WQ.del 6 I ?_)))))));rw[hR];exact ret1 I I ⟨le,[_,_,_,_,_,_],I,hm3,by rw[<-hZc];rfl⟩
    ·have e7:=Decidable.not_not.1 e7;subst e7;rw[if_neg (by simp)] at hR;obtain ⟨V,hV⟩:∃ V,V=L3.w.compact (s.idx+1) D3:=⟨_,rfl⟩;rw[<-hV] at hR;unfold lgTop at hix;refine sk (th (sq (rga [pt b3 (snV s aS cS aT cT) 32,pt lb (lgA wb3 db hb3' eb3 L3 (.slice aV3 L3.sn.vot.length cV3) (.slice aD3 L3.sn.data.length cD3) (.slice aL3 L3.l.length cL3)) 91] 9 [0,2,4,6,8,10,12,14,17,19,20] (by simp) qk qk (dldtp [8] hT qk 4 1 I qk I I (dldtp [8,7] hT qk 1 0 I qk I I (dar hT qk 0 I (u64w (x:=((s.idx+1:Nat):Int)) qo) (dact hT qk 0 I (cl hT 0 I (Ct.at2 1 4 I I (compactWH wb3 db L3.w hW3 D3 (c+1+((s.data.length+63) / 64+4)) hZd qo (hZb.w.up qo) (by have:=hZb.w.old;omega) hD3 (s.idx+1) qo)) ?_))))))));rintro v45 K45 hs45 ⟨wh4,dh4,rfl,le4,hW4,hD4,rfl⟩;rw[<-hV] at hW4 hD4 ⊢;refine dnexL [pt b3 (snV s aS cS aT cT) 32,pt lb (lgA wb3 db hb3' eb3 L3 (.slice aV3 L3.sn.vot.length cV3) (.slice aD3 L3.sn.data.length cD3) (.slice aL3 L3.l.length cL3)) 91] (by simp) (by simp) le4 (dact hT qk 0 I (cl hT 0 I (didLC lb wb3 db hb3' eb3 L3 _ _ _ _) ?_))
     rintro v46 K46 hs46 ⟨_,rfl,rfl,rfl,rfl⟩;have ed:didV L3.code V.2.2=V.2.2:=by unfold didV;rw[if_pos hZc]
     rw[ed];refine dnext (.inl qk) (dend hT qk 1 I (th (rt (WQ.del 6 I ?_))));rw[hR];exact ret1 I I ⟨le.trans le4,[_,_,_,_,_,_],I,⟨wb3,hb3',eb3,aV3,cV3,aD3,cD3,aL3,cL3,wh4,hh3,eh3,gl3,dh4,I,hW4,hH3.le le4,hE3.le le4,hG3.imp fun _ _ h=>h.le le4,hD4,xV3.le le4,xD3.le le4⟩,I⟩
 ·rw[if_pos hf] at hR;refine sq (sq (rg (cmp hT 1 I (fun h=>absurd h hf) (fun _=>fin hT 6 I (th (ifF I (sk (th (sq (sq (rg (cmp hT 1 I (fun _=>fin hT 0 I (th (ifT I (sq (rg (fin hT 2 I (th (rt (rT (WQ.del 6 I ?_)))))))))) (fun h=>absurd hf h)))))))))))));rw[hR];exact ret1 I I ⟨Le.refl _,[_,_,_,_,_,_],I,hm0,I⟩
theorem installLC{w0:World}{K:PH}{m hs:List PH}(lb db:Nat)(L:Lg)(D:Dk)(c:Nat)(hb:LBd c L)(hc:c<=499900000)(oD:DOk c D)(hm:LgM K lb db L D m)(s:Snp)(hsi:s.idx<18446744073709551616)(hst:s.term<=mxU)(hvl:s.vot.length<1099511627776)(hdl:s.data.length<1099511627776)
  (aS:Option Addr) (cS:Nat) (aT:Option Addr) (cT:Nat) (xS:IsS K aS s.vot.length cS 1 (iv s.vot)) (xT:IsS K aT s.data.length cT 1 (bv s.data)):
  Ct Tryz.prog w0 45 [.pointer (some ⟨lb,0,none⟩),.agg (snV s aS cS aT cT)] K (m++hs)
   (fun u K' hs'=>Le K K'/\∃ m',hs'=m'++hs/\LgM K' lb db (L.install s D).1 (L.install s D).2.1 m'/\u=.int .i64 (L.install s D).2.2):=by
 have hm0:=hm;obtain ⟨wb,hb',eb,aV,cV,aD,cD,aL,cL,wh,hh,eh,gl,dh,rfl,hW,hH,hE,hG,hD,xV,xD⟩:=hm;obtain ⟨R,hR⟩:∃ R,R=L.install s D:=⟨_,rfl⟩;rw[<-hR];unfold Lg.install at hR;refine enter Tryz.func45 qk I I I (sq (rg (bx hT 0 I fun b3=>WL.hs (pt b3 (snV s aS cS aT cT) 32::([_,_,_,_,_,_]++hs)) I (WL.perm (List.perm_middle (l₁:=[_,_,_,_,_,_])).symm (fin hT 1 I (th (sq (rg (ldS hT 1 6 I I qk (cl hT 0 I (fitsLC (hv:=K) (hd':=K) lb db L D c hb qo hm0 s hsi aS cS aT cT xS hvl hdl) ?_))))))))));rintro v8 K8 hs8 ⟨rfl,rfl,rfl⟩;refine fin hT 1 I (th (sq (sq (rg (cmpS hT 1 I fun b10 h10=>fin hT 0 I (th (ifP h10 I (fun e2=>?_) (fun e2=>?_))))))))
 ·rw[if_pos e2] at hR;refine sq (rg (fin hT 2 I (th (rt (rT (WQ.del 6 I ?_))))));rw[hR];exact ret1 I I ⟨Le.refl _,[_,_,_,_,_,_],I,hm0,I⟩
 ·rw[if_neg e2] at hR;have hf:=Decidable.not_not.1 e2;have hfit:=hf;unfold Lg.fits at hfit
  have hcode:L.code=0:=by
   by_cases h:L.code=0
   ·exact h
   ·rw[if_pos h] at hfit;exact absurd hfit h
  rw[if_neg (by rw[hcode];simp)] at hfit
  have hps:(putConf s.vot).isSome=true/\s.data.length<=2097152:=by
   by_cases h:(putConf s.vot).isSome=false\/2097152<s.data.length
   ·rw[if_pos h] at hfit;cases hfit
   ·have h1:=not_or.1 h;exact ⟨by cases h2:(putConf s.vot).isSome with|true=>rfl|false=>exact absurd h2 h1.1,by omega⟩
  rw[if_neg (by rw[hps.1];simp;exact hps.2)] at hfit
  have hix:L.sn.idx<s.idx/\s.idx<lgTop:=by
   by_cases h:s.idx<=L.sn.idx\/lgTop<=s.idx
   ·rw[if_pos h] at hfit;cases hfit
   ·omega
  have hsB:SBd s:=⟨by omega,hst,putConf_len hps.1,hps.2⟩;refine sk (th (sq (sq (rg (ldS hT 1 6 I I qk (cl hT 0 I (hasLC (hv:=K8) lb db L D c hb qo hm0 s hsi aS cS aT cT) ?_))))));rintro v14 K14 hs14 ⟨rfl,rfl,rfl⟩;cases hhas:lgHas L.sn L.l s with
  | true=>
   rw[if_pos hhas] at hR;refine fin hT 0 I (th (ifT I (sq (rg (ldS hT 1 6 I I qk (cl hT 0 I (saveLC lb db L D c hb hc oD hm0 s hsi hst hvl hdl aS cS aT cT xS xT) ?_))))));rintro v17 K17 hs17 ⟨le,m2,rfl,hm2,rfl⟩;rw[<-hR] at hm2 ⊢;obtain ⟨wb2,hb2',eb2,aV2,cV2,aD2,cD2,aL2,cL2,wh2,hh2,eh2,gl2,dh2,rfl,_⟩:=id hm2;exact fin hT 1 I (th (rt (rT (WQ.del 6 I (ret1 I I ⟨le,[_,_,_,_,_,_],I,hm2,I⟩)))))
  | false=>
   rw[if_neg (by rw[hhas];simp)] at hR;refine fin hT 0 I (th (ifF I (sk (th ?_))));unfold Lg.inst1 at hR;have hnx:=hb.w.next;obtain ⟨Z,hZ⟩:∃ Z,Z=L.lay s L.w.next D:=⟨_,rfl⟩;have hZb:=hb.lay s hsB L.w.next qo D;have hZd:=oD.layL hb qo s hsB L.w.next;have hZc:=lay_code L s L.w.next D;have hdl2:=hsB.data;rw[<-hZ] at hR hZb hZd hZc;unfold wMany at hnx;refine sq (sq (rga [pt b3 (snV s aS cS aT cT) 32,pt lb (lgA wb db hb' eb L (.slice aV L.sn.vot.length cV) (.slice aD L.sn.data.length cD) (.slice aL L.l.length cL)) 91] 7 [0,2,4,6,8,10,13,15,16] (by simp) qk qk (dldS hT qk 1 0 I qk I qk (dldtp [6] hT qk 3 1 I qk I I (dact hT qk 0 I (cl hT 0 I (Ct.keep 1 I (nextWH wb db L.w hW)) ?_))))));rintro v24 K24 hs24 ⟨rfl,rfl,rfl⟩;refine dnex [pt b3 (snV s aS cS aT cT) 32,pt lb (lgA wb db hb' eb L (.slice aV L.sn.vot.length cV) (.slice aD L.sn.data.length cD) (.slice aL L.l.length cL)) 91] (by simp) (by simp) I (dact hT qk 0 I (cl hT 0 I (layLC lb db L D c hb qo oD hm0 hcode s qo hix.1 hst hps.2 (by have:=hsB.vot;omega) aS cS aT cT xS xT L.w.next qo) ?_))
   rintro v25 K25 hs25 ⟨le,m3,rfl,hm3,rfl⟩;rw[<-hZ] at hm3 ⊢;obtain ⟨L3,D3,C3⟩:=Z;dsimp only at hm3 hR hZb hZd hZc;obtain ⟨wb3,hb3',eb3,aV3,cV3,aD3,cD3,aL3,cL3,wh3,hh3,eh3,gl3,dh3,rfl,hW3,hH3,hE3,hG3,hD3,xV3,xD3⟩:=id hm3;refine dnext (.inl qk) (dcbS hT qk 0 (C3≠0) I (by simp) fun b26 h26=>dend hT qk 0 I (th (ifP h26 I (fun e4=>?_) (fun e4=>?_))))
   ·rw[if_pos e4] at hR;refine sq (rg (ldp hT 3 0 I I I (fin hT 1 I (th (rt (rT (WQ.del 6 I ?_)))))));rw[hR];exact ret1 I I ⟨le,[_,_,_,_,_,_],I,hm3,by rw[<-hZc];rfl⟩
   ·have e4:=Decidable.not_not.1 e4;subst e4;rw[if_neg (by simp)] at hR;obtain ⟨V,hV⟩:∃ V,V=L3.w.reset (s.idx+1) D3:=⟨_,rfl⟩;rw[<-hV] at hR;unfold lgTop at hix;refine sk (th (sq (rga [pt b3 (snV s aS cS aT cT) 32,pt lb (lgA wb3 db hb3' eb3 L3 (.slice aV3 L3.sn.vot.length cV3) (.slice aD3 L3.sn.data.length cD3) (.slice aL3 L3.l.length cL3)) 91] 9 [0,2,4,6,8,10,12,14,17,19,20] (by simp) qk qk (dldtp [8] hT qk 4 1 I qk I I (dldtp [8,7] hT qk 1 0 I qk I I (dar hT qk 0 I (u64w (x:=((s.idx+1:Nat):Int)) qo) (dact hT qk 0 I (cl hT 0 I (Ct.at2 1 4 I I (resetWH wb3 db L3.w hW3 D3 (c+((s.data.length+63) / 64+4)) hZd qo (hZb.w.up qo) hD3 (s.idx+1) qo)) ?_))))))));rintro v39 K39 hs39 ⟨wh4,dh4,rfl,le4,hW4,hD4,rfl⟩;rw[<-hV] at hW4 hD4 ⊢;refine dnexL [pt b3 (snV s aS cS aT cT) 32,pt lb (lgA wb3 db hb3' eb3 L3 (.slice aV3 L3.sn.vot.length cV3) (.slice aD3 L3.sn.data.length cD3) (.slice aL3 L3.l.length cL3)) 91] (by simp) (by simp) le4 (dact hT qk 0 I (cl hT 0 I (didLC lb wb3 db hb3' eb3 L3 _ _ _ _) ?_))
    rintro v40 K40 hs40 ⟨_,rfl,rfl,rfl,rfl⟩;have ed:didV L3.code V.2.2=V.2.2:=by unfold didV;rw[if_pos hZc]
    rw[ed];refine dnext (.inl qk) (dend hT qk 1 I (th (rt (WQ.del 6 I ?_))));rw[hR];exact ret1 I I ⟨le.trans le4,[_,_,_,_,_,_],I,⟨wb3,hb3',eb3,aV3,cV3,aD3,cD3,aL3,cL3,wh4,hh3,eh3,gl3,dh4,I,hW4,hH3.le le4,hE3.le le4,hG3.imp fun _ _ h=>h.le le4,hD4,xV3.le le4,xD3.le le4⟩,I⟩
end
section
def rdHard(S:Slt):Option (Nat×Int):=
 if S.num=0 then some (0,-1)
 else if rEnd (rUint 7 (rUint mxU (S.val,0)).2).2=0 then some ((rUint mxU (S.val,0)).1,(((rUint 7 (rUint mxU (S.val,0)).2).1:Nat):Int)-1) else none
def rdDat(D:Dk)(place size:Nat):Nat->Nat->List UInt8->Option (List UInt8)
 | 0,_,acc=>some acc
 | f+1,n,acc=>if acc.length<size then (match D.read (lgA4 place) n with
   | none=>none
   | some b=>rdDat D place size f (n+1) (acc++b)) else some acc
def hd1(b:List UInt8):Nat×Rd:=rUint lgTop (b,0)
def hd2(b:List UInt8):Nat×Rd:=rUint mxU (hd1 b).2
def hd3(b:List UInt8):Nat×Rd:=rUint lgTop (hd2 b).2
def hd4(b:List UInt8):Nat×Rd:=rUint 2097152 (hd3 b).2
def hd5(b:List UInt8):Nat×Rd:=rUint lgTop (hd4 b).2
def hd6(b:List UInt8):Nat×Rd:=rByte (hd5 b).2
def rdHead(D:Dk)(S:Slt)(vot0:List Int):Option (Snp×Nat×Nat):=
 if S.num=0 then some (⟨0,0,vot0,[]⟩,0,0)
 else if rEnd (hd6 S.val).2≠0\/(getConf [UInt8.ofNat (hd6 S.val).1]).isSome=false then none
 else match rdDat D (hd3 S.val).1 (hd4 S.val).1 32769 0 [] with
  | none=>none
  | some d=>some (⟨(hd1 S.val).1,(hd2 S.val).1,(getConf [UInt8.ofNat (hd6 S.val).1]).getD [],d.take (hd4 S.val).1⟩,(hd3 S.val).1,(hd5 S.val).1)
def rdE:Nat->List (List UInt8)->Option (List Ent)
 | _,[]=>some []
 | i,b::r=>match getEnt b with
  | none=>none
  | some e=>if e.idx=i then (rdE (i+1) r).map (e :: ·) else none
def rdEnts(s:Snp)(W:Wl):Option (List Ent):=
 if s.idx+1<W.first\/W.first+W.recs.length<s.idx+1 then none else rdE (s.idx+1) (W.recs.drop (s.idx+1-W.first))
def lgFree(pl:Nat):List Int->Dk->Dk×Int
 | [],D=>(D,0)
 | a::r,D=>if a % 4=2/\a≠((lgA4 pl:Nat):Int) then (if (D.free a).2≠0 then D.free a else lgFree pl r (D.free a).1) else lgFree pl r D
def lOpen3(D:Dk)(kh:Nat×Int)(h:Snp×Nat×Nat)(F:Dk):Option Lg×Dk×Int:=
 match (wOpen F h.2.2 (h.1.idx+1)).1 with
 | none=>(none,(wOpen F h.2.2 (h.1.idx+1)).2.1,if (wOpen F h.2.2 (h.1.idx+1)).2.2=52 then 181 else (wOpen F h.2.2 (h.1.idx+1)).2.2)
 | some w=>match rdEnts h.1 w with
  | none=>(none,(wOpen F h.2.2 (h.1.idx+1)).2.1,181)
  | some l=>(some ⟨w,sltOpen D 0,sltOpen D 4,kh.1,kh.2,h.1,h.2.1,h.2.2,l,0⟩,(wOpen F h.2.2 (h.1.idx+1)).2.1,0)
def lOpen2(D:Dk)(kh:Nat×Int)(h:Snp×Nat×Nat):Option Lg×Dk×Int:=
 if (lgFree h.2.1 (areasL D) D).2≠0 then (none,lgFree h.2.1 (areasL D) D) else lOpen3 D kh h (lgFree h.2.1 (areasL D) D).1
def lOpen(D:Dk)(first:List Int):Option Lg×Dk×Int:=
 if (putConf first).isSome=false then (none,D,181)
 else if D.dead=true then (none,D,30)
 else match rdHard (sltOpen D 0) with
  | none=>(none,D,181)
  | some kh=>match rdHead D (sltOpen D 4) first with
   | none=>(none,D,181)
   | some h=>lOpen2 D kh h
def lgB(wp:Option Nat)(db:Nat)(hp ep:Option Nat)(kt:Nat)(kv:Int)(si st:Nat)(vS dS:Value)(pl fr:Nat)(lS:Value)(cd:Int):Array Value:=
 #[.pointer (wp.map fun b=>⟨b,0,none⟩),.pointer (some ⟨db,0,none⟩),.pointer (hp.map fun b=>⟨b,0,none⟩),.pointer (ep.map fun b=>⟨b,0,none⟩),.int .u64 (kt:Nat),.int .i64 kv,
  .int .u64 (si:Nat),.int .u64 (st:Nat),vS,dS,.int .u64 (pl:Nat),.int .u64 (fr:Nat),lS,.int .i64 cd]
attribute [local irreducible] Code.wp wpList Calls
theorem readHardC{w0:World}{K hh:PH}{hs:List PH}(lb db hb:Nat)(wp ep:Option Nat)(si st:Nat)(vS dS:Value)(pl fr:Nat)(lS:Value)(cd:Int)(S:Slt)(hS:SltH K hb db 0 S hh)(hbd:S.bd):
  Ct Tryz.prog w0 59 [.pointer (some ⟨lb,0,none⟩)] K (pt lb (lgB wp db (some hb) ep 0 (-1) si st vS dS pl fr lS cd) 91::hh::hs)
   (fun v K' hs'=>Le K K'/\∃ kt kv,hs'=pt lb (lgB wp db (some hb) ep kt kv si st vS dS pl fr lS cd) 91::hh::hs/\v=.bool (rdHard S).isSome/\∀ p,rdHard S=some p->p=(kt,kv)):=by
 unfold rdHard;obtain ⟨hn,hv⟩:=hbd;refine enter Tryz.func59 qk I I I (sq (rg (fin hT 1 I (th (sq (sq (rg (ldp hT 3 0 I I I (cl hT 0 I (Ct.keep 1 I (numberSC hb db 0 S hS)) ?_)))))))));rintro v8 K8 hs8 ⟨rfl,rfl,rfl⟩;refine cmpS hT 0 I fun b9 h9=>fin hT 0 I (th (ifP h9 I (fun e2=>?_) (fun e2=>?_)))
 ·rw[if_pos qo];exact sq (rg (fin hT 1 I (th (rt (rT (ret1 I I ⟨Le.refl _,0,-1,I,I,fun p hp=>(Option.some.inj hp).symm⟩))))))
 ·rw[if_neg qo];refine sk (th (sq (rg (ldp hT 3 0 I I I (cl hT 0 I (Ct.at 1 I (valueSC hb db 0 S hS ⟨hn,hv⟩)) ?_)))));rintro v14 K14 hs14 ⟨hh,rfl,rfl,le,ao,k,rfl,x⟩;refine cl hT 0 I (readC ao k S.val (.inl I) x qo) ?_;rintro v15 K15 hs15 ⟨rfl,rb,rd,rh,rfl,rfl,ir⟩;obtain ⟨r1,hr1⟩:∃ r,r=rUint mxU (S.val,0):=⟨_,rfl⟩;have hl1:=rUint_len mxU (S.val,0);have hb1:=rUint_le mxU (S.val,0);rw[<-hr1] at hl1 hb1 ⊢;obtain ⟨r2,hr2⟩:∃ r,r=rUint 7 r1.2:=⟨_,rfl⟩;have hb2:=rUint_le 7 r1.2;rw[<-hr2] at hb2 ⊢;refine fin hT 1 I (th (sq (rg (cl hT 2 I (uintC (.inr ⟨0,I⟩) mxU (S.val,0) (by dsimp only;omega) ir) ?_))));rintro v18 K18 hs18 ⟨rd2,rfl,rfl,rfl,ir2⟩;rw[<-hr1] at ir2 ⊢;refine stp hT 3 2 I I I I (fin hT 0 I (th (sq (rg (cl hT 2 I (uintC (.inr ⟨0,I⟩) 7 r1.2 (by dsimp only at hl1;omega) ir2) ?_)))));rintro v24 K24 hs24 ⟨rd3,rfl,rfl,rfl,ir3⟩;rw[<-hr2] at ir3 ⊢;refine ar hT 0 I (i64w qo) (ar hT 0 I (i64w qo) (stp hT 3 2 I I I I (fin hT 0 I (th (sq (rg (cl hT 1 I (endC r2.2 ir3) ?_)))))))
  rintro v31 K31 hs31 ⟨rfl,rfl,rfl⟩;refine cmpS hT 0 I fun b32 h32=>fin hT 1 I (th (rt (WQ.drop (WQ.drop ?_))))
  by_cases e:rEnd r2.2=0
  ·rw[if_pos e];obtain rfl:b32=true:=h32.2 e;exact ret1 I I ⟨le,r1.1,_,I,I,fun p hp=>(Option.some.inj hp).symm⟩
  ·rw[if_neg e];obtain rfl:b32=false:=by cases b32 with|false=>rfl|true=>exact absurd (h32.1 rfl) e
   exact ret1 I I ⟨le,_,_,I,I,fun p hp=>by cases hp⟩
end
section
theorem rdDat_step(D:Dk)(place size f n:Nat)(acc:List UInt8):rdDat D place size (f+1) n acc=if acc.length<size then (match D.read (lgA4 place) n with
   | none=>none
   | some b=>rdDat D place size f (n+1) (acc++b)) else some acc:=rfl
attribute [local irreducible] Code.wp wpList Calls
theorem readHeadC{w0:World}{K eh dh:PH}{hs:List PH}(lb db eb:Nat)(wp hp:Option Nat)(kt:Nat)(kv:Int)(vot0:List Int)(a0:Option Addr)(c0:Nat)(x0:IsS K a0 vot0.length c0 1 (iv vot0))(lS:Value)(cd:Int)(S:Slt)(hS:SltH K eb db 4 S eh)(hbd:S.bd)(D:Dk)(c:Nat)(oD:D.Ok c)(hc:c<=1000000000)(hd:DskH K db D dh):
  Ct Tryz.prog w0 60 [.pointer (some ⟨lb,0,none⟩)] K (pt lb (lgB wp db hp (some eb) kt kv 0 0 (.slice a0 vot0.length c0) (.slice none 0 0) 0 0 lS cd) 91::eh::dh::hs)
   (fun v K' hs'=>Le K K'/\∃ sn pl fr aV cV aD cD,hs'=pt lb (lgB wp db hp (some eb) kt kv (Snp.idx sn) sn.term (.slice aV sn.vot.length cV) (.slice aD sn.data.length cD) pl fr lS cd) 91::eh::dh::hs/\v=.bool (rdHead D S vot0).isSome /\
    IsS K' aV sn.vot.length cV 1 (iv sn.vot)/\IsS K' aD sn.data.length cD 1 (bv sn.data)/\∀ p,rdHead D S vot0=some p->p=(sn,pl,fr)):=by
 unfold rdHead;obtain ⟨hn,hv⟩:=hbd;refine enter Tryz.func60 qk I I I (sq (rg (fin hT 1 I (th (sq (sq (rg (ldp hT 3 0 I I I (cl hT 0 I (Ct.keep 1 I (numberSC eb db 4 S hS)) ?_)))))))));rintro v15 K15 hs15 ⟨rfl,rfl,rfl⟩;refine cmpS hT 0 I fun b16 h16=>fin hT 0 I (th (ifP h16 I (fun e2=>?_) (fun e2=>?_)))
 ·rw[if_pos qo];exact sq (rg (fin hT 1 I (th (rt (rT (ret1 I I ⟨Le.refl _,⟨0,0,vot0,[]⟩,0,0,a0,c0,none,0,I,I,x0,IsS.nil _ _ _ _,fun p hp=>(Option.some.inj hp).symm⟩))))))
 ·rw[if_neg qo];obtain ⟨a1,h1⟩:∃ r,r=hd1 S.val:=⟨_,rfl⟩;obtain ⟨a2,h2⟩:∃ r,r=hd2 S.val:=⟨_,rfl⟩;obtain ⟨a3,h3⟩:∃ r,r=hd3 S.val:=⟨_,rfl⟩;obtain ⟨a4,h4⟩:∃ r,r=hd4 S.val:=⟨_,rfl⟩;obtain ⟨a5,h5⟩:∃ r,r=hd5 S.val:=⟨_,rfl⟩;obtain ⟨a6,h6⟩:∃ r,r=hd6 S.val:=⟨_,rfl⟩;have g1:rUint lgTop (S.val,0)=a1:=h1.symm;have g2:rUint mxU a1.2=a2:=by rw[h2,h1];rfl
  have g3:rUint lgTop a2.2=a3:=by rw[h3,h2];rfl
  have g4:rUint 2097152 a3.2=a4:=by rw[h4,h3];rfl
  have g5:rUint lgTop a4.2=a5:=by rw[h5,h4];rfl
  have g6:rByte a5.2=a6:=by rw[h6,h5];rfl
  rw[<-h1,<-h2,<-h3,<-h4,<-h5,<-h6];have l1:a1.2.1.length<=48:=by have:=rUint_len lgTop (S.val,0);rw[g1] at this;dsimp only at this;omega
  have l2:a2.2.1.length<=48:=by have:=rUint_len mxU a1.2;rw[g2] at this;omega
  have l3:a3.2.1.length<=48:=by have:=rUint_len lgTop a2.2;rw[g3] at this;omega
  have l4:a4.2.1.length<=48:=by have:=rUint_len 2097152 a3.2;rw[g4] at this;omega
  have l5:a5.2.1.length<=48:=by have:=rUint_len lgTop a4.2;rw[g5] at this;omega
  have m1:a1.1<=lgTop:=by rw[<-g1];exact rUint_le _ _
  have m3:a3.1<=lgTop:=by rw[<-g3];exact rUint_le _ _
  have m4:a4.1<=2097152:=by rw[<-g4];exact rUint_le _ _
  have m5:a5.1<=lgTop:=by rw[<-g5];exact rUint_le _ _
  clear h1 h2 h3 h4 h5 h6;refine sk (th (sq (rg (ldp hT 3 0 I I I (cl hT 0 I (Ct.at 1 I (valueSC eb db 4 S hS ⟨hn,hv⟩)) ?_)))));rintro v21 K21 hs21 ⟨eh,rfl,rfl,le,ao,k,rfl,x⟩;refine cl hT 0 I (readC ao k S.val (.inl I) x qo) ?_;rintro v22 K22 hs22 ⟨rfl,rb,rd,rh,rfl,rfl,ir⟩;refine fin hT 1 I (th (sq (rg (cl hT 1 I (uintC (.inr ⟨0,I⟩) lgTop (S.val,0) (by dsimp only;omega) ir) ?_))));rintro v24 K24 hs24 ⟨rd1,rfl,rfl,rfl,ir⟩;rw[g1] at ir ⊢;refine cl hT 1 I (uintC (.inr ⟨0,I⟩) mxU a1.2 qo ir) ?_;rintro v26 K26 hs26 ⟨rd2,rfl,rfl,rfl,ir⟩;rw[g2] at ir ⊢;refine bd hT 0 (.agg #[.int .u64 a1.1,.int .u64 a2.1,.slice none 0 0,.slice none 0 0]) I (fun w=>by kernel_rfl) (al hT 0 (.agg #[.int .u64 0,.int .u64 0,.slice none 0 0,.slice none 0 0]) I qk fun b4=>stS hT 0 0 I I qk I I (fin hT 0 I (th (sq (rg (cl hT 2 I (Ct.at 1 I (uintC (.inr ⟨1,I⟩) lgTop a2.2 qo ir)) ?_))))))
  rintro v30 K30 hs30 ⟨rd3,rfl,rfl,rfl,ir⟩;rw[g3] at ir ⊢;refine stp hT 2 3 I I I I (fin hT 0 I (th (sq (rg (cl hT 1 I (Ct.at 1 I (uintC (.inr ⟨1,I⟩) 2097152 a3.2 qo ir)) ?_)))));rintro v34 K34 hs34 ⟨rd4,rfl,rfl,rfl,ir⟩;rw[g4] at ir ⊢;refine ar hT 0 I (i64w (x:=((a4.1:Nat):Int)) qo) (fin hT 1 I (th (sq (rg (cl hT 2 I (Ct.at 1 I (uintC (.inr ⟨1,I⟩) lgTop a4.2 qo ir)) ?_)))));rintro v38 K38 hs38 ⟨rd5,rfl,rfl,rfl,ir⟩;rw[g5] at ir ⊢;refine stp hT 2 3 I I I I (WL.hs (pt b4 #[.int .u64 a1.1,.int .u64 a2.1,.slice none 0 0,.slice none 0 0] 32::rd5::rh::pt lb (lgB wp db hp (some eb) kt kv 0 0 (.slice a0 vot0.length c0) (.slice none 0 0) a3.1 a5.1 lS cd) 91::eh::dh::hs) I (fin hT 0 I (th (sq (rg (cl hT 1 I (Ct.at 1 I (byteC (.inr ⟨1,I⟩) a5.2 ir)) ?_))))));rintro v43 K43 hs43 ⟨rd6,rfl,rfl,rfl,ir⟩;rw[g6] at ir ⊢;have hb6:a6.1<256:=by rw[<-g6];exact rByte_lt _
  refine lit hT 0 #[.int .u8 a6.1] I (by decide) qk fun b44=>?_;have o44:=own_byte b44 a6.1 hb6;refine cl hT 0 I (getConfC (some ⟨b44,0,none⟩) 1 [UInt8.ofNat a6.1] (.inr ⟨0,I⟩) o44.isS (by simp)) ?_;rintro v45 K45 hs45 ⟨rfl,h45,ao45,c45,rfl,rfl,o45⟩;obtain ⟨C,hC⟩:∃ C,C=getConf [UInt8.ofNat a6.1]:=⟨_,rfl⟩;rw[<-hC] at o45 ⊢;refine al hT 3 (.agg #[.slice none 0 0]) I qk fun b6=>stS hT 0 0 I I qk I I (WL.hs (pt b6 #[.slice ao45 (C.getD []).length c45] 29::h45::pt b44 #[.int .u8 a6.1] 5::pt b4 #[.int .u64 a1.1,.int .u64 a2.1,.slice none 0 0,.slice none 0 0] 32::rd6::rh::pt lb (lgB wp db hp (some eb) kt kv 0 0 (.slice a0 vot0.length c0) (.slice none 0 0) a3.1 a5.1 lS cd) 91::eh::dh::hs) I (fin hT 1 I (th (sq (sq (rg (cl hT 1 I (Ct.keep 4 I (endC a6.2 ir)) ?_)))))));rintro v49 K49 hs49 ⟨rfl,rfl,rfl⟩;refine cmpS hT 0 I fun b50 h50=>?_
  refine' bjo (q:=C.isSome=false) hT 1 3 54 [50,51] h50 I I I I I I I (fun _=>?x4) (fun b54 h54=>?_)
  case x4=>
   exact cmpS hT 1 I fun b53 h53=>fin hT 1 I (bjx (h53.trans (by cases C <;> simp[ec])) rfl rfl rfl)
  refine fin hT 0 I<|th (ifP h54 I (fun e6=>?_) (fun e6=>?_))
  ·rw[if_pos e6];exact sq (rg (fin hT 1 I (th (rt (rT (WQ.drop (WQ.drop (WQ.drop (WQ.drop (WQ.drop (WQ.drop (ret1 I I ⟨le,⟨0,0,vot0,[]⟩,a3.1,a5.1,a0,c0,none,0,I,I,x0.le le,IsS.nil _ _ _ _,fun p hp=>by cases hp⟩))))))))))))
  ·rw[if_neg e6]
   obtain ⟨cf,rfl⟩:∃ cf,C=some cf:=by
    cases C with
    | none=>exact absurd (.inr rfl) e6
    | some cf=>exact ⟨cf,rfl⟩
   have o45:Own h45 ao45 cf.length c45 3 1 (iv cf):=o45;refine sk (th (sq (rg (ldS hT 0 0 I I qk (sts hT 1 3 I I qk (by simp) (fun v hv=>by simp at hv;subst hv;rfl) (WL.drop (WL.frz fun K1 l1 l2=>WL.drop (WL.del 1 rfl (WL.del 1 rfl ?_)))))))));have x45:=o45.isS.le l2;have le1:=le.trans l1;refine WL.hs (pt b4 #[.int .u64 a1.1,.int .u64 a2.1,.slice ao45 cf.length c45,.slice none 0 0] 32::pt lb (lgB wp db hp (some eb) kt kv 0 0 (.slice a0 vot0.length c0) (.slice none 0 0) a3.1 a5.1 lS cd) 91::eh::dh::hs) I (fin hT 0 I (th (sq (sq (rg ?_)))));obtain ⟨R,hR⟩:∃ R,R=rdDat D a3.1 a4.1 32769 0 []:=⟨_,rfl⟩;rw[<-hR];refine fin hT 1 I (th (bk (WC.em ?_)))
   refine loop (σ:=(Nat×List UInt8)×(Option Addr×Nat×PH)×PH) (fun s=>[(0,.pointer (some ⟨lb,0,none⟩)),(4,.pointer (some ⟨b4,0,none⟩)),(5,.int .i64 a4.1),(8,.int .i64 s.1.1)]) (fun s=>s.2.2)
    (fun s=>s.2.1.2.2::pt b4 #[.int .u64 a1.1,.int .u64 a2.1,.slice ao45 cf.length c45,.slice s.2.1.1 s.1.2.length s.2.1.2.1] 32::pt lb (lgB wp db hp (some eb) kt kv 0 0 (.slice a0 vot0.length c0) (.slice none 0 0) a3.1 a5.1 lS cd) 91::eh::dh::hs)
    (fun s=>s.1.2.length=64*s.1.1/\s.1.1<=32768/\rdDat D a3.1 a4.1 (32769-s.1.1) s.1.1 s.1.2=R/\Le K1 s.2.2/\Own s.2.1.2.2 s.2.1.1 s.1.2.length s.2.1.2.1 5 1 (bv s.1.2)) (fun s=>32769-s.1.1)
    ((0,[]),(none,0,em),K1) ⟨rfl,Nat.zero_le _,hR.symm,Le.refl _,Own.nil _ _⟩ ⟨rfl,rfl,rfl,rfl,trivial⟩ rfl rfl ?_
   rintro ⟨⟨n,acc⟩,⟨ag,cg,g⟩,K2⟩ ⟨hal,hn2,hw,le2,og⟩;dsimp only at *;have le12:=le1.trans le2;rw[show 32769-n=(32768-n)+1 from by omega,rdDat_step] at hw;unfold lgTop at m3 m5 m1;refine sq (sq (rg (ldp hT 1 1 I I I (cmpS hT 2 I fun b61 h61=>fin hT 0 I (th (ifP h61 I (fun e8=>?_) (fun e8=>?_)))))))
   ·rw[if_pos qo] at hw;have hn3:n<32768:=by omega
    refine sk (th (sq (bk (sq (rga [pt lb (lgB wp db hp (some eb) kt kv 0 0 (.slice a0 vot0.length c0) (.slice none 0 0) a3.1 a5.1 lS cd) 91] 16 [0,2,4,6,8,10,12,14,18,17,21,22,24,26,28,30] (by simp) qk qk (dldp hT qk 3 0 I I I (dldp hT qk 3 0 I I I (dact hT qk 1 I (cl hT 0 I (areaLC a3.1 qo) ?_)))))))));rintro v73 K73 hs73 ⟨rfl,rfl,rfl⟩;refine dnex [pt lb (lgB wp db hp (some eb) kt kv 0 0 (.slice a0 vot0.length c0) (.slice none 0 0) a3.1 a5.1 lS cd) 91] (by simp) (by simp) I (dact hT qk 0 I (cl hT 0 I (Ct.at 4 I (readH db D c oD qo (hd.le le12) (lgA4 a3.1) n)) ?_));rintro v75 K75 hs75 ⟨dh,rfl,rfl,le3,hrd⟩;refine dnexL [pt lb (lgB wp db hp (some eb) kt kv 0 0 (.slice a0 vot0.length c0) (.slice none 0 0) a3.1 a5.1 lS cd) 91] (by simp) (by simp) le3 ?_;rcases hrd with ⟨hnone,rfl⟩|⟨bs,ab,kb,hsome,hbl,rfl,xb⟩
    ·rw[hnone] at hw;refine dend hT qk 5 I (th (sq (sq (rg (fin hT 2 I (th (ifT I (sq (rg (fin hT 1 I (th (rt (rT (rB (rT (rT (rB (rT (WQ.drop (WQ.drop ?_))))))))))))))))))));rw[<-hw];exact ret1 I I ⟨le12.trans le3,⟨0,0,vot0,[]⟩,a3.1,a5.1,a0,c0,none,0,I,I,x0.le (le12.trans le3),IsS.nil _ _ _ _,fun p hp=>by cases hp⟩
    ·rw[hsome] at hw;dsimp only at hw;refine dend hT qk 5 I (th (sq (sq (rg (fin hT 2 I (th (ifF I (sk (th (rg (ldp hT 1 1 I I I (app hT 1 0 I I og (.inl I) xb I (by decide) (bv_one _) (by show (acc.length+bs.length)*1<=_;omega) (by simp only[maxLen];omega) fun ao83 c83 g83 o83=>?_))))))))))));have o83':Own g83 ao83 (acc++bs).length c83 5 1 (bv (acc++bs)):=own_of o83 (by rw[List.length_append]) (by rw[bv_append]);refine stp hT 1 1 I I I I (fin hT 0 I (bl (th (rg (ar hT 1 I (i64w (x:=((n+1:Nat):Int)) qo) (fin hT 1 I (again (x:=((n,acc),(ag,cg,g),em)) ((n+1,acc++bs),(ao83,c83,g83),K75) ⟨I,I,I,I,trivial⟩ I (by dsimp only;rw[List.length_append];rfl) ⟨by dsimp only;rw[List.length_append];omega,by dsimp only;omega,?_,le2.trans le3,o83'⟩ (by dsimp only;omega))))))));dsimp only;rw[show 32769-(n+1)=32768-n from by omega];exact hw
   ·rw[if_neg qo] at hw;rw[<-hw];dsimp only;have hcg:=og.isS.2.1;refine ex (xt (xt (xb (th (sq (rg (ldp hT 1 1 I I I ?_)))))))
    refine sl hT 1 0 a4.1 I og.isS I (by show ((a4.1:Nat):Int)=((0+a4.1:Nat):Int);omega) qo (ys:=bv (acc.take a4.1)) (by
     show ((bv acc).drop (0*1)).take (a4.1*1)=_;simp[bv]) fun ao88 c88 x88=>?_
    refine stp hT 1 1 I I I I (WL.frz fun K3 l3 l4=>?_);have x88':=x88.le l4;have hln:(acc.take a4.1).length=a4.1:=by rw[List.length_take];omega
    exact WL.hs (pt b4 #[.int .u64 a1.1,.int .u64 a2.1,.slice ao45 cf.length c45,.slice ao88 a4.1 c88] 32::pt lb (lgB wp db hp (some eb) kt kv 0 0 (.slice a0 vot0.length c0) (.slice none 0 0) a3.1 a5.1 lS cd) 91::eh::dh::hs) I (fin hT 0 I (th (sq (rg (ldS hT 1 0 I I qk (sts hT 2 1 I I qk (by simp[lgB]) (fun v hv=>by simp at hv;rcases hv with rfl|rfl|rfl|rfl <;> rfl) (fin hT 0 rfl (th (sq (rg (WL.drop (fin hT 1 rfl (th (rt (ret1 rfl rfl ⟨le12.trans l3,⟨a1.1,a2.1,cf,acc.take a4.1⟩,a3.1,a5.1,ao45,c45,ao88,c88,by dsimp only;rw[hln];rfl,rfl,x45.le (le2.trans l3),by dsimp only;rw[hln];exact x88',fun p hp=>(Option.some.inj hp).symm⟩)))))))))))))))
end
section
theorem WL.fr{P:Program}{w0:World}{ops:Array Oper}{Q:Exit->Act->World->Prop}{rest:List Oper}{n:Nat}{l:Sl}{K:PH}{hs:List PH}(i:Nat){h:PH}(hi:hs[i]?=some h)(hk:WL P w0 ops Q rest n l K (h::hs.eraseIdx i)):WL P w0 ops Q rest n l K hs:=fun a w ha hw=>hk a w ha (hw.perm (perm_front hs i h hi))
theorem WC.fr{P:Program}{w0:World}{Q:Exit->Act->World->Prop}{n:Nat}{l:Sl}{K:PH}{hs:List PH}{c:Code}(i:Nat){h:PH}(hi:hs[i]?=some h)(hk:WC P w0 c Q n l K (h::hs.eraseIdx i)):WC P w0 c Q n l K hs:=fun a w ha hw=>hk a w ha (hw.perm (perm_front hs i h hi))
theorem WQ.fr{w0:World}{Q:Exit->Act->World->Prop}{e:Exit}{n:Nat}{l:Sl}{K:PH}{hs:List PH}(i:Nat){h:PH}(hi:hs[i]?=some h)(hk:WQ w0 Q e n l K (h::hs.eraseIdx i)):WQ w0 Q e n l K hs:=fun a w ha hw=>hk a w ha (hw.perm (perm_front hs i h hi))
theorem rdE_cons(i:Nat)(b:List UInt8)(r:List (List UInt8)):rdE i (b::r)=match getEnt b with
  | none=>none
  | some e=>if e.idx=i then (rdE (i+1) r).map (e :: ·) else none:=rfl
attribute [local irreducible] Code.wp wpList Calls
theorem readEntriesC{w0:World}{K wh:PH}{hs:List PH}(lb db wb:Nat)(hp ep:Option Nat)(kt:Nat)(kv:Int)(s:Snp)(hsi:s.idx<=lgTop)(vS dS:Value)(pl fr:Nat)(cd:Int)(W:Wl)(hW:WalH K wb db W wh)(c:Nat)(hb:WBd c W)(hc:c<=1000000000):
  Ct Tryz.prog w0 64 [.pointer (some ⟨lb,0,none⟩)] K (pt lb (lgB (some wb) db hp ep kt kv s.idx s.term vS dS pl fr (.slice none 0 0) cd) 91::wh::hs)
   (fun v K' hs'=>Le K K'/\∃ gl aL cL l,hs'=gl::pt lb (lgB (some wb) db hp ep kt kv s.idx s.term vS dS pl fr (.slice aL (List.length l) cL) cd) 91::wh::hs/\v=.bool (rdEnts s W).isSome /\
    SlZ 4 46 (EntC K') gl aL l.length cL l/\∀ x,rdEnts s W=some x->x=l):=by
 obtain ⟨R,hR⟩:∃ R,R=rdEnts s W:=⟨_,rfl⟩;rw[<-hR];unfold rdEnts at hR;have hlast:=hb.last;have hrecs:=hb.recs;unfold wTop at hlast;unfold lgTop at hsi;obtain ⟨total,htot⟩:∃ t,t=W.first+W.recs.length:=⟨_,rfl⟩
 have hlv:lastV total=if total=0 then 18446744073709551615 else ((total:Nat):Int)-1:=rfl;refine enter Tryz.func64 qk I I I (sq (rg (fin hT 1 I (th (sq (rg (ldp hT 3 0 I I I (fin hT 1 I (th (sq (sq (rga [pt lb (lgB (some wb) db hp ep kt kv s.idx s.term vS dS pl fr (.slice none 0 0) cd) 91] 19 [0,4,6,8,10,12,14,3,16,18,20,24,26,28,30,32,23,34,36] (by simp) qk qk (dldp hT qk 5 0 I I I (dar hT qk 0 I (u64w (x:=((s.idx+1:Nat):Int)) qo) (dact hT qk 0 I (cl hT 0 I (Ct.keep 1 I (firstWH wb db W hW)) ?_))))))))))))))));rintro v14 K14 hs14 ⟨rfl,rfl,rfl⟩;refine dnex [pt lb (lgB (some wb) db hp ep kt kv s.idx s.term vS dS pl fr (.slice none 0 0) cd) 91] (by simp) (by simp) I (dcmp hT qk 0 (s.idx+1<W.first) I (by simp;omega) (fun h1=>?_) (fun h1=>?_))
 ·rw[if_pos (.inl h1)] at hR;refine dact hT qk 7 I (WL.pures hT 1 I (dnex [pt lb (lgB (some wb) db hp ep kt kv s.idx s.term vS dS pl fr (.slice none 0 0) cd) 91] (by simp) (by simp) I (dend hT qk 2 I (th (ifT I (sq (rg (fin hT 1 I (th (rt (rT (WQ.em ?_))))))))))));rw[hR];exact ret1 I I ⟨Le.refl _,em,none,0,[],I,I,SlZ.nil _ _,fun x hx=>by cases hx⟩
 ·refine dldp hT qk 6 0 I I I (dact hT qk 0 I (cl hT 0 I (Ct.keep 1 I (lastWH wb db W hW hb.last)) ?_));rintro v24 K24 hs24 ⟨rfl,rfl,rfl⟩;rw[<-htot] at hR ⊢;refine dnex [pt lb (lgB (some wb) db hp ep kt kv s.idx s.term vS dS pl fr (.slice none 0 0) cd) 91] (by simp) (by simp) I (dcbS hT qk 0 (lastV total<((s.idx:Nat):Int)) I (by simp) fun b30 h30=>dend hT qk 1 I (th (ifP h30 I (fun e2=>?_) (fun e2=>?_))))
  ·rw[if_pos (by right;rw[hlv] at e2;split at e2 <;> omega)] at hR;refine sq (rg (fin hT 1 I (th (rt (rT (WQ.em ?_))))));rw[hR];exact ret1 I I ⟨Le.refl _,em,none,0,[],I,I,SlZ.nil _ _,fun x hx=>by cases hx⟩
  ·refine sk<|th (sq<|sq (rg<|ldp hT 4 0 I I I (ar hT 0 I (u64w (x:=((s.idx+1+0:Nat):Int)) qo)<|fin hT 1 I (th<|bk (WC.em ?_)))))
   have h0:(total=0/\R=none/\0=0)\/(s.idx+1+0<=total/\R=(rdE (s.idx+1+0) (W.recs.drop (s.idx+1-W.first+0))).map (([]:List Ent) ++ ·)):=by
    rw[hlv] at e2
    by_cases h:total=0
    ·rw[if_pos qo] at hR;exact .inl ⟨h,hR,I⟩
    ·rw[if_neg h] at e2;rw[if_neg qo] at hR;refine .inr ⟨by omega,?_⟩;rw[hR,Nat.add_zero,Nat.add_zero]
     simp
   refine loop (σ:=(Nat×List Ent)×(Option Addr×Nat×PH)×PH) (fun x=>[(0,.pointer (some ⟨lb,0,none⟩)),(3,.pointer (some ⟨wb,0,none⟩)),(4,.int .u64 (s.idx+1+x.1.1:Nat))]) (fun x=>x.2.2)
    (fun x=>x.2.1.2.2::pt lb (lgB (some wb) db hp ep kt kv s.idx s.term vS dS pl fr (.slice x.2.1.1 x.1.2.length x.2.1.2.1) cd) 91::wh::hs)
    (fun x=>((total=0/\R=none/\x.1.1=0)\/(s.idx+1+x.1.1<=total/\R=(rdE (s.idx+1+x.1.1) (W.recs.drop (s.idx+1-W.first+x.1.1))).map (x.1.2 ++ ·)))/\x.1.2.length=x.1.1/\Le K24 x.2.2/\SlZ 4 46 (EntC x.2.2) x.2.1.2.2 x.2.1.1 x.1.2.length x.2.1.2.1 x.1.2) (fun x=>W.recs.length+1-x.1.1)
    ((0,[]),(none,0,em),K24) ⟨h0,rfl,Le.refl _,SlZ.nil _ _⟩ ⟨rfl,rfl,rfl,trivial⟩ rfl rfl ?_
   clear h0 hR;rintro ⟨⟨j,l⟩,⟨aL,cL,gl⟩,K1⟩ ⟨hj,hl,le1,oL⟩;dsimp only at *;refine sq (sq (rg (cl hT 2 I (Ct.keep 2 I (lastWH wb db W (hW.le le1) hb.last)) ?_)));rintro v40 K40 hs40 ⟨rfl,rfl,rfl⟩;rw[<-htot];refine cmpS hT 0 I fun b41 h41=>fin hT 0 I (th (ifP h41 I (fun e4=>?_) (fun e4=>?_)))
   ·obtain ⟨i,hi⟩:∃ i,i=s.idx+1+j:=⟨_,rfl⟩;have hiB:i<18446744073709551616:=by rw[hlv] at e4;split at e4 <;> omega
    refine sk (th (sq (bk (sq (rg (cl hT 2 I (Ct.at 2 I (getWH wb db W c hc hb (hW.le le1) (s.idx+1+j) qo)) ?_))))));rintro v47 K47 hs47 ⟨wh,rfl,rfl,le2,hv⟩;have le12:=le1.trans le2
    obtain ⟨r0,ar0,kr,t0,rfl,xr,hcase⟩:∃ r0 ar0 kr t0,v47=.tuple #[.slice ar0 (List.length r0) kr,.bool t0]/\IsS K47 ar0 r0.length kr 1 (bv r0)/\((r0=[]/\¬(W.first<=s.idx+1+j/\s.idx+1+j-W.first<W.recs.length))\/(W.first<=s.idx+1+j/\W.recs[s.idx+1+j-W.first]?=some r0)):=by
     rcases hv with ⟨hno,rfl⟩|⟨r,ao,k,h1',h2',rfl,x⟩
     ·exact ⟨[],none,0,false,I,IsS.nil _ _ _ _,.inl ⟨I,hno⟩⟩
     ·exact ⟨r,ao,k,true,I,x,.inr ⟨h1',h2'⟩⟩
    have hr0l:r0.length<=512:=by
     rcases hcase with ⟨h,_⟩|⟨_,h⟩
     ·rw[h];exact Nat.zero_le _
     ·exact hb.recl r0<|List.mem_of_getElem? h
    have hstep:R=match getEnt r0 with
      | none=>none
      | some e=>if e.idx=i then (rdE (i+1) (W.recs.drop (s.idx+1-W.first+(j+1)))).map ((l++[e]) ++ ·) else none:=by
     rcases hj with ⟨ht,hRn,_⟩|⟨ht,hRs⟩
     ·rcases hcase with ⟨h,_⟩|⟨_,h⟩
      ·rw[h,hRn];rfl
      ·have:=(List.getElem?_eq_some_iff.1 h).1;omega
     ·rcases hcase with ⟨_,h⟩|⟨hf,h⟩
      ·exfalso
       rw[hlv] at e4
       split at e4 <;> omega
      ·have hk:s.idx+1+j-W.first=s.idx+1-W.first+j:=by omega
       rw[hk] at h;have hkl:=(List.getElem?_eq_some_iff.1 h).1;rw[List.drop_eq_getElem_cons hkl,show W.recs[s.idx+1-W.first+j]=r0 from by rw[List.getElem?_eq_getElem hkl] at h;exact Option.some.inj h,rdE_cons,<-hi] at hRs;rw[hRs];cases getEnt r0 with
       | none=>rfl
       | some e=>
        dsimp only
        by_cases he:e.idx=i
        ·rw[if_pos he,if_pos he];cases rdE (i+1) (W.recs.drop (s.idx+1-W.first+j+1)) with
         | none=>rfl
         | some t=>simp
        ·rw[if_neg he,if_neg he];rfl
    refine fin hT 5 I (th (sq (rg (cl hT 1 I (getEntC ar0 kr r0 (.inl I) xr qo) ?_))));rintro v52 K52 hs52 ⟨rfl,h52,ao52,c52,rfl,rfl,o52⟩;obtain ⟨oe,hoe⟩:∃ oe,oe=getEnt r0:=⟨_,rfl⟩;rw[<-hoe] at o52 hstep ⊢;refine al hT 3 (.agg #[.int .u64 0,.int .u64 0,.int .i64 0,.slice none 0 0]) I qk fun b7=>stS hT 0 0 I I qk I I (WL.hs (pt b7 ((oe.getD Ent.zero).v ao52 c52) 46::h52::gl::pt lb (lgB (some wb) db hp ep kt kv s.idx s.term vS dS pl fr (.slice aL l.length cL) cd) 91::wh::hs) I (fin hT 1 I (th (sq (sq (rg (cmpS hT 1 I fun b56 h56=>?_)))))))
    refine' bjo (q:=(oe.getD Ent.zero).idx≠i) hT 1 5 62 [56,57] h56 I I I I I I I (fun _=>?x6) (fun b62 h62=>?_)
    case x6=>
     exact ldp hT 1 0 I I I (cmpS hT 1 I fun b61 h61=>fin hT 1 I (bjx (h61.trans (by rw[hi];omega)) rfl rfl rfl))
    refine fin hT 0 I<|th (ifP h62 I (fun e8=>?_) (fun e8=>?_))
    ·have hRn:R=none:=by
      rw[hstep];cases oe with
      | none=>rfl
      | some e=>
       have:e.idx≠i:=by
        rcases e8 with h|h
        ·simp[ec] at h
        ·exact h
       dsimp only;rw[if_neg this]
     refine sq (rg (WL.drop (WL.drop (fin hT 1 I (th (rt (rT (rB (rT (rT (rB (rT ?_))))))))))));rw[hRn];exact ret1 I I ⟨le12,gl,aL,cL,l,I,I,oL.imp fun _ _ h=>h.le le2,fun x hx=>by cases hx⟩
    ·obtain ⟨e,rfl⟩:∃ e,oe=some e:=by
      cases oe with
      | none=>exact absurd (.inl (by simp[ec])) e8
      | some e=>exact ⟨e,rfl⟩
     have hei:e.idx=i:=by
      by_cases h:e.idx=i
      ·exact h
      ·exact absurd (.inr h) e8
     dsimp only at hstep;rw[if_pos hei] at hstep;have o52:Own h52 ao52 e.data.length c52 5 1 (bv e.data):=o52
     have hjr:j<=W.recs.length:=by
      rcases hj with ⟨h,hRn,_⟩|⟨h,_⟩
      ·rcases hcase with ⟨h9,_⟩|⟨_,h9⟩
       ·rw[h9] at hoe;cases hoe
       ·have:=(List.getElem?_eq_some_iff.1 h9).1;omega
      ·omega
     have hnt:total≠0:=fun ht=>by
      rcases hcase with ⟨h9,_⟩|⟨_,h9⟩
      ·rw[h9] at hoe;cases hoe
      ·have:=(List.getElem?_eq_some_iff.1 h9).1;omega
     have hit:i<total:=by rw[hlv,if_neg hnt] at e4;omega
     refine sk (th (WC.fr 1 I (WC.frz fun K2 l1 l2=>?_)));have le23:=le2.trans l1;have x52:=o52.isS.le l2;refine WC.perm (hs':=pt b7 (e.v ao52 c52) 46::gl::pt lb (lgB (some wb) db hp ep kt kv s.idx s.term vS dS pl fr (.slice aL l.length cL) cd) 91::wh::hs) (List.Perm.refl _) (rga [pt lb (lgB (some wb) db hp ep kt kv s.idx s.term vS dS pl fr (.slice aL l.length cL) cd) 91,pt b7 (e.v ao52 c52) 46] 10 [0,2,4,6,8,10,13,15,16,18,21] (by simp) qk qk (dldpw hT qk 4 0 I qk I I (dldS hT qk 0 1 I qk I qk (dact hT qk 0 I (lit hT 0 (e.v ao52 c52) I (by decide) qk fun b69=>dnex [pt lb (lgB (some wb) db hp ep kt kv s.idx s.term vS dS pl fr (.slice aL l.length cL) cd) 91,pt b7 (e.v ao52 c52) 46] (by simp) (by simp) I (dact hT qk 0 I (appSq hT 0 2 (e.v ao52 c52).toList e I I I (oL.imp fun _ _ h=>h.le le23) ⟨ao52,c52,I,x52⟩ I (by simp[Ent.v,Value.oneCell']) I (by decide) (by show (l.length+1)*48<=_;omega) (by simp only[maxLen];omega) fun ao70 c70 g70 o70=>dnex [pt lb (lgB (some wb) db hp ep kt kv s.idx s.term vS dS pl fr (.slice aL l.length cL) cd) 91,pt b7 (e.v ao52 c52) 46] (by simp) (by simp) rfl (dact hT qk 2 rfl (stp hT 0 3 rfl rfl rfl rfl ?_)))))))))
     refine dnext (.inl qk) (dend hT qk 0 I (bl (th (rg (WL.drop (WL.drop (ar hT 1 I (u64w (x:=((s.idx+1+(j+1):Nat):Int)) qo) (fin hT 1 I (again (x:=((j,l),(aL,cL,gl),em)) ((j+1,l++[e]),(ao70,c70,g70),K2) ⟨I,I,I,trivial⟩ I (by dsimp only;rw[List.length_append];rfl) ⟨.inr ⟨by dsimp only;omega,?_⟩,by dsimp only;rw[List.length_append];simp only[List.length_cons,List.length_nil];omega,le1.trans le23,by dsimp only;rw[List.length_append];exact o70⟩ (by dsimp only;omega))))))))));dsimp only;rw[hstep,show s.idx+1+(j+1)=i+1 from by omega]
   ·have hfin:R=some l:=by
     rcases hj with ⟨h,hRn,hj0⟩|⟨h,hRs⟩
     ·rw[hlv,if_pos h] at e4;exfalso;omega
     ·have hit:s.idx+1+j=total:=by
       rw[hlv] at e4
       split at e4 <;> omega
      rw[List.drop_eq_nil_of_le qo] at hRs;rw[hRs];simp[rdE]
    refine ex (xt (xt (xb (th (sq (rg (fin hT 1 I (th (rt ?_)))))))));rw[hfin];exact ret1 I I ⟨le1,gl,aL,cL,l,I,I,oL,fun x hx=>(Option.some.inj hx).symm⟩
end
section
theorem lgFree_cons(pl:Nat)(a:Int)(r:List Int)(D:Dk):lgFree pl (a::r) D=if a % 4=2/\a≠((lgA4 pl:Nat):Int) then (if (D.free a).2≠0 then D.free a else lgFree pl r (D.free a).1) else lgFree pl r D:=rfl
theorem DOk.lgFree(pl:Nat):∀ (l:List Int) (D:Dk) (c:Nat),DOk c D->DOk (c+l.length) (lgFree pl l D).1
 | [],D,c,o=>o
 | a::r,D,c,o=>by
  rw[lgFree_cons];simp only[List.length_cons]
  split
  ·split
   ·exact (o.free a).up qo
   ·exact (DOk.lgFree pl r _ _<|o.free a).up qo
  ·exact (DOk.lgFree pl r D c o).up qo
theorem wOpen_code{D:Dk}{fr first:Nat}:((wOpen D fr first).1=none->(wOpen D fr first).2.2≠0)/\(∀ W,(wOpen D fr first).1=some W->(wOpen D fr first).2.2=0):=by
 unfold wOpen
 split
 ·exact ⟨fun _=>(show (30:Int)≠0 by decide),fun W h=>by cases h⟩
 ·split
  ·exact ⟨fun _=>(show (52:Int)≠0 by decide),fun W h=>by cases h⟩
  ·split
   ·exact ⟨fun _=>(show (52:Int)≠0 by decide),fun W h=>by cases h⟩
   ·split
    ·exact ⟨fun _=>(show (52:Int)≠0 by decide),fun W h=>by cases h⟩
    ·split
     ·rename_i h;exact ⟨fun _=>h,fun W h=>by cases h⟩
     ·exact ⟨(fun h=>by cases h),fun W h=>I⟩
theorem rdHead_bd{D:Dk}{S:Slt}{v:List Int}{p:Snp×Nat×Nat}(h:rdHead D S v=some p):p.1.idx<=lgTop/\p.2.1<=lgTop/\p.2.2<=lgTop:=by
 unfold rdHead at h
 split at h
 ·cases h;exact ⟨Nat.zero_le _,Nat.zero_le _,Nat.zero_le _⟩
 ·split at h
  ·cases h
  ·split at h
   ·cases h
   ·cases h;exact ⟨rUint_le _ _,rUint_le _ _,rUint_le _ _⟩
attribute [local irreducible] Code.wp wpList Calls
theorem openSH{w0:World}{K h:PH}{hs:List PH}(b:Nat)(D:Dk)(c:Nat)(o:D.Ok c)(hc:c<=1099511627)(hm:DskH K b D h)(area:Nat):
  Ct Tryz.prog w0 58 [.pointer (some ⟨b,0,none⟩),.int .u64 (area:Nat)] K (h::hs)
   (fun v K' hs'=>∃ h' new,hs'=new++h'::hs/\h'=h/\Le K K'/\((D.dead=true/\new=[]/\v=.tuple #[.pointer none,.int .i64 30])\/(D.dead=false/\∃ sb s,new=[s]/\SltH K' sb b area (sltOpen D area) s/\v=.tuple #[.pointer (some ⟨sb,0,none⟩),.int .i64 0]))):=
 (openSC b D c o hc hm area).mono fun v K' hs' hR=>by
  rcases hR with ⟨h1,rfl,rfl,rfl⟩|⟨h1,le,sb,s,rfl,hS,rfl⟩
  ·exact ⟨h,[],I,I,Le.refl _,.inl ⟨h1,I,I⟩⟩
  ·exact ⟨h,[s],I,I,le,.inr ⟨h1,sb,s,I,hS,I⟩⟩
theorem openWH{w0:World}{K dh:PH}{hs:List PH}(db:Nat)(D:Dk)(c:Nat)(oD:DOk c D)(hc:c<=400000000)(hd:DskH K db D dh)(fr first:Nat)(hfr:fr<18446744073709551616)(hfi:first<18446744073709551616):
  Ct Tryz.prog w0 63 [.pointer (some ⟨db,0,none⟩),.int .u64 (fr:Nat),.int .u64 (first:Nat)] K (dh::hs)
   (fun v K' hs'=>∃ h' new,hs'=new++h'::hs/\Le K K'/\DskH K' db (wOpen D fr first).2.1 h'/\(((wOpen D fr first).1=none/\new=[]/\v=.tuple #[.pointer none,.int .i64 (wOpen D fr first).2.2]) \/
    (∃ W wb wh,(wOpen D fr first).1=some W/\new=[wh]/\WalH K' wb db W wh/\v=.tuple #[.pointer (some ⟨wb,0,none⟩),.int .i64 (wOpen D fr first).2.2]))):=by
 refine Ct.fix2 (openWC db D c oD hc hd fr first hfr hfi) ?_;rintro w v K' hs' hS ⟨le,m',dh',rfl,hd',hR⟩;cases hW:(wOpen D fr first).1 with
 | none=>
  rw[hW] at hR;obtain ⟨rfl,rfl⟩:=hR;exact ⟨K',_,⟨dh',[],I,le,hd',.inl ⟨I,I,I⟩⟩,hS⟩
 | some W=>
  rw[hW] at hR;obtain ⟨wb,hM,rfl⟩:=hR;obtain ⟨d,hS'⟩:=Sat.join m' hS;exact ⟨K',_,⟨dh',[uns m'],I,le,hd',.inr ⟨W,wb,uns m',I,I,⟨m',I,d,hM⟩,I⟩⟩,hS'⟩
theorem didLB{w0:World}{K:PH}{hs:List PH}(lb:Nat)(wp:Option Nat)(db:Nat)(hp ep:Option Nat)(kt:Nat)(kv:Int)(si st:Nat)(vS dS:Value)(pl fr:Nat)(lS:Value)(cd e:Int):
  Ct Tryz.prog w0 39 [.pointer (some ⟨lb,0,none⟩),.int .i64 e] K (pt lb (lgB wp db hp ep kt kv si st vS dS pl fr lS cd) 91::hs)
   (fun v K' hs'=>∃ h',hs'=h'::hs/\K'=K/\h'=pt lb (lgB wp db hp ep kt kv si st vS dS pl fr lS (didV cd e)) 91/\v=.int .i64 (didV cd e)):=by
 unfold didV;refine enter Tryz.func39 qk I I I (sq (rg (fin hT 1 I (th (sq (sq (rg (ldp hT 3 0 I I I (cmpS hT 0 I fun b9 h9=>fin hT 0 I (th (ifP h9 I (fun e2=>?_) (fun e2=>?_))))))))))))
 ·rw[if_pos e2];exact rg (stp hT 4 0 I I I I (fin hT 0 I (th (sq (rg (ldp hT 3 0 I I I (fin hT 1 I (th (rt (ret1 I I ⟨_,I,I,I,I⟩))))))))))
 ·rw[if_neg e2];exact sk (th (sq (rg (ldp hT 3 0 I I I (fin hT 1 I (th (rt (ret1 I I ⟨_,I,I,I,I⟩))))))))
theorem openLC{w0:World}{K dh:PH}{hs:List PH}(db:Nat)(D:Dk)(c:Nat)(oD:DOk c D)(hc:c<=199000000)(hd:DskH K db D dh)(first:List Int)(hfl:first.length<=1000000)(aF:Option Addr)(cF:Nat)(xF:IsS K aF first.length cF 1 (iv first)):
  Ct Tryz.prog w0 27 [.pointer (some ⟨db,0,none⟩),.agg #[.slice aF first.length cF]] K (dh::hs)
   (fun v K' hs'=>Le K K'/\(((lOpen D first).1=none/\v=.tuple #[.pointer none,.int .i64 (lOpen D first).2.2]/\∃ dh',hs'=dh'::hs/\DskH K' db (lOpen D first).2.1 dh') \/
    (∃ L lb m,(lOpen D first).1=some L/\v=.tuple #[.pointer (some ⟨lb,0,none⟩),.int .i64 (lOpen D first).2.2]/\hs'=m++hs/\LgM K' lb db L (lOpen D first).2.1 m))):=by
 obtain ⟨R,hR⟩:∃ R,R=lOpen D first:=⟨_,rfl⟩
 rw[<-hR];unfold lOpen at hR;have hlen:=oD.len;refine enter Tryz.func27 qk I I I (sq (rg (bx hT 0 I fun b3=>WL.hs (pt b3 #[.slice aF first.length cF] 29::dh::hs) I (fin hT 2 I (th (sq (sq (rg (ldS hT 0 0 I I qk (cl hT 0 I (rightC aF cF first (.inl I) xF qo) ?_))))))))));rintro v13 K13 hs13 ⟨rfl,rfl,rfl⟩;cases hps:(putConf first).isSome with
 | false=>
  rw[if_pos hps] at hR;refine fin hT 1 I (th (ifT I (sq (rg (WL.drop (fin hT 2 I (th (rt (rT ?_)))))))));rw[hR];exact ret2 I I I ⟨Le.refl _,.inl ⟨I,I,dh,I,hd⟩⟩
 | true=>
  rw[if_neg (by rw[hps];simp)] at hR;refine fin hT 1 I (th (ifF I (sk (th (sq (rg (bd hT 1 (.agg #[.int .u64 0,.int .i64 (-1)]) I (fun w=>by kernel_rfl) (ldp hT 1 0 I I I (cl hT 0 I (cloneIC aF cF first (.inl I) xF qo) ?_)))))))));rintro v19 K19 hs19 ⟨le1,rfl,a0,c0,rfl,x0⟩;refine bd hT 0 (.agg #[.slice a0 first.length c0]) I (fun w=>by kernel_rfl) (bd hT 0 (.agg #[.int .u64 0,.int .u64 0,.slice a0 first.length c0,.slice none 0 0]) I (fun w=>by kernel_rfl) (bd hT 0 (.agg (lgB none db none none 0 (-1) 0 0 (.slice a0 first.length c0) (.slice none 0 0) 0 0 (.slice none 0 0) 0)) I (fun w=>by kernel_rfl) (bx hT 0 I fun lb=>WL.hs (pt lb (lgB none db none none 0 (-1) 0 0 (.slice a0 first.length c0) (.slice none 0 0) 0 0 (.slice none 0 0) 0) 91::pt b3 #[.slice aF first.length cF] 29::dh::hs) I (WL.del 1 I (fin hT 1 I (th (sq (rg (fin hT 2 I (th (sq (rg (cl hT 2 I (Ct.atN 1 I (openSH db D c oD.ok qo (hd.le le1) 0)) ?_)))))))))))))
  rintro v27 K27 hs27 ⟨dh,new,rfl,rfl,le2,hA⟩;have le12:=le1.trans le2;rcases hA with ⟨hdead,rfl,rfl⟩|⟨hdead,hb,hh,rfl,hH,rfl⟩
  ·rw[if_pos hdead] at hR;refine stp hT 5 0 I I I I (fin hT 1 I (th (sq (rg (cl hT 2 I (Ct.atN 1 I (openSH db D c oD.ok qo (hd.le le12) 4)) ?_)))));rintro v35 K35 hs35 ⟨dh,new,rfl,rfl,le3,hA⟩;rcases hA with ⟨_,rfl,rfl⟩|⟨hx,_⟩
   ·refine stp hT 5 0 I I I I (fin hT 1 I (th (sq (sq (rg (fin hT 6 I (th (ifT I (sq (rg (WL.drop (fin hT 2 I (th (rt (rT ?_)))))))))))))));rw[hR];exact ret2 I I I ⟨le12.trans le3,.inl ⟨I,I,dh,I,hd.le (le12.trans le3)⟩⟩
   ·rw[hdead] at hx;cases hx
  ·rw[if_neg (by rw[hdead];simp)] at hR;refine stp hT 5 1 I I I I (fin hT 1 I (th (sq (rg (cl hT 2 I (Ct.atN 2 I (openSH db D c oD.ok qo (hd.le le12) 4)) ?_)))));rintro v35 K35 hs35 ⟨dh,new,rfl,rfl,le3,hA⟩;have le13:=le12.trans le3;rcases hA with ⟨hx,_⟩|⟨_,eb,eh,rfl,hE,rfl⟩
   ·rw[hdead] at hx;cases hx
   ·refine stp hT 5 2 I I I I (WL.fr 1 I (WL.fr 2 I (WL.hs (pt lb (lgB none db (some hb) (some eb) 0 (-1) 0 0 (.slice a0 first.length c0) (.slice none 0 0) 0 0 (.slice none 0 0) 0) 91::hh::eh::dh::hs) I ?_)));have hHb:=sltUp_bd oD.ok 0 2;have hEb:=sltUp_bd oD.ok 4 2;refine fin hT 1 I (th (sq (sq (rg (fin hT 6 I (th (ifF I (sk (th (sq (sq (rg (cl hT 1 I (readHardC lb db hb none (some eb) 0 0 _ _ 0 0 _ 0 (sltOpen D 0) (hH.le le3) hHb) ?_)))))))))))));rintro v47 K47 hs47 ⟨le4,kt,kv,rfl,rfl,hkh⟩;have le14:=le13.trans le4;cases hrh:rdHard (sltOpen D 0) with
    | none=>
     rw[hrh] at hR;dsimp only at hR;refine fin hT 6 I (th (ifT I (sq (rg (WL.drop (WL.drop (WL.drop (fin hT 2 I (th (rt (rT ?_)))))))))));rw[hR];exact ret2 I I I ⟨le14,.inl ⟨I,I,dh,I,hd.le le14⟩⟩
    | some kh=>
     rw[hrh] at hR;dsimp only at hR;have hkh:=hkh kh hrh;subst hkh;refine WL.fr 3 I (WL.fr 3 I (WL.fr 2 I (cl hT 3 I (readHeadC lb db eb none (some hb) kt kv first a0 c0 (x0.le (le2.trans (le3.trans le4))) _ 0 (sltOpen D 4) (hE.le le4) hEb D c oD.ok qo (hd.le le14)) ?_)));rintro v51 K51 hs51 ⟨le5,sn,pl,fr,aV,cV,aD,cD,rfl,rfl,xV,xD,hhd⟩;have le15:=le14.trans le5;cases hrd:rdHead D (sltOpen D 4) first with
     | none=>
      rw[hrd] at hR;dsimp only at hR;refine fin hT 2 I (th (ifT I (sq (rg (WL.drop (WL.drop (WL.del 1 I (fin hT 2 I (th (rt (rT ?_)))))))))));rw[hR];exact ret2 I I I ⟨le15,.inl ⟨I,I,dh,I,hd.le le15⟩⟩
     | some hp=>
      rw[hrd] at hR;dsimp only at hR;obtain ⟨hB1,hB2,hB3⟩:=rdHead_bd hrd;have hhd:=hhd hp hrd;subst hhd;dsimp only at hB1 hB2 hB3;unfold lgTop at hB1 hB2 hB3;unfold lOpen2 at hR;dsimp only at hR;have hbd:=areasL_bd oD;have hal:=areasL_len oD;have hkH:=hH.le (le3.trans (le4.trans le5));have hkE:=hE.le (le4.trans le5);obtain ⟨l,hl⟩:∃ l,l=areasL D:=⟨_,rfl⟩;obtain ⟨F,hF⟩:∃ F,F=lgFree pl l D:=⟨_,rfl⟩;rw[<-hl] at hbd hal hR;rw[<-hF] at hR;refine fin hT 2 I (th (ifF I (sk (th (sq (sq (rg (cl hT 1 I (Ct.at 2 I (areasH db D c oD qo (hd.le le15))) ?_))))))));rintro v55 K55 hs55 ⟨dh,rfl,rfl,le6,aA,cA,rfl,xA⟩;rw[<-hl] at xA ⊢;have le16:=le15.trans le6;refine fin hT 2 I (th (bk ?_))
      refine loop (σ:=Nat×Dk×PH) (fun s=>[(0,.pointer (some ⟨db,0,none⟩)),(6,.pointer (some ⟨lb,0,none⟩)),(55,.slice aA l.length cA),(56,.int .i64 l.length),(57,.int .i64 s.1)]) (fun _=>K55)
       (fun s=>pt lb (lgB none db (some hb) (some eb) kt kv sn.idx sn.term (.slice aV sn.vot.length cV) (.slice aD sn.data.length cD) pl fr (.slice none 0 0) 0) 91::eh::s.2.2::hh::hs) (fun s=>s.1<=l.length/\lgFree pl (l.drop s.1) s.2.1=F/\DOk (c+s.1) s.2.1/\DskH K55 db s.2.1 s.2.2) (fun s=>l.length-s.1) (0,D,dh) ⟨Nat.zero_le _,hF.symm,oD,hd.le le16⟩ ⟨rfl,rfl,rfl,rfl,rfl,trivial⟩ rfl rfl ?_
      rintro ⟨j,D',dh'⟩ ⟨hj,hw,oD',hD'⟩;dsimp only at *;refine sq (rg (cmpS hT 0 I fun b58 h58=>fin hT 0 I (th (sq (ifP h58 I (fun e9=>?_) (fun e9=>?_))))))
      ·have hjl:j<l.length:=by omega
       obtain ⟨a,ha⟩:∃ a,l[j]?=some a:=⟨l[j],List.getElem?_eq_getElem hjl⟩;have hab:=hbd a (List.mem_of_getElem? ha);obtain ⟨n,rfl⟩:=Int.eq_ofNat_of_zero_le hab.1;rw[List.drop_eq_getElem_cons hjl,show l[j]=((n:Nat):Int) from by rw[List.getElem?_eq_getElem hjl] at ha;exact Option.some.inj ha,lgFree_cons] at hw;refine sk (th (sq (bk (sq (rg (ix1 hT 0 j I I I xA (ivu_get ha) fun a59 hc59=>ld hT 0 I (.inl I) hc59 (fin hT 1 I (th (sq (rg (ar hT 1 I (u_rem .u64 n 4) ?_)))))))))));have next:∀ {l':Sl},lgFree pl (l.drop (j+1)) D'=F->True:=fun _=>trivial
       by_cases q1:n % 4=2
       ·refine cmp hT 0 I (fun _=>ldp hT 5 0 I I I (cl hT 0 I (areaLC pl qo) ?_)) (fun h=>absurd (show ((n % 4:Nat):Int)=2 by omega) h);rintro v70 K70 hs70 ⟨rfl,rfl,rfl⟩
        by_cases q2:n=lgA4 pl
        ·rw[if_neg (by rintro ⟨_,h⟩;exact h (by rw[q2]))] at hw;exact cmp hT 0 I (fun h=>absurd (show ((n:Nat):Int)=((lgA4 pl:Nat):Int) by rw[q2]) h) (fun _=>fin hT 9 I (th (ifF I (sk (bl (th (rg (ar hT 0 I (i64w (x:=((j+1:Nat):Int)) qo) (fin hT 1 I (again (x:=(j,D',dh')) (j+1,D',dh') ⟨I,I,I,I,I,trivial⟩ I I ⟨by dsimp only;omega,hw,oD'.up (by dsimp only;omega),hD'⟩ (by dsimp only;omega)))))))))))
        ·rw[if_pos ⟨by omega,by omega⟩] at hw;obtain ⟨E,hEE⟩:∃ E,E=D'.free ((n:Nat):Int):=⟨_,rfl⟩;have oE:=oD'.free ((n:Nat):Int);rw[<-hEE] at hw oE;refine cmp hT 0 I (fun _=>cl hT 5 I (Ct.at 2 I (freeH db D' (c+j) oD'.ok qo hD' ((n:Nat):Int))) ?_) (fun h=>absurd (show ¬((n:Nat):Int)=((lgA4 pl:Nat):Int) by omega) h);rintro v77 K77 hs77 ⟨dh2,rfl,rfl,hD2,rfl⟩;rw[<-hEE] at hD2 ⊢;refine cl hT 0 I (didLB lb none db (some hb) (some eb) kt kv sn.idx sn.term _ _ pl fr _ 0 E.2) ?_;rintro v78 K78 hs78 ⟨_,rfl,rfl,rfl,rfl⟩;rw[show didV 0 E.2=E.2 from rfl];refine cmpS hT 0 I fun b79 h79=>fin hT 1 I (th (ifP h79 I (fun e15=>?_) (fun e15=>?_)))
         ·rw[if_pos e15] at hw;rw[<-hw,if_pos e15] at hR;refine sq (rga [pt lb (lgB none db (some hb) (some eb) kt kv sn.idx sn.term (.slice aV sn.vot.length cV) (.slice aD sn.data.length cD) pl fr (.slice none 0 0) E.2) 91] 6 [0,2,4,6,8,10] (by simp) qk qk (dldp hT qk 3 0 I I I (dend hT qk 2 I (th (rt (rB (rT (rT (rB (rT (WQ.drop (WQ.drop (WQ.del 1 I ?_)))))))))))));rw[hR];exact ret2 I I I ⟨le16,.inl ⟨I,I,dh2,I,hD2⟩⟩
         ·have e15:=Decidable.not_not.1 e15;rw[if_neg (by rw[e15];simp)] at hw;rw[e15];exact sk (bl (th (rg (ar hT 0 I (i64w (x:=((j+1:Nat):Int)) qo) (fin hT 1 I (again (x:=(j,D',dh')) (j+1,E.1,dh2) ⟨I,I,I,I,I,trivial⟩ I I ⟨by dsimp only;omega,hw,oE.up (by dsimp only;omega),hD2⟩ (by dsimp only;omega)))))))
       ·rw[if_neg (by rintro ⟨h,_⟩;omega)] at hw;exact cmp hT 0 I (fun h=>absurd (show ((n % 4:Nat):Int)=2 from h) qo) (fun _=>fin hT 17 I (th (ifF I (sk (bl (th (rg (ar hT 0 I (i64w (x:=((j+1:Nat):Int)) qo) (fin hT 1 I (again (x:=(j,D',dh')) (j+1,D',dh') ⟨I,I,I,I,I,trivial⟩ I I ⟨by dsimp only;omega,hw,oD'.up (by dsimp only;omega),hD'⟩ (by dsimp only;omega)))))))))))
      ·obtain rfl:j=l.length:=by omega
       rw[List.drop_length] at hw;have hw:(D',(0:Int))=F:=hw;rw[<-hw,if_neg (by simp)] at hR;dsimp only at hR;unfold lOpen3 at hR;dsimp only at hR;obtain ⟨X,hX⟩:∃ X,X=wOpen D' fr (sn.idx+1):=⟨_,rfl⟩;obtain ⟨hXc,hXs⟩:=wOpen_code (D:=D') (fr:=fr) (first:=sn.idx+1);rw[<-hX] at hR hXc hXs;refine ex (xt (xt (xb (th (sq (rga [pt lb (lgB none db (some hb) (some eb) kt kv sn.idx sn.term (.slice aV sn.vot.length cV) (.slice aD sn.data.length cD) pl fr (.slice none 0 0) 0) 91] 17 [0,2,4,6,8,10,12,14,16,18,20,23,24,26,28,30,32] (by simp) qk qk (dldp hT qk 4 0 I I I (dldp hT qk 4 0 I I I (dar hT qk 0 I (u64w (x:=((sn.idx+1:Nat):Int)) qo) (dact hT qk 0 I (cl hT 0 I (Ct.atN 2 I (openWH db D' (c+l.length) oD' qo hD' fr (sn.idx+1) qo qo)) ?_)))))))))));rintro v98 K98 hs98 ⟨dh2,new,rfl,le7,hD2,hA⟩;rw[<-hX] at hD2 hA
       have le17:=le16.trans le7;rcases hA with ⟨hn,rfl,rfl⟩|⟨W,wb,wh,hW,rfl,hWh,rfl⟩
       ·rw[hn] at hR;dsimp only at hR;have hXc:=hXc hn;refine dnexL [pt lb (lgB none db (some hb) (some eb) kt kv sn.idx sn.term (.slice aV sn.vot.length cV) (.slice aD sn.data.length cD) pl fr (.slice none 0 0) 0) 91] (by simp) (by simp) le7 (dend hT qk 5 I (th (sq (sq (rg (cmpS hT 1 I fun b102 h102=>fin hT 0 I (th (ifP h102 I (fun e17=>?_) (fun e17=>?_)))))))))
        ·rw[if_pos e17] at hR;refine sq (rg (WL.drop (WL.drop (WL.del 1 I (fin hT 2 I (th (rt (rT ?_))))))));rw[hR];exact ret2 I I I ⟨le17,.inl ⟨I,I,dh2,I,hD2⟩⟩
        ·rw[if_neg e17] at hR;refine sk (th (sq (sq (rg (cmpS hT 1 I fun b104 h104=>fin hT 0 I (th (ifP h104 I (fun e19=>sq (rg (WL.drop (WL.drop (WL.del 1 I (fin hT 3 I (th (rt (rT ?_))))))))) (fun e19=>absurd hXc e19))))))));rw[hR];exact ret2 I I I ⟨le17,.inl ⟨I,I,dh2,I,hD2⟩⟩
       ·rw[hW] at hR;dsimp only at hR;have hXs:=hXs W hW;rw[hXs];have hopen:=WBd.opened oD' (fr:=fr) (first:=sn.idx+1) (W:=W) (E:=X.2.1) (by rw[<-hX];obtain ⟨x1,x2,x3⟩:=X;dsimp only at hW hXs ⊢;rw[hW,hXs]);refine dnexL [pt lb (lgB none db (some hb) (some eb) kt kv sn.idx sn.term (.slice aV sn.vot.length cV) (.slice aD sn.data.length cD) pl fr (.slice none 0 0) 0) 91] (by simp) (by simp) le7 (dend hT qk 5 I (th (sq (sq (rg (fin hT 2 I (th (ifF I (sk (th (sq (sq (rg (fin hT 2 I (th (ifF I (sk (th (sq (rg (WL.fr 1 I (stp hT 4 0 I I I I (WL.hs (pt lb (lgB (some wb) db (some hb) (some eb) kt kv sn.idx sn.term (.slice aV sn.vot.length cV) (.slice aD sn.data.length cD) pl fr (.slice none 0 0) 0) 91::wh::eh::dh2::hh::hs) I (fin hT 0 I (th (sq (sq (rg (cl hT 1 I (readEntriesC lb db wb (some hb) (some eb) kt kv sn (by unfold lgTop;omega) _ _ pl fr 0 W hWh (c+l.length) hopen.1 qo) ?_)))))))))))))))))))))))))))));rintro v111 K111 hs111 ⟨le8,gl,aL,cL,ll,rfl,rfl,hG,hll⟩
        have le18:=le17.trans le8;cases hre:rdEnts sn W with
        | none=>
         rw[hre] at hR;dsimp only at hR;refine fin hT 1 I (th (ifT I (sq (rg (WL.drop (WL.drop (WL.drop (WL.drop (WL.del 1 I (fin hT 2 I (th (rt (rT ?_)))))))))))));rw[hR];exact ret2 I I I ⟨le18,.inl ⟨I,I,dh2,I,hD2.le le8⟩⟩
        | some l2=>
         rw[hre] at hR;dsimp only at hR;have hll:=hll l2 hre;subst hll;refine fin hT 1 I (th (ifF I (sk (th (sq (rg (WL.fr 4 I (WL.fr 1 I (WL.fr 4 I (WL.fr 5 I (WL.fr 5 I (WL.fr 5 I (fin hT 3 I (th (rt ?_)))))))))))))));rw[hR];have le78:=le7.trans le8;exact ret2 I I I ⟨le18,.inr ⟨_,lb,[_,_,_,_,_,_],I,I,I,wb,hb,eb,aV,cV,aD,cD,aL,cL,wh,hh,eh,gl,dh2,I,hWh.le le8,hkH.le (le6.trans le78),hkE.le (le6.trans le78),hG,hD2.le le8,xV.le (le6.trans le78),xD.le (le6.trans le78)⟩⟩
end
section
attribute [local irreducible] Code.wp wpList Calls
def q0:MA:=⟨none,0,none,0,none,0⟩
end
section
structure Rl where
 kt:Nat
 kv:Int
 sn:Snp
 l:List Ent
structure RBd (n:Nat) (r:Rl):Prop where
 kt:r.kt<=mxU
 idx:r.sn.idx<=lgTop
 st:r.sn.term<=mxU
 vot:r.sn.vot.length<=7
 data:r.sn.data.length<=2097152
 len:r.l.length<=n
 ents:∀ e∈r.l,entG e
theorem RBd.up{n k:Nat}{r:Rl}(o:RBd n r)(h:n<=k):RBd k r:=⟨o.kt,o.idx,o.st,o.vot,o.data,by have:=o.len;omega,o.ents⟩
def rlV(r:Rl)(aV:Option Addr)(cV:Nat)(aD:Option Addr)(cD:Nat)(aL:Option Addr)(cL:Nat):Array Value:=
 #[.int .u64 r.kt,.int .i64 r.kv,.int .u64 r.sn.idx,.int .u64 r.sn.term,.slice aV r.sn.vot.length cV,.slice aD r.sn.data.length cD,.slice aL r.l.length cL]
attribute [local irreducible] Code.wp wpList Calls
def RlS(K:PH)(r:Rl)(v:Value):Prop:=∃ aV cV aD cD aL cL,v=.agg (rlV r aV cV aD cD aL cL)/\IsS K aV r.sn.vot.length cV 1 (iv r.sn.vot)/\IsS K aD r.sn.data.length cD 1 (bv r.sn.data)/\SlS 4 (EntC K) K aL r.l.length cL r.l
theorem RlS.le{K K':PH}(l:Le K K'){r:Rl}{v:Value}(h:RlS K r v):RlS K' r v:=by
 obtain ⟨aV,cV,aD,cD,aL,cL,h1,h2,h3,h4⟩:=h;exact ⟨aV,cV,aD,cD,aL,cL,h1,h2.le l,h3.le l,h4.le l fun _ _ h=>h.le l⟩
theorem lastRC{w0:World}{K:PH}{hs:List PH}(r:Rl)(n:Nat)(hb:RBd n r)(hn:n<=1099511627776)(v0:Value)(hv:RlS K r v0):
  Ct Tryz.prog w0 115 [v0] K hs (fun v K' hs'=>K'=K/\hs'=hs/\v=.int .u64 (r.sn.idx+r.l.length:Nat)):=by
 obtain ⟨aV,cV,aD,cD,aL,cL,rfl,xV,xD,xL⟩:=hv;have h1:=hb.idx;have h2:=hb.len;unfold lgTop at h1;exact enter Tryz.func115 qk I I I (sq (rg (bx hT 0 I fun b1=>WL.hs (pt b1 (rlV r aV cV aD cD aL cL) 37::hs) I (fin hT 1 I (th (sq (rg (ldp hT 2 0 I I I (ldp hT 1 0 I I I (ar hT 1 I (u64w (x:=((r.l.length:Nat):Int)) qo) (ar hT 0 I (u64w (x:=((r.sn.idx+r.l.length:Nat):Int)) qo) (fin hT 1 I (th (rt (WQ.drop (ret1 I I ⟨I,I,I⟩))))))))))))))))
theorem entR_cells{K:PH}{aL:Option Addr}{cL:Nat}{l:List Ent}(hG:SlS 4 (EntC K) K aL l.length cL l){k:Nat}{e:Ent}(hk:l[k]?=some e):
  ∃ a ao cap,aL=some a/\IsS K ao e.data.length cap 1 (bv e.data)/\∀ (j:Nat) v,(e.v ao cap).toList[j]?=some v->Cell K ((a.add (k*4)).add j) v:=by
 have hkl:k<l.length:=(List.getElem?_eq_some_iff.1 hk).1;obtain ⟨a,rfl⟩:=hG.addr qo (by decide);obtain ⟨c,⟨ao,cap,rfl,x⟩,_,hc⟩:=hG.cells hk;exact ⟨a,ao,cap,I,x,hc⟩
theorem termRC{w0:World}{K:PH}{hs:List PH}(r:Rl)(n:Nat)(hb:RBd n r)(hn:n<=1099511627776)(v0:Value)(hv:RlS K r v0)(i:Nat)(hi:i<=mxU):
  Ct Tryz.prog w0 114 [v0,.int .u64 (i:Nat)] K hs (fun v K' hs'=>K'=K/\hs'=hs/\v=okT (trm r.sn r.l i)):=by
 have hv0:=hv;obtain ⟨aV,cV,aD,cD,aL,cL,rfl,xV,xD,xL⟩:=hv;have h1:=hb.idx;have h2:=hb.len;unfold lgTop at h1;unfold mxU at hi;unfold trm;refine enter Tryz.func114 qk I I I (sq (rg (bx hT 0 I fun b2=>WL.hs (pt b2 (rlV r aV cV aD cD aL cL) 37::hs) I (fin hT 2 I (th (sq (sq (rg (ldp hT 3 0 I I I (cmpS hT 0 I fun b10 h10=>fin hT 0 I (th (ifP h10 I (fun e2=>?_) (fun e2=>?_)))))))))))))
 ·rw[if_pos qo];exact sq (rg (ldp hT 2 0 I I I (fin hT 2 I (th (rt (rT (WQ.drop (ret2 I I I ⟨I,I,I⟩))))))))
 ·rw[if_neg qo];refine sk (th (sq (sq (rg (ldp hT 3 0 I I I (cmpS hT 0 I fun b18 h18=>?_))))))
  refine' bjo (q:=r.sn.idx+r.l.length<i) hT 1 5 24 [18,19] h18 I I I I I I I (fun _=>?x1) (fun b24 h24=>?_)
  case x1=>
   refine ldS hT 1 0 I I qk (cl hT 0 I (lastRC r n hb hn _ hv0) ?_);rintro v22 K22 hs22 ⟨rfl,rfl,rfl⟩;exact cmpS hT 0 I fun b23 h23=>fin hT 1 I (bjx (h23.trans qo) I I I)
  refine fin hT 0 I<|th (ifP h24 I (fun e4=>?_) (fun e4=>?_))
  ·rw[if_pos qo];exact sq (rg (fin hT 2 I (th (rt (rT (WQ.drop (ret2 I I I ⟨I,I,I⟩)))))))
  ·rw[if_neg qo];obtain ⟨e,he⟩:∃ e,r.l[i-r.sn.idx-1]?=some e:=⟨r.l[i-r.sn.idx-1]'qo,List.getElem?_eq_getElem qo⟩;obtain ⟨a,ao,cap,rfl,x,hcell⟩:=entR_cells xL he;obtain ⟨xs,hxs⟩:=xL.isS;rw[he];refine sk (th (sq (rg (ldp hT 1 0 I I I (ldp hT 3 0 I I I (ar hT 0 I (u64s qo qo) (ar hT 0 I (u64s1 qo qo) (ixs hT 0 (i-r.sn.idx-1) I I hxs qo (by decide) fun a33 h33=>?_))))))));cases h33;exact ld hT 1 I (.inl I) (hcell 1 _ I) (fin hT 2 I (th (rt (WQ.drop (ret2 I I I ⟨I,I,I⟩)))))
end
section
def Rl.append(r:Rl)(x:List Ent):Rl×Int:=
 if fol (r.sn.idx+r.l.length) (trm r.sn r.l (r.sn.idx+r.l.length)).1 x≠0 then (r,fol (r.sn.idx+r.l.length) (trm r.sn r.l (r.sn.idx+r.l.length)).1 x) else ({ r with l:=r.l++x },0)
def Rl.setHard(r:Rl)(t:Nat)(v:Int):Rl×Int:=
 if v < -1\/6<v then (r,181) else if t<r.kt then (r,180) else ({ r with kt:=t,kv:=v },0)
theorem trm_leR{n:Nat}{r:Rl}(hb:RBd n r)(i:Nat):(trm r.sn r.l i).1<=mxU:=by
 unfold trm
 split
 ·exact hb.st
 ·split
  ·exact Nat.zero_le _
  ·cases hg:r.l[i-r.sn.idx-1]? with
   | none=>exact Nat.zero_le _
   | some e=>exact (hb.ents e (List.mem_of_getElem? hg)).2.2
attribute [local irreducible] Code.wp wpList Calls
theorem followRC{w0:World}{K:PH}{hs:List PH}(i t:Nat)(hi:i<=mxU)(ht:t<=mxU)(ao:Option Addr)(cap:Nat)(x:List Ent)(xs:SlS 4 (EntC K) K ao x.length cap x)(hx:∀ e∈x,entB e)(hxl:x.length<=1099511627776):
  Ct Tryz.prog w0 116 [.int .u64 (i:Nat),.int .u64 (t:Nat),.slice ao x.length cap] K hs (fun v K' hs'=>K'=K/\hs'=hs/\v=.int .i64 (fol i t x)):=by
 obtain ⟨ys,hys⟩:=xs.isS;refine enter Tryz.func116 qk I I I (sq (rg (fin hT 1 I (th (sq (sq (rg (fin hT 1 I (th (bk (loop (σ:=Nat) (fun j=>[(0,.int .u64 (i:Nat)),(1,.int .u64 (t:Nat)),(2,.slice ao x.length cap),(7,.int .i64 (j:Nat))]) (fun _=>K) (fun _=>hs) (fun j=>j<=x.length/\∀ e∈x.take j,e.ok) (fun j=>x.length-j) 0 ⟨Nat.zero_le _,by simp⟩ ⟨I,I,I,I,trivial⟩ I I ?_)))))))))));rintro j ⟨hj,hok⟩;refine sq (sq (rg (cmpS hT 3 I fun b14 h14=>fin hT 0 I (th (ifP h14 I (fun e2=>?_) (fun e2=>?_))))))
 ·have hjx:j<x.length:=by omega
  obtain ⟨e,he⟩:∃ e,x[j]?=some e:=⟨x[j],List.getElem?_eq_getElem hjx⟩;have hem:=List.mem_of_getElem? he;obtain ⟨q1,q2,q3⟩:=hx e hem;obtain ⟨a,ae,ce,rfl,xe,hcell⟩:=entR_cells xs he;refine sk (th (sq (bk (sq (rg (ixs hT 2 j I I hys hjx (by decide) fun a20 h20=>?_))))));cases h20;refine lds hT 0 (e.v ae ce).toList I qk (.inl I) hcell (cl hT 0 I (putEntRef e ae ce q1 q2 (.inl I) xe q3) ?_);rintro v22 K22 hs22 ⟨rfl,h22,ao22,c22,rfl,rfl,o22⟩;refine fin hT 5 I (th (sq (rg (WL.drop (cmpS hT 1 I fun b26 h26=>fin hT 0 I (th (ifP h26 I (fun e4=>?_) (fun e4=>?_))))))))
  ·have hno:¬e.ok:=fun h=>e4 (ec_zero.2 (putEnt_ok.2 h));refine sq (rg (fin hT 1 I (th (rt (rB (rT (rT (rB (rT (ret1 I I ⟨I,I,?_⟩))))))))));unfold fol;rw[if_neg];simp only[List.all_eq_true,putEnt_ok];exact fun h=>hno (h e hem)
  ·have hyes:e.ok:=putEnt_ok.1 (ec_zero.1 (Decidable.not_not.1 e4));refine sk (bl (th (rg (ar hT 1 I (i64w (x:=((j+1:Nat):Int)) qo) (fin hT 1 I (again (x:=j) (j+1) ⟨I,I,I,I,trivial⟩ I I ⟨by omega,?_⟩ qo))))));rw[List.take_add_one,he];intro y hy;rcases List.mem_append.1 hy with hy|hy
   ·exact hok y hy
   ·simp at hy;rw[hy];exact hyes
 ·obtain rfl:j=x.length:=by omega
  rw[List.take_length] at hok;have e0:fol i t x=folR i t x:=by unfold fol;rw[if_pos (by simp only[List.all_eq_true,putEnt_ok];exact hok)]
  rw[e0];refine ex (xt (xt (xb (th (sq (sq (rg ?_)))))));obtain ⟨R,hR⟩:∃ R,R=folR i t x:=⟨_,rfl⟩;rw[<-hR];refine fin hT 1 I (th (bk (loop (σ:=Nat×Nat×Nat) (fun s=>[(0,.int .u64 s.2.1),(1,.int .u64 s.2.2),(2,.slice ao x.length cap),(10,.int .i64 s.1)]) (fun _=>K) (fun _=>hs) (fun s=>s.1<=x.length/\s.2.1<=mxU/\s.2.2<=mxU/\folR s.2.1 s.2.2 (x.drop s.1)=R) (fun s=>x.length-s.1) (0,i,t) ⟨Nat.zero_le _,hi,ht,hR.symm⟩ ⟨I,I,I,I,trivial⟩ I I ?_)));clear hi ht e0 hR;clear i t;rintro ⟨j,i,t⟩ ⟨hj,hi,ht,hw⟩;dsimp only at *;refine sq (sq (rg (cmpS hT 3 I fun b30 h30=>fin hT 0 I (th (ifP h30 I (fun e6=>?_) (fun e6=>?_))))))
  ·have hjx:j<x.length:=by omega
   obtain ⟨e,he⟩:∃ e,x[j]?=some e:=⟨x[j],List.getElem?_eq_getElem hjx⟩;have hem:=List.mem_of_getElem? he;obtain ⟨q1,q2,q3⟩:=hx e hem;have hne:=(hok e hem).1;obtain ⟨a,ae,ce,rfl,xe,hcell⟩:=entR_cells xs he;rw[List.drop_eq_getElem_cons hjx,show x[j]=e from by rw[List.getElem?_eq_getElem hjx] at he;exact Option.some.inj he,folR] at hw;refine sk (th (sq (bk (sq (sq (rg (ixs hT 2 j I I hys hjx (by decide) fun a35 h35=>?_)))))));cases h35;refine ld hT 1 I (.inl I) (hcell 0 _ I) (ar hT 1 I (v':=.int .u64 (((i+1) % 18446744073709551616:Nat):Int)) (by rw[<-u64m];rfl) (cmpS hT 0 rfl fun b40 h40=>?_));unfold mxU at hi ht q1 q2
   refine' bjo (q:=e.term<t) hT 1 8 49 [40,41] (h40.trans (show _↔e.idx≠i+1 by omega)) I I I I I I I (fun _=>?x8) (fun b49 h49=>?_)
   case x8=>
    refine ixs hT 2 j I I hys hjx (by decide) fun a44 h44=>?_;cases h44;exact ld hT 1 I (.inl I) (hcell 1 _ I) (cmpS hT 1 I fun b48 h48=>fin hT 1 I (bjx (h48.trans qo) I I I))
   refine fin hT 0 I<|th (ifP h49 I (fun e10=>?_) (fun e10=>?_))
   ·rw[if_pos e10] at hw;refine sq (rg (fin hT 1 I (th (rt (rT (rB (rT (rT (rB (rT ?_))))))))));rw[<-hw];exact ret1 I I ⟨I,I,I⟩
   ·rw[if_neg e10] at hw;refine sk (th (sq (rg (ixs hT 2 j I I hys hjx (by decide) fun a52 h52=>?_))));cases h52;refine ld hT 1 I (.inl I) (hcell 0 _ I) (fin hT 1 I (th (rg (ixs hT 2 j I I hys hjx (by decide) fun a57 h57=>?_))));cases h57;exact ld hT 1 I (.inl I) (hcell 1 _ I) (fin hT 1 I (bl (th (rg (ar hT 1 I (i64w (x:=((j+1:Nat):Int)) qo) (fin hT 1 I (again (x:=(j,i,t)) (j+1,e.idx,e.term) ⟨I,I,I,I,trivial⟩ I I ⟨by dsimp only;omega,q1,q2,hw⟩ (by dsimp only;omega))))))))
  ·obtain rfl:j=x.length:=by omega
   rw[List.drop_length] at hw;refine ex (xt (xt (xb (th (sq (rg (fin hT 1 I (th (rt ?_)))))))));rw[<-hw];exact ret1 I I ⟨I,I,I⟩
theorem withRC{w0:World}{K:PH}{hs:List PH}(r:Rl)(v0:Value)(hv:RlS K r v0)(aH:Option Addr)(cH:Nat)(x:List Ent)(xH:SlS 4 (EntC K) K aH x.length cH x)(aT:Option Addr)(cT:Nat)(y:List Ent)(yT:SlS 4 (EntC K) K aT y.length cT y)(hl:x.length+y.length<=1099511627):
  Ct Tryz.prog w0 117 [v0,.slice aH x.length cH,.slice aT y.length cT] K hs (fun v K' hs'=>Le K K'/\hs'=hs/\RlS K' { r with l:=x++y } v):=by
 obtain ⟨aV,cV,aD,cD,aL,cL,rfl,xV,xD,xL⟩:=hv;obtain ⟨cs1,hn1,hS1,hal1,hcl1⟩:=xH;obtain ⟨cs2,hn2,hS2,hal2,hcl2⟩:=yT;refine enter Tryz.func117 qk I I I (sq (rg (bx hT 0 I fun b3=>al hT 0 (.agg #[.int .u64 0,.int .i64 0,.int .u64 0,.int .u64 0,.slice none 0 0,.slice none 0 0,.slice none 0 0]) I qk fun b6=>WL.hs (pt b6 #[.int .u64 0,.int .i64 0,.int .u64 0,.int .u64 0,.slice none 0 0,.slice none 0 0,.slice none 0 0] 37::pt b3 (rlV r aV cV aD cD aL cL) 37::hs) I (fin hT 0 I (th (sq (rg (lit hT 0 #[] I (by decide) qk fun b8=>app hT 1 0 I I (Own.ofPt (c:=#[]) (n:=0) (by simp) (by simp[maxLen])) (.inl I) hS1 I (by decide) (ents_one hal1) (by show (0+x.length)*48<=_;omega) (by simp[maxLen];omega) fun ao10 c10 g10 o10=>fin hT 1 rfl (th (sq (rg (app hT 2 0 rfl rfl o10 (.inl rfl) hS2 rfl (by decide) (ents_one hal2) (by show (0+x.length+y.length)*48<=_;omega) (by simp[maxLen];omega) fun ao13 c13 g13 o13=>?_))))))))))))
 have e0:0+x.length+y.length=(x++y).length:=by rw[List.length_append];omega
 rw[e0] at o13 ⊢;refine stp hT 1 2 I I I I (WL.hs (g13::pt b6 #[.int .u64 0,.int .i64 0,.int .u64 0,.int .u64 0,.slice none 0 0,.slice none 0 0,.slice none 0 0] 37::pt b3 (rlV { r with l:=x++y } aV cV aD cD ao13 c13) 37::hs) I (fin hT 0 I (th (sq (rg (ldS hT 0 2 I I qk (stS hT 0 1 I I qk I I (fin hT 0 I (th (rt (WQ.frz fun K2 l1 l2=>?_)))))))))));have hal:=(hal1.append hal2).imp (R':=EntC K2) fun _ _ h=>h.le l1;refine retcA 0 2 I I I qk ⟨l1,I,aV,cV,aD,cD,ao13,c13,I,xV.le l1,xD.le l1,cs1++cs2,I,?_,hal,?_⟩
 ·have:=o13.isS.le l2;rw[List.nil_append] at this;rw[List.flatten_append];exact this
 ·intro d hd;rcases List.mem_append.1 hd with hd|hd
  ·exact hcl1 d hd
  ·exact hcl2 d hd
end
section
def Rl.fits(r:Rl)(s:Snp):Int:=
 if (putConf s.vot).isSome=false\/2097152<s.data.length then 181 else if s.idx<=r.sn.idx\/lgTop<=s.idx then 180 else 0
def z7:Array Value:=#[.int .u64 0,.int .i64 0,.int .u64 0,.int .u64 0,.slice none 0 0,.slice none 0 0,.slice none 0 0]
attribute [local irreducible] Code.wp wpList Calls
theorem appendRC{w0:World}{K:PH}{hs:List PH}(r:Rl)(n:Nat)(hb:RBd n r)(v0:Value)(hv:RlS K r v0)(ao:Option Addr)(cap:Nat)(x:List Ent)(xs:SlS 4 (EntC K) K ao x.length cap x)(hx:∀ e∈x,entB e)(hn:n+x.length<=1099511627):
  Ct Tryz.prog w0 68 [v0,.slice ao x.length cap] K hs (fun v K' hs'=>Le K K'/\hs'=hs/\∃ v1,v=.tuple #[v1,.int .i64 (r.append x).2]/\RlS K' (r.append x).1 v1):=by
 have hv0:=hv;obtain ⟨aV,cV,aD,cD,aL,cL,rfl,xV,xD,xL⟩:=hv;have h1:=hb.idx;have h2:=hb.len;unfold lgTop at h1;have ht:=trm_leR hb (r.sn.idx+r.l.length);unfold Rl.append;refine enter Tryz.func68 qk I I I (sq (rg (bx hT 0 I fun b2=>al hT 0 (.agg #[.int .u64 0,.int .i64 0,.int .u64 0,.int .u64 0,.slice none 0 0,.slice none 0 0,.slice none 0 0]) I qk fun b4=>WL.hs (pt b4 z7 37::pt b2 (rlV r aV cV aD cD aL cL) 37::hs) I (fin hT 1 I (th (sq (rga [pt b2 (rlV r aV cV aD cD aL cL) 37] 9 [0,2,5,7,8,10,12,14,16] (by simp) qk qk (dldS hT qk 0 0 I qk I qk (dldS hT qk 0 0 I qk I qk (dact hT qk 0 I (cl hT 0 I (lastRC r n hb qo _ hv0) ?_)))))))))));rintro v12 K12 hs12 ⟨rfl,rfl,rfl⟩;refine dnex [pt b2 (rlV r aV cV aD cD aL cL) 37] (by simp) (by simp) I (dact hT qk 0 I (cl hT 0 I (termRC r n hb qo _ hv0 (r.sn.idx+r.l.length) (by unfold mxU;omega)) ?_))
 rintro v13 K13 hs13 ⟨rfl,rfl,rfl⟩;refine dnex [pt b2 (rlV r aV cV aD cD aL cL) 37] (by simp) (by simp) I (dend hT qk 5 I (th (sq (rg (ldS hT 0 1 I I qk (cl hT 0 I (lastRC r n hb qo _ hv0) ?_))))));rintro v17 K17 hs17 ⟨rfl,rfl,rfl⟩;refine cl hT 2 I (followRC _ _ (by unfold mxU;omega) ht ao cap x xs hx qo) ?_;rintro v20 K20 hs20 ⟨rfl,rfl,rfl⟩;refine fin hT 1 I (th (sq (sq (rg (cmpS hT 1 I fun b22 h22=>fin hT 0 I (th (ifP h22 I (fun e2=>?_) (fun e2=>?_))))))))
 ·rw[if_pos e2];exact sq (rg (ldS hT 0 1 I I qk (stS hT 1 0 I I qk I I (fin hT 1 I (th (rt (rT (retcP 0 2 I I I I qk ⟨Le.refl _,I,_,I,hv0⟩))))))))
 ·rw[if_neg e2];refine sk (th (sq (rg (ldS hT 0 1 I I qk (ldp hT 1 1 I I I (cl hT 1 I (withRC r _ hv0 aL cL r.l xL ao cap x xs qo) ?_))))));rintro v29 K29 hs29 ⟨le,rfl,aV',cV',aD',cD',aL',cL',rfl,xV',xD',xL'⟩;exact stS hT 0 0 I I qk I I (fin hT 1 I (th (rt (retcP 0 2 I I I I qk ⟨le,I,_,I,aV',cV',aD',cD',aL',cL',I,xV',xD',xL'⟩))))
theorem setHardRC{w0:World}{K:PH}{hs:List PH}(r:Rl)(v0:Value)(hv:RlS K r v0)(t:Nat)(v:Int):
  Ct Tryz.prog w0 67 [v0,.agg #[.int .u64 (t:Nat),.int .i64 v]] K hs (fun u K' hs'=>K'=K/\hs'=hs/\∃ v1,u=.tuple #[v1,.int .i64 (r.setHard t v).2]/\RlS K' (r.setHard t v).1 v1):=by
 have hv0:=hv;obtain ⟨aV,cV,aD,cD,aL,cL,rfl,xV,xD,xL⟩:=hv;unfold Rl.setHard;refine enter Tryz.func67 qk I I I (sq (rg (bx hT 0 I fun b2=>bx hT 0 I fun b3=>al hT 0 (.agg #[.int .u64 0,.int .i64 0,.int .u64 0,.int .u64 0,.slice none 0 0,.slice none 0 0,.slice none 0 0]) I qk fun b4=>WL.hs (pt b4 z7 37::pt b3 #[.int .u64 (t:Nat),.int .i64 v] 25::pt b2 (rlV r aV cV aD cD aL cL) 37::hs) I (fin hT 1 I (th (sq (sq (rg (ldp hT 1 1 I I I (cmpS hT 0 I fun b8 h8=>?_))))))))))
 refine' bjo (q:=6<v) hT 1 4 13 [8,9] h8 I I I I I I I (fun _=>?x2) (fun b13 h13=>?_)
 case x2=>
  exact ldp hT 1 1 I I I (cmpS hT 0 I fun b12 h12=>fin hT 1 I<|bjx (h12.trans qo) I I I)
 refine fin hT 0 I<|th (ifP h13 I (fun e4=>?_) (fun e4=>?_))
 ·rw[if_pos e4];exact sq (rg (ldS hT 0 2 I I qk (stS hT 0 0 I I qk I I (fin hT 1 I (th (rt (rT (retcP 0 3 I I I I qk ⟨I,I,_,I,hv0⟩))))))))
 ·rw[if_neg e4];refine sk (th (sq (sq (rg (ldp hT 1 1 I I I (ldp hT 2 2 I I I (cmpS hT 0 I fun b20 h20=>fin hT 0 I (th (ifP h20 I (fun e6=>?_) (fun e6=>?_))))))))))
  ·rw[if_pos qo];exact sq (rg (ldS hT 0 2 I I qk (stS hT 0 0 I I qk I I (fin hT 1 I (th (rt (rT (retcP 0 3 I I I I qk ⟨I,I,_,I,hv0⟩))))))))
  ·rw[if_neg qo];exact sk (th (sq (rg (ldS hT 0 1 I I qk (sts hT 1 2 I I qk (by simp[rlV]) (fun v hv=>by simp at hv;rcases hv with rfl|rfl <;> rfl) (WL.hs (pt b4 z7 37::pt b3 #[.int .u64 (t:Nat),.int .i64 v] 25::pt b2 (rlV { r with kt:=t,kv:=v } aV cV aD cD aL cL) 37::hs) rfl (fin hT 0 rfl (th (sq (rg (ldS hT 0 2 rfl rfl qk (stS hT 0 0 rfl rfl qk rfl rfl (fin hT 1 rfl (th (rt (retcP 0 3 rfl rfl rfl rfl qk ⟨rfl,rfl,_,rfl,aV,cV,aD,cD,aL,cL,rfl,xV,xD,xL⟩))))))))))))))))
theorem backRC{w0:World}{K:PH}{hs:List PH}(r:Rl)(n:Nat)(hb:RBd n r)(hn:n<=1099511627776)(v0:Value)(hv:RlS K r v0)(i:Nat)(hi:i<=mxU)(hge:r.sn.idx<=i):
  Ct Tryz.prog w0 118 [v0,.int .u64 (i:Nat)] K hs (fun v K' hs'=>K'=K/\hs'=hs/\v=.int .u64 (bck r.sn r.l i:Nat)):=by
 have hv0:=hv;obtain ⟨aV,cV,aD,cD,aL,cL,rfl,xV,xD,xL⟩:=hv;have h1:=hb.idx;have h2:=hb.len;unfold lgTop at h1;have hi0:=hi;unfold mxU at hi;unfold bck;refine enter Tryz.func118 qk I I I (sq (rg (bx hT 0 I fun b2=>WL.hs (pt b2 (rlV r aV cV aD cD aL cL) 37::hs) I (fin hT 1 I (th (sq (sq (rg (ldS hT 1 0 I I qk (cl hT 0 I (lastRC r n hb hn _ hv0) ?_))))))))));rintro v12 K12 hs12 ⟨rfl,rfl,rfl⟩;refine cmpS hT 0 I fun b13 h13=>fin hT 0 I (th (ifP h13 I (fun e2=>?_) (fun e2=>?_)))
 ·rw[if_pos qo];refine sq (rg (ldS hT 0 0 I I qk (cl hT 0 I (lastRC r n hb hn _ hv0) ?_)));rintro v15 K15 hs15 ⟨rfl,rfl,rfl⟩;exact fin hT 1 I (th (rt (rT (WQ.drop (ret1 I I ⟨I,I,I⟩)))))
 ·rw[if_neg qo];refine sk (th (sq (rg (ldS hT 0 0 I I qk (cl hT 1 I (termRC r n hb hn _ hv0 i hi0) ?_)))));rintro v19 K19 hs19 ⟨rfl,rfl,rfl⟩;obtain ⟨T,hT'⟩:∃ T,T=trm r.sn r.l i:=⟨_,rfl⟩;rw[<-hT'];obtain ⟨t,b⟩:=T;obtain ⟨R,hR⟩:∃ R,R=bckL r.sn r.l t i:=⟨_,rfl⟩;dsimp only;rw[<-hR];refine fin hT 5 I (th (sq (sq (rg (fin hT 2 I (th (bk ?_)))))))
  refine loop (σ:=Nat) (fun j=>[(2,.pointer (some ⟨b2,0,none⟩)),(5,.int .u64 (t:Nat)),(7,.int .u64 (j:Nat))]) (fun _=>K19)
   (fun _=>pt b2 (rlV r aV cV aD cD aL cL) 37::hs) (fun j=>j<=i/\r.sn.idx<=j/\bckL r.sn r.l t j=R) (fun j=>j) i ⟨Nat.le_refl _,hge,hR.symm⟩ ⟨rfl,rfl,rfl,trivial⟩ rfl rfl ?_
  rintro j ⟨hj,hjg,hw⟩;refine sq (sq (rg (ldp hT 3 0 I I I (cmpS hT 0 I fun b27 h27=>fin hT 0 I (th (ifP h27 I (fun e4=>?_) (fun e4=>?_)))))))
  ·obtain ⟨j,rfl⟩:∃ k,j=k+1:=⟨j-1,by omega⟩;have hw0:bckL r.sn r.l t (j+1)=if (trm r.sn r.l j).1≠t then j else bckL r.sn r.l t j:=by rw[bckL,if_pos qo]
   rw[hw0] at hw;refine sk (th (sq (bk (sq (rg (ldS hT 0 0 I I qk (ar hT 1 I (u64s1 (a:=j+1) qo qo) ?_)))))));rw[show j+1-1=j from rfl];refine cl hT 0 I (termRC r n hb hn _ hv0 j (by unfold mxU;omega)) ?_;rintro v34 K34 hs34 ⟨rfl,rfl,rfl⟩;obtain ⟨U,hU⟩:∃ U,U=trm r.sn r.l j:=⟨_,rfl⟩;rw[<-hU] at hw ⊢;obtain ⟨u,b'⟩:=U;dsimp only at hw;refine fin hT 5 I (th (sq (rg (cmpS hT 2 I fun b39 h39=>fin hT 0 I (th (ifP h39 I (fun e6=>?_) (fun e6=>?_)))))))
   ·rw[if_pos qo] at hw;subst hw;exact sq (rg (ar hT 1 I (u64s1 (a:=j+1) qo qo) (fin hT 1 I (th (rt (rB (rT (rT (rB (rT (WQ.drop (ret1 I I ⟨I,I,I⟩))))))))))))
   ·rw[if_neg qo] at hw;exact sk (bl (th (rg (ar hT 1 I (u64s1 (a:=j+1) qo qo) (fin hT 1 I (again (x:=j+1) j ⟨I,I,I,trivial⟩ I I ⟨by omega,by omega,hw⟩ qo))))))
  ·have hw0:bckL r.sn r.l t j=j:=by
    cases j with
    | zero=>rfl
    | succ j=>rw[bckL,if_neg qo]
   rw[hw0] at hw;have hjs:r.sn.idx=R:=by omega
   refine ex (xt (xt (xb (th (sq (rg (ldp hT 2 0 I I I (fin hT 1 I (th (rt (WQ.drop ?_)))))))))));rw[<-hjs];exact ret1 I I ⟨I,I,I⟩
theorem fitsRC{w0:World}{K:PH}{hs:List PH}(r:Rl)(v0:Value)(hv:RlS K r v0)(s:Snp)(aV:Option Addr)(cV:Nat)(aD:Option Addr)(cD:Nat)(xv:IsS K aV s.vot.length cV 1 (iv s.vot))(hvl:s.vot.length<1099511627776)(h64:∀ v∈s.vot,-9223372036854775808<=v/\v<=9223372036854775807):
  Ct Tryz.prog w0 119 [v0,.agg (snV s aV cV aD cD)] K hs (fun v K' hs'=>K'=K/\hs'=hs/\v=.int .i64 (r.fits s)):=by
 obtain ⟨aV',cV',aD',cD',aL,cL,rfl,xV,xD,xL⟩:=hv;unfold Rl.fits;refine enter Tryz.func119 qk I I I (sq (rg (bx hT 0 I fun b2=>bx hT 0 I fun b3=>WL.hs (pt b3 (snV s aV cV aD cD) 32::pt b2 (rlV r aV' cV' aD' cD' aL cL) 37::hs) I (fin hT 1 I (th (sq (rg (lds hT 1 [.slice aV s.vot.length cV] I qk (.inr ⟨0,I⟩) (cells_sub _ I) (cl hT 0 I (putConfRef aV cV s.vot (.inl I) xv hvl h64) ?_)))))))));rintro v10 K10 hs10 ⟨rfl,h10,ao10,c10,rfl,rfl,o10⟩;refine fin hT 5 I (th (sq (sq (rg (WL.drop (cmpS hT 1 I fun b14 h14=>?_))))))
 refine' bjo (q:=2097152<s.data.length) hT 1 5 20 [14,15] (h14.trans (show _↔(putConf s.vot).isSome=false by cases putConf s.vot <;> simp[ec])) rfl rfl rfl rfl rfl rfl rfl (fun _=>?x2) (fun b20 h20=>?_)
 case x2=>
  exact ldp hT 1 0 I I I (cmpS hT 1 I fun b19 h19=>fin hT 1 I<|bjx (h19.trans qo) I I I)
 refine fin hT 0 I<|th (ifP h20 I (fun e4=>?_) (fun e4=>?_))
 ·rw[if_pos e4];exact sq (rg (fin hT 1 I (th (rt (rT (WQ.drop (WQ.drop (ret1 I I ⟨I,I,I⟩))))))))
 ·rw[if_neg e4];refine sk (th (sq (sq (rg (ldp hT 1 0 I I I (ldp hT 2 1 I I I (cmpS hT 0 I fun b26 h26=>?_)))))))
  refine' bjo (q:=lgTop<=s.idx) hT 1 4 31 [26,27] (h26.trans (show _↔s.idx<=r.sn.idx by omega)) I I I I I I I (fun _=>?x6) (fun b31 h31=>?_)
  case x6=>
   exact ldp hT 1 0 I I I (cmpS hT 0 I fun b30 h30=>fin hT 1 I (bjx (h30.trans (by unfold lgTop;omega)) rfl rfl rfl))
  refine fin hT 0 I<|th (ifP h31 I (fun e8=>?_) (fun e8=>?_))
  ·rw[if_pos e8];exact sq (rg (fin hT 1 I (th (rt (rT (WQ.drop (WQ.drop (ret1 I I ⟨I,I,I⟩))))))))
  ·rw[if_neg e8];exact sk (th (sq (rg (fin hT 1 I (th (rt (WQ.drop (WQ.drop (ret1 I I ⟨I,I,I⟩)))))))))
end
section
def Rl.save(r:Rl)(s:Snp):Rl×Int:=
 if r.fits s≠0 then (r,r.fits s) else if lgHas r.sn r.l s=false then (r,180) else ({ r with sn:=s,l:=r.l.drop (s.idx-r.sn.idx) },0)
def Rl.install(r:Rl)(s:Snp):Rl×Int:=
 if r.fits s≠0 then (r,r.fits s) else if lgHas r.sn r.l s=true then r.save s else ({ r with sn:=s,l:=[] },0)
theorem rfits_ok{r:Rl}{s:Snp}(h:r.fits s=0):(putConf s.vot).isSome=true/\s.data.length<=2097152/\r.sn.idx<s.idx/\s.idx<lgTop:=by
 unfold Rl.fits at h
 split at h
 ·cases h
 ·rename_i h1
  split at h
  ·cases h
  ·rename_i h2;have h1:=not_or.1 h1;refine ⟨by cases h3:(putConf s.vot).isSome with|true=>rfl|false=>exact absurd h3 h1.1,by omega,by omega,by omega⟩
theorem lgHas_iff{s:Snp}{l:List Ent}{t:Snp}:lgHas s l t=false↔((trm s l t.idx).2=false\/(trm s l t.idx).1≠t.term):=by
 unfold lgHas;cases (trm s l t.idx).2 <;> simp
theorem lgHas_true{s:Snp}{l:List Ent}{t:Snp}(h:lgHas s l t=true)(hlt:s.idx<t.idx):t.idx<=s.idx+l.length:=by
 unfold lgHas trm at h;rw[if_neg qo] at h
 by_cases h2:t.idx<s.idx\/s.idx+l.length<t.idx
 ·rw[if_pos h2] at h;simp at h
 ·omega
attribute [local irreducible] Code.wp wpList Calls
theorem saveRC{w0:World}{K:PH}{hs:List PH}(r:Rl)(n:Nat)(hb:RBd n r)(hn:n<=1099511627)(v0:Value)(hv:RlS K r v0)(s:Snp)(hsi:s.idx<=mxU)(aV:Option Addr)(cV:Nat)(aD:Option Addr)(cD:Nat)(xv:IsS K aV s.vot.length cV 1 (iv s.vot))(xd:IsS K aD s.data.length cD 1 (bv s.data))(hvl:s.vot.length<1099511627776)(h64:∀ v∈s.vot,-9223372036854775808<=v/\v<=9223372036854775807):
  Ct Tryz.prog w0 70 [v0,.agg (snV s aV cV aD cD)] K hs (fun v K' hs'=>Le K K'/\hs'=hs/\∃ v1,v=.tuple #[v1,.int .i64 (r.save s).2]/\RlS K' (r.save s).1 v1):=by
 have hv0:=hv;obtain ⟨aV',cV',aD',cD',aL,cL,rfl,xV,xD,xL⟩:=hv;have hlen:=hb.len;unfold Rl.save;refine enter Tryz.func70 qk I I I (sq (rg (bx hT 0 I fun b2=>bx hT 0 I fun b3=>al hT 0 (.agg #[.int .u64 0,.int .i64 0,.int .u64 0,.int .u64 0,.slice none 0 0,.slice none 0 0,.slice none 0 0]) I qk fun b4=>WL.hs (pt b4 z7 37::pt b3 (snV s aV cV aD cD) 32::pt b2 (rlV r aV' cV' aD' cD' aL cL) 37::hs) I (fin hT 1 I (th (sq (rg (ldS hT 0 2 I I qk (ldS hT 0 1 I I qk (cl hT 0 I (fitsRC r _ hv0 s aV cV aD cD xv hvl h64) ?_))))))))));rintro v12 K12 hs12 ⟨rfl,rfl,rfl⟩;refine fin hT 1 I (th (sq (sq (rg (cmpS hT 1 I fun b14 h14=>fin hT 0 I (th (ifP h14 I (fun e2=>?_) (fun e2=>?_))))))))
 ·rw[if_pos e2];exact sq (rg (ldS hT 0 2 I I qk (stS hT 1 0 I I qk I I (fin hT 1 I (th (rt (rT (retcP 0 3 I I I I qk ⟨Le.refl _,I,_,I,hv0⟩))))))))
 ·rw[if_neg e2];obtain ⟨f1,f2,f3,f4⟩:=rfits_ok (Decidable.not_not.1 e2);unfold lgTop at f4;refine sk (th (sq (rg (ldS hT 0 2 I I qk (ldp hT 1 1 I I I (cl hT 0 I (termRC r n hb qo _ hv0 s.idx hsi) ?_))))));rintro v21 K21 hs21 ⟨rfl,rfl,rfl⟩;have hiff:=lgHas_iff (s:=r.sn) (l:=r.l) (t:=s);have htr:=fun h=>lgHas_true (s:=r.sn) (l:=r.l) (t:=s) h f3;obtain ⟨T,hT'⟩:∃ T,T=trm r.sn r.l s.idx:=⟨_,rfl⟩;rw[<-hT'] at hiff ⊢;obtain ⟨t,b⟩:=T;dsimp only at hiff;refine fin hT 5 I (th (sq (sq (rg (cbS hT 1 (b=false) I (by cases b <;> simp) fun b25 h25=>?_)))))
  refine' bjo (q:=t≠s.term) hT 1 5 31 [25,26] h25 I I I I I I I (fun _=>?x3) (fun b31 h31=>?_)
  case x3=>
   exact ldp hT 2 1 I I I (cmpS hT 0 I fun b30 h30=>fin hT 1 I<|bjx (h30.trans qo) I I I)
  refine fin hT 0 I<|th (ifP h31 I (fun e5=>?_) (fun e5=>?_))
  ·rw[if_pos (hiff.2 e5)];exact sq (rg (ldS hT 0 2 I I qk (stS hT 0 0 I I qk I I (fin hT 1 I (th (rt (rT (retcP 0 3 I I I I qk ⟨Le.refl _,I,_,I,hv0⟩))))))))
  ·have hhas:lgHas r.sn r.l s=true:=by cases h:lgHas r.sn r.l s with|true=>rfl|false=>exact absurd (hiff.1 h) e5
   have hle:=htr hhas;rw[if_neg (by rw[hhas];simp)];obtain ⟨d,hd⟩:∃ d,d=r.l.drop (s.idx-r.sn.idx):=⟨_,rfl⟩;have hdl:d.length=r.l.length-(s.idx-r.sn.idx):=by rw[hd,List.length_drop]
   have xcut:=xL.cut (s.idx-r.sn.idx) qo;rw[<-hdl,<-hd] at xcut;have hcap:r.l.length<=cL:=by obtain ⟨_,h⟩:=xL.isS;exact h.2.1
   rw[<-hd];refine sk (th (sq (rga [pt b3 (snV s aV cV aD cD) 32,pt b2 (rlV r aV' cV' aD' cD' aL cL) 37] 13 [0,2,4,6,8,10,12,14,16,18,21,23,25] (by simp) qk qk (dldS hT qk 0 1 I qk I qk (dldpw hT qk 1 1 I qk I I (dldpw hT qk 1 0 I qk I I (dldpw hT qk 2 1 I qk I I (dar hT qk 0 I (u64s qo qo) (dslx hT qk 0 (s.idx-r.sn.idx) d.length I I I (by show ((r.l.length:Nat):Int)=_;omega) qo ?_)))))))));have fn:∀ (v1:Value) (b9:Nat) (K':PH),Le K21 K'->RlS K' { r with l:=d } v1->True:=fun _ _ _ _ _=>trivial;refine dfork 11 hT qk 0 [21,25] I qk ?_ ?_
   ·refine cl hT 0 I (withRC r _ hv0 _ _ d xcut none 0 [] (SlS.nil _ _ _ _) (by simp;omega)) ?_;rintro v43 K43 hs43 ⟨le,rfl,aV2,cV2,aD2,cD2,aL2,cL2,rfl,xV2,xD2,xL2⟩;rw[List.append_nil] at xL2;refine dnexL [pt b3 (snV s aV cV aD cD) 32,pt b2 (rlV r aV' cV' aD' cD' aL cL) 37] (by simp) (by simp) le (dact hT qk 0 I (al hT 0 (.agg #[.int .u64 0,.int .i64 0,.int .u64 0,.int .u64 0,.slice none 0 0,.slice none 0 0,.slice none 0 0]) I qk fun b9=>dnex [pt b3 (snV s aV cV aD cD) 32,pt b2 (rlV r aV' cV' aD' cD' aL cL) 37] (by simp) (by simp) I (dact hT qk 0 I (stS hT 0 0 I I qk I I (dnex [pt b3 (snV s aV cV aD cD) 32,pt b2 (rlV r aV' cV' aD' cD' aL cL) 37] (by simp) (by simp) I (dend hT qk 0 I (th (sq (rg (ldS hT 0 2 I I qk (sts hT 1 0 I I qk (by simp[rlV,snV]) (fun v hv=>by simp[snV] at hv;rcases hv with rfl|rfl|rfl|rfl <;> rfl) (WL.hs (pt b9 (rlV { r with sn:=s,l:=d } aV cV aD cD aL2 cL2) 37::pt b4 z7 37::pt b3 (snV s aV cV aD cD) 32::pt b2 (rlV r aV' cV' aD' cD' aL cL) 37::hs) (by simp[rlV,snV]) (fin hT 0 rfl (th (sq (rg ?_))))))))))))))))
    exact ldS hT 0 0 I I qk<|stS hT 0 1 I I qk I I (fin hT 1 I<|th (rt<|retcP 1 4 I I I I qk ⟨le,I,_,I,aV,cV,aD,cD,aL2,cL2,I,xv.le le,xd.le le,by simpa using xL2⟩))
   ·refine al hT 0 (.agg #[.int .u64 0,.int .i64 0,.int .u64 0,.int .u64 0,.slice none 0 0,.slice none 0 0,.slice none 0 0]) I qk fun b9=>dnex [pt b3 (snV s aV cV aD cD) 32,pt b2 (rlV r aV' cV' aD' cD' aL cL) 37] (by simp) (by simp) I (dact hT qk 0 I (cl hT 0 I (withRC r _ hv0 _ _ d xcut none 0 [] (SlS.nil _ _ _ _) (by simp;omega)) ?_));rintro v43 K43 hs43 ⟨le,rfl,aV2,cV2,aD2,cD2,aL2,cL2,rfl,xV2,xD2,xL2⟩;rw[List.append_nil] at xL2;refine dnexL [pt b3 (snV s aV cV aD cD) 32,pt b2 (rlV r aV' cV' aD' cD' aL cL) 37] (by simp) (by simp) le (dact hT qk 0 I (stS hT 0 0 I I qk I I (dnex [pt b3 (snV s aV cV aD cD) 32,pt b2 (rlV r aV' cV' aD' cD' aL cL) 37] (by simp) (by simp) I (dend hT qk 0 I (th (sq (rg (ldS hT 0 2 I I qk (sts hT 1 0 I I qk (by simp[rlV,snV]) (fun v hv=>by simp[snV] at hv;rcases hv with rfl|rfl|rfl|rfl <;> rfl) (WL.hs (pt b9 (rlV { r with sn:=s,l:=d } aV cV aD cD aL2 cL2) 37::pt b4 z7 37::pt b3 (snV s aV cV aD cD) 32::pt b2 (rlV r aV' cV' aD' cD' aL cL) 37::hs) (by simp[rlV,snV]) (fin hT 0 rfl (th (sq (rg (ldS hT 0 0 rfl rfl qk (stS hT 0 1 rfl rfl qk rfl rfl (fin hT 1 rfl (th (rt ?_)))))))))))))))))))
    exact retcP 1 4 I I I I qk ⟨le,I,_,I,aV,cV,aD,cD,aL2,cL2,I,xv.le le,xd.le le,by simpa using xL2⟩
theorem installRC{w0:World}{K:PH}{hs:List PH}(r:Rl)(n:Nat)(hb:RBd n r)(hn:n<=1099511627)(v0:Value)(hv:RlS K r v0)(s:Snp)(hsi:s.idx<=mxU)(aV:Option Addr)(cV:Nat)(aD:Option Addr)(cD:Nat)(xv:IsS K aV s.vot.length cV 1 (iv s.vot))(xd:IsS K aD s.data.length cD 1 (bv s.data))(hvl:s.vot.length<1099511627776)(h64:∀ v∈s.vot,-9223372036854775808<=v/\v<=9223372036854775807):
  Ct Tryz.prog w0 71 [v0,.agg (snV s aV cV aD cD)] K hs (fun v K' hs'=>Le K K'/\hs'=hs/\∃ v1,v=.tuple #[v1,.int .i64 (r.install s).2]/\RlS K' (r.install s).1 v1):=by
 have hv0:=hv;obtain ⟨aV',cV',aD',cD',aL,cL,rfl,xV,xD,xL⟩:=hv;have hlen:=hb.len;unfold Rl.install;refine enter Tryz.func71 qk I I I (sq (rg (bx hT 0 I fun b2=>bx hT 0 I fun b3=>al hT 0 (.agg #[.int .u64 0,.int .i64 0,.int .u64 0,.int .u64 0,.slice none 0 0,.slice none 0 0,.slice none 0 0]) I qk fun b4=>WL.hs (pt b4 z7 37::pt b3 (snV s aV cV aD cD) 32::pt b2 (rlV r aV' cV' aD' cD' aL cL) 37::hs) I (fin hT 1 I (th (sq (rg (ldS hT 0 2 I I qk (ldS hT 0 1 I I qk (cl hT 0 I (fitsRC r _ hv0 s aV cV aD cD xv hvl h64) ?_))))))))));rintro v12 K12 hs12 ⟨rfl,rfl,rfl⟩;refine fin hT 1 I (th (sq (sq (rg (cmpS hT 1 I fun b14 h14=>fin hT 0 I (th (ifP h14 I (fun e2=>?_) (fun e2=>?_))))))))
 ·rw[if_pos e2];exact sq (rg (ldS hT 0 2 I I qk (stS hT 1 0 I I qk I I (fin hT 1 I (th (rt (rT (retcP 0 3 I I I I qk ⟨Le.refl _,I,_,I,hv0⟩))))))))
 ·rw[if_neg e2];obtain ⟨f1,f2,f3,f4⟩:=rfits_ok (Decidable.not_not.1 e2);refine sk (th (sq (rg (ldS hT 0 2 I I qk (ldp hT 1 1 I I I (cl hT 0 I (termRC r n hb qo _ hv0 s.idx hsi) ?_))))));rintro v21 K21 hs21 ⟨rfl,rfl,rfl⟩;have hiff:=lgHas_iff (s:=r.sn) (l:=r.l) (t:=s);obtain ⟨T,hT'⟩:∃ T,T=trm r.sn r.l s.idx:=⟨_,rfl⟩;rw[<-hT'] at hiff ⊢;obtain ⟨t,b⟩:=T;dsimp only at hiff;refine fin hT 5 I (th (sq (sq (rg ?_))))
  refine' bja (p:=b=true) (q:=t=s.term) hT 2 5 29 [8,22,23,24] (b:=b) Iff.rfl I I I I I I I (fun _=>?x3) (fun b29 h29=>?_)
  case x3=>
   exact ldp hT 2 1 I I I (cmpS hT 0 I fun b28 h28=>fin hT 1 I<|bjx (h28.trans qo) I I I)
  refine fin hT 0 I<|th (ifP h29 I (fun e5=>?_) (fun e5=>?_))
  ·have hhas:lgHas r.sn r.l s=true:=by
    cases h:lgHas r.sn r.l s with
    | true=>rfl
    | false=>exfalso;rcases hiff.1 h with h1|h1;(rw[e5.1] at h1;cases h1);exact h1 e5.2
   rw[if_pos hhas];refine sq (rg (ldS hT 0 2 I I qk (ldS hT 0 1 I I qk (cl hT 0 I (saveRC r n hb hn _ hv0 s hsi aV cV aD cD xv xd hvl h64) ?_))));rintro v32 K32 hs32 ⟨le,rfl,v1,rfl,hv1⟩;obtain ⟨aV2,cV2,aD2,cD2,aL2,cL2,rfl,xV2,xD2,xL2⟩:=id hv1;exact stS hT 2 0 I I qk I I (fin hT 1 I (th (rt (rT (retcP 0 3 I I I I qk ⟨le,I,_,I,hv1⟩)))))
  ·have hhas:lgHas r.sn r.l s=false:=by
    refine hiff.2 ?_;cases b with
    | false=>exact .inl rfl
    | true=>exact .inr fun h=>e5 ⟨rfl,h⟩
   rw[if_neg (by rw[hhas];simp)];exact sk (th (sq (rg (ldS hT 0 1 I I qk (sts hT 1 2 I I qk (by simp[rlV,snV]) (fun v hv=>by simp[snV] at hv;rcases hv with rfl|rfl|rfl|rfl <;> rfl) (fin hT 0 rfl (th (sq (rg (stp hT 1 2 rfl rfl rfl rfl (WL.hs (pt b4 z7 37::pt b3 (snV s aV cV aD cD) 32::pt b2 (rlV { r with sn:=s,l:=[] } aV cV aD cD none 0) 37::hs) rfl (fin hT 0 rfl (th (sq (rg (ldS hT 0 2 rfl rfl qk (stS hT 0 0 rfl rfl qk rfl rfl (fin hT 1 rfl (th (rt (retcP 0 3 rfl rfl rfl rfl qk ⟨Le.refl _,rfl,_,rfl,aV,cV,aD,cD,none,0,rfl,xv,xd,SlS.nil _ _ _ _⟩)))))))))))))))))))))
end
section
def Rl.merge2(r:Rl)(x:List Ent)(last:Nat):Rl×Nat×Bool×Int:=
 match (skp r.sn r.l x true).1 with
 | []=>(r,last,true,0)
 | e::t=>({ r with l:=r.l.take (e.idx-r.sn.idx-1)++(e::t) },last,true,0)
def Rl.merge1(r:Rl)(i t:Nat)(x:List Ent)(last:Nat):Rl×Nat×Bool×Int:=
 if (trm r.sn r.l i).2=false\/(trm r.sn r.l i).1≠t then (r,bck r.sn r.l i,false,0) else r.merge2 x last
def Rl.merge(r:Rl)(i t:Nat)(x:List Ent):Rl×Nat×Bool×Int:=
 if fol i t x≠0 then (r,0,false,fol i t x)
 else if i<r.sn.idx then
  (if i+x.length<r.sn.idx then (r,i+x.length,true,0)
   else if ((x.drop (r.sn.idx-i)).head?.map fun e=>decide (e.term<r.sn.term))=some true then (r,0,false,180)
   else r.merge1 r.sn.idx r.sn.term (x.drop (r.sn.idx-i)) (i+x.length))
 else r.merge1 i t x (i+x.length)
theorem rmerge2_nil{r:Rl}{x:List Ent}{B:Bool}{last:Nat}(h:skp r.sn r.l x true=([],B)):r.merge2 x last=(r,last,true,0):=by
 unfold Rl.merge2
 split
 ·rfl
 ·rename_i h2;rw[h] at h2;cases h2
theorem rmerge2_cons{r:Rl}{x:List Ent}{e:Ent}{t:List Ent}{B:Bool}{last:Nat}(h:skp r.sn r.l x true=(e::t,B)):r.merge2 x last=({ r with l:=r.l.take (e.idx-r.sn.idx-1)++(e::t) },last,true,0):=by
 unfold Rl.merge2
 split
 ·rename_i h2;rw[h] at h2;cases h2
 ·rename_i e' r' h2;rw[h] at h2;cases h2
  rfl
theorem SlS.pre{α:Type}{size:Nat}{R:List Value->α->Prop}{H:PH}{ao:Option Addr}{n cap:Nat}{xs:List α}(h:SlS size R H ao n cap xs)(N:Nat)(hN:N<=n):SlS size R H ao N cap (xs.take N):=by
 obtain ⟨css,h1,h2,h3,h4⟩:=h;have hl:css.length=n:=by rw[h3.len,h1]
 have h5:=h2.cut 0 N qo (ys:=(css.take N).flatten) (by rw[Nat.zero_mul,List.drop_zero,flat_take N h4]);rw[cutA_0,Nat.sub_zero] at h5;exact ⟨css.take N,by rw[List.length_take];omega,h5,h3.take N,fun d hd=>h4 d (List.mem_of_mem_take hd)⟩
section
variable {P:Program} {w0:World} {fn:Func} {R:Value->PH->List PH->Prop} {n:Nat} {l:Sl} {K:PH} {hs:List PH}
theorem retcQ(i m:Nat){t ty u p q b ty':Nat}{x y z:Value}{c:Array Value}{fr:Nat×Nat}(hr:fn.results=#[.cell t ty,.tmp u,.tmp p,.tmp q])(hv:look l t=some (.pointer (some ⟨b,0,none⟩)))(hx:look l u=some x)(hy:look l p=some y)(hz:look l q=some z)(hi:hs[i]?=some (pt b c ty' fr))(hm:aggOK P ty c.size=true)
  (hk:R (.tuple #[.agg c,x,y,z]) K (hs.drop m)):WQ w0 (bodyPost P fn (endR w0 R)) .ret n l K hs:=
 fun _ w ha hw=>bodyPost_ret (v:=.tuple #[.agg c,x,y,z]) (by
  have h2:=run_loadVarS (P:=P) (w:=w) (t:=ty) (a:=⟨b,0,none⟩) (cs:=c.toList) (by simpa using hm) rfl (fun j v hv=>hw.cell (.inr ⟨i,hi⟩) (cells_pt c.toList (fun j v h=>by simpa using h) j v hv));have e:c.toList.toArray=c:=by simp
  rw[e] at h2;simp[results,hr,ha.slot t _ hv,ha.slot u x hx,ha.slot p y hy,ha.slot q z hz,asAddr,h2]) ha.defers ⟨_,_,_,rfl,hk,hw.dropN m⟩
end
attribute [local irreducible] Code.wp wpList Calls
theorem mergeRC{w0:World}{K:PH}{hs:List PH}(r:Rl)(n:Nat)(hb:RBd n r)(v0:Value)(hv:RlS K r v0)(i t:Nat)(hi:i<=mxU)(ht:t<=mxU)(ao:Option Addr)(cap:Nat)(x:List Ent)(xs:SlS 4 (EntC K) K ao x.length cap x)(hx:∀ e∈x,entB e)(hn:n+x.length<=1099511627):
  Ct Tryz.prog w0 69 [v0,.int .u64 (i:Nat),.int .u64 (t:Nat),.slice ao x.length cap] K hs
   (fun v K' hs'=>Le K K'/\hs'=hs/\∃ v1,v=.tuple #[v1,.int .u64 (((r.merge i t x).2.1:Nat):Int),.bool (r.merge i t x).2.2.1,.int .i64 (r.merge i t x).2.2.2]/\RlS K' (r.merge i t x).1 v1):=by
 have hv0:=hv;obtain ⟨aV,cV,aD,cD,aL,cL,rfl,xV,xD,xL⟩:=hv;have hidx:=hb.idx;have hlen:=hb.len;unfold lgTop at hidx;obtain ⟨R,hR⟩:∃ R,R=r.merge i t x:=⟨_,rfl⟩;rw[<-hR];unfold Rl.merge at hR;refine enter Tryz.func69 qk I I I (sq (rg (bx hT 0 I fun b4=>al hT 0 (.agg #[.int .u64 0,.int .i64 0,.int .u64 0,.int .u64 0,.slice none 0 0,.slice none 0 0,.slice none 0 0]) I qk fun b8=>WL.hs (pt b8 z7 37::pt b4 (rlV r aV cV aD cD aL cL) 37::hs) I (fin hT 3 I (th (sq (rg (cl hT 3 I (followRC i t hi ht ao cap x xs hx qo) ?_))))))));rintro v22 K22 hs22 ⟨rfl,rfl,rfl⟩;refine fin hT 1 I (th (sq (sq (rg (cmpS hT 1 I fun b24 h24=>fin hT 0 I (th (ifP h24 I (fun e4=>?_) (fun e4=>?_))))))))
 ·rw[if_pos e4] at hR;refine sq (rg (ldS hT 0 1 I I qk (stS hT 1 0 I I qk I I (fin hT 3 I (th (rt (rT ?_)))))));rw[hR];exact retcQ 0 2 I I I I I I qk ⟨Le.refl _,I,_,I,hv0⟩
 ·rw[if_neg e4] at hR;have hfol:=fol_folR (Decidable.not_not.1 e4);have hchain:=folR_idx x i t hfol
  have hlast:i+x.length<=mxU:=by
   rcases Nat.eq_zero_or_pos x.length with h|h
   ·omega
   ·obtain ⟨e,he⟩:∃ e,x[x.length-1]?=some e:=⟨x[x.length-1],List.getElem?_eq_getElem qo⟩;have h1:=hchain _ e he;have h2:=(hx e (List.mem_of_getElem? he)).1;omega
  obtain ⟨last,hla⟩:∃ last,last=i+x.length:=⟨_,rfl⟩;rw[<-hla] at hR hlast;unfold mxU at hi ht hlast;refine sk (th (sq (rg (ar hT 3 I (u64w (x:=((x.length:Nat):Int)) qo) (ar hT 0 I (v':=.int .u64 (last:Nat)) (by rw[show ((i:Nat):Int)+((x.length:Nat):Int)=((last:Nat):Int) from by omega];exact u64w qo) ?_)))))
  refine fin hT 1 I (th (jn (σ:=(Nat×Nat×List Ent)×(Option Addr×Nat)) (fun s=>[(1,.int .u64 s.1.1),(2,.int .u64 s.1.2.1),(3,.slice s.2.1 s.1.2.2.length s.2.2),(4,.pointer (some ⟨b4,0,none⟩)),(8,.pointer (some ⟨b8,0,none⟩)),(13,.int .u64 (last:Nat))])
   (fun _=>pt b8 z7 37::pt b4 (rlV r aV cV aD cD aL cL) 37::hs)
   (fun s=>r.merge1 s.1.1 s.1.2.1 s.1.2.2 last=R/\(s.1.1<=18446744073709551615/\r.sn.idx<=s.1.1)/\SlS 4 (EntC K22) K22 s.2.1 s.1.2.2.length s.2.2 s.1.2.2/\(∀ e∈s.1.2.2,entB e)/\s.1.2.2.length<=x.length/\∀ j e,s.1.2.2[j]?=some e->e.idx=s.1.1+j+1) ?_ ?_))
  ·refine sq<|rg (ldp hT 3 1 I I I (cmpS hT 0 I fun b36 h36=>fin hT 0 I<|th (ifP h36 I (fun e6=>?_) (fun e6=>?_))))
   ·rw[if_pos qo] at hR;refine sq (sq (rg (ldp hT 3 1 I I I (cmpS hT 0 I fun b41 h41=>fin hT 0 I (th (ifP h41 I (fun e8=>?_) (fun e8=>?_)))))))
    ·rw[if_pos qo] at hR;refine sq (rg (ldS hT 0 1 I I qk (stS hT 1 0 I I qk I I (fin hT 3 I (th (rt (rT (jr ?_))))))));rw[hR];exact retcQ 0 2 I I I I I I qk ⟨Le.refl _,I,_,I,hv0⟩
    ·rw[if_neg qo] at hR;obtain ⟨y,hy⟩:∃ y,y=x.drop (r.sn.idx-i):=⟨_,rfl⟩;have hyl:y.length=x.length-(r.sn.idx-i):=by rw[hy,List.length_drop]
     have ysl:=xs.cut (r.sn.idx-i) qo;rw[<-hyl,<-hy] at ysl;rw[<-hy] at hR;have hyx:∀ e∈y,entB e:=fun e he=>hx e (by rw[hy] at he;exact List.mem_of_mem_drop he)
     have hych:∀ j e,y[j]?=some e->e.idx=r.sn.idx+j+1:=fun j e he=>by
      rw[hy,List.getElem?_drop] at he;have:=hchain _ e he;omega
     have hcap:x.length<=cap:=by obtain ⟨_,hh⟩:=xs.isS;exact hh.2.1
     refine sk (th (sq (rg (ldp hT 3 1 I I I (ar hT 1 I (u64s qo qo) (slx hT 0 (r.sn.idx-i) y.length I I (by show ((x.length:Nat):Int)=_;omega) qo (fin hT 1 rfl (th (sq (rg (ldp hT 2 1 rfl rfl rfl (fin hT 1 rfl (th (sq (rg (ldp hT 2 1 rfl rfl rfl (fin hT 1 rfl (th (sq (rg ?_))))))))))))))))))));cases y with
     | nil=>
      rw[if_neg (by simp)] at hR;exact cmp hT 2 I (fun h=>absurd h (by simp)) (fun _=>fin hT 8 I (th (ifF I (sk (jx ((r.sn.idx,r.sn.term,[]),(_,_)) ⟨hR.symm,⟨by dsimp only;omega,Nat.le_refl _⟩,ysl,by simp,Nat.zero_le _,by simp⟩ ⟨rfl,rfl,rfl,rfl,rfl,rfl,trivial⟩ rfl rfl)))))
     | cons e u=>
      obtain ⟨zs,hzs⟩:=ysl.isS;obtain ⟨a,ha⟩:=ysl.addr (by simp) (by decide);have ysl2:=ysl;rw[ha] at ysl2 hzs ⊢;obtain ⟨cc,⟨ae,ce,rfl,xe⟩,_,hcell⟩:=ysl2.cells (i:=0) (x:=e) rfl;refine cmp hT 2 I (fun _=>ixs hT 2 0 I I hzs (by simp) (by decide) fun a62 h62=>?_) (fun h=>absurd (show ((0:Int)<(((e::u).length:Nat):Int)) by simp) h);cases h62;refine ld hT 1 I (.inl I) (hcell 1 _ I) (cmpS hT 1 I fun b66 h66=>fin hT 1 I (th (ifP h66 I (fun e12=>?_) (fun e12=>?_))))
      ·rw[if_pos (by simp;omega)] at hR;refine sq (rg (ldS hT 0 1 I I qk (stS hT 0 0 I I qk I I (fin hT 3 I (th (rt (jr ?_)))))));rw[hR];exact retcQ 0 2 I I I I I I qk ⟨Le.refl _,I,_,I,hv0⟩
      ·rw[if_neg (by simp;omega)] at hR;exact sk (jx ((r.sn.idx,r.sn.term,e::u),(_,_)) ⟨hR.symm,⟨by dsimp only;omega,Nat.le_refl _⟩,ysl2,hyx,by dsimp only;omega,hych⟩ ⟨rfl,rfl,rfl,rfl,rfl,rfl,trivial⟩ rfl rfl)
   ·rw[if_neg qo] at hR;exact sk (jx ((i,t,x),(ao,cap)) ⟨hR.symm,⟨hi,by dsimp only;omega⟩,xs,hx,Nat.le_refl _,hchain⟩ ⟨rfl,rfl,rfl,rfl,rfl,rfl,trivial⟩ rfl rfl)
  ·clear hR hfol hla hi ht xs hx e4 hchain;clear h24;rintro ⟨⟨i,t,y⟩,⟨ao,cap⟩⟩ ⟨hR,⟨hi,hge⟩,xs,hx,hyl,hch⟩;dsimp only at *;unfold Rl.merge1 at hR;refine sq (rg (ldS hT 0 1 I I qk (cl hT 1 I (termRC r n hb qo _ hv0 i (by unfold mxU;omega)) ?_)));rintro v72 K72 hs72 ⟨rfl,rfl,rfl⟩
   have htrm:(trm r.sn r.l i).2=true->i<=r.sn.idx+r.l.length:=fun h=>by
    unfold trm at h
    by_cases h1:i=r.sn.idx
    ·omega
    ·rw[if_neg h1] at h
     by_cases h2:i<r.sn.idx\/r.sn.idx+r.l.length<i
     ·rw[if_pos h2] at h;cases h
     ·omega
   obtain ⟨T,hTT⟩:∃ T,T=trm r.sn r.l i:=⟨_,rfl⟩;rw[<-hTT] at hR htrm ⊢;obtain ⟨u,b⟩:=T;dsimp only at hR htrm;refine fin hT 5 I (th (sq (sq (rg (cbS hT 1 (b=false) I (by cases b <;> simp) fun b76 h76=>?_)))))
   refine' bjo (q:=u≠t) hT 1 4 81 [76,77] h76 I I I I I I I (fun _=>?x13) (fun b81 h81=>?_)
   case x13=>
    exact cmpS hT 2 I fun b80 h80=>fin hT 1 I<|bjx (h80.trans qo) I I I
   refine fin hT 0 I<|th (ifP h81 I (fun e15=>?_) (fun e15=>?_))
   ·rw[if_pos e15] at hR;refine sq (rga [pt b4 (rlV r aV cV aD cD aL cL) 37] 8 [0,2,4,7,9,10,12,14] (by simp) qk qk (dldS hT qk 0 0 I qk I qk (dldS hT qk 0 0 I qk I qk (dact hT qk 1 I (cl hT 0 I (backRC r n hb qo _ hv0 i (by unfold mxU;omega) hge) ?_)))));rintro v85 K85 hs85 ⟨rfl,rfl,rfl⟩;refine dnex [pt b4 (rlV r aV cV aD cD aL cL) 37] (by simp) (by simp) I (dact hT qk 0 I (stS hT 0 0 I I qk I I (dnex [pt b4 (rlV r aV cV aD cD aL cL) 37] (by simp) (by simp) I (dend hT qk 3 I (th (rt (rT ?_)))))));rw[<-hR];exact retcQ 0 2 I I I I I I qk ⟨Le.refl _,I,_,I,hv0⟩
   ·rw[if_neg e15] at hR;obtain rfl:b=true:=by cases b with|true=>rfl|false=>exact absurd (.inl rfl) e15
    have hile:=htrm rfl;obtain ⟨X,B,hXB⟩:∃ X B,skp r.sn r.l y true=(X,B):=⟨_,_,rfl⟩;obtain ⟨ws,hws⟩:=xs.isS;have hcap:=hws.2.1;refine sk (th (sq (sq (rg (fin hT 1 I (th (bk ?_)))))))
    refine loop (σ:=Nat) (fun j=>[(3,.slice ao y.length cap),(4,.pointer (some ⟨b4,0,none⟩)),(8,.pointer (some ⟨b8,0,none⟩)),(13,.int .u64 (last:Nat)),(16,.int .i64 (j:Nat))]) (fun _=>K72)
     (fun _=>pt b8 z7 37::pt b4 (rlV r aV cV aD cD aL cL) 37::hs)
     (fun j=>j<=y.length/\skp r.sn r.l (y.drop j) true=(X,B)/\i+j<=r.sn.idx+r.l.length) (fun j=>y.length-j) 0 ⟨Nat.zero_le _,hXB,hile⟩ ⟨rfl,rfl,rfl,rfl,rfl,trivial⟩ rfl rfl ?_
    rintro j ⟨hj,hz,hij⟩;refine sq (sq (rg (cmpS hT 3 I fun b89 h89=>fin hT 0 I (th (ifP h89 I (fun e16=>?_) (fun e16=>?_))))))
    ·have hjy:j<y.length:=by omega
     obtain ⟨e,he⟩:∃ e,y[j]?=some e:=⟨y[j],List.getElem?_eq_getElem hjy⟩;have hem:=List.mem_of_getElem? he;obtain ⟨q1,q2,q3⟩:=hx e hem;have hei:=hch j e he;obtain ⟨a,ae,ce,rfl,xe,hcell⟩:=entR_cells xs he;have hdr:y.drop j=e::y.drop (j+1):=by rw[List.drop_eq_getElem_cons hjy,show y[j]=e from by rw[List.getElem?_eq_getElem hjy] at he;exact Option.some.inj he]
     rw[hdr,skp_cons] at hz
     have htrm2:(trm r.sn r.l e.idx).2=true->e.idx<=r.sn.idx+r.l.length:=fun h=>by
      unfold trm at h
      by_cases h1:e.idx=r.sn.idx
      ·omega
      ·rw[if_neg h1] at h
       by_cases h2:e.idx<r.sn.idx\/r.sn.idx+r.l.length<e.idx
       ·rw[if_pos h2] at h;cases h
       ·omega
     unfold mxU at q1 q2;refine sk (th (sq (bk (sq (rga [pt b4 (rlV r aV cV aD cD aL cL) 37] 12 [0,2,4,6,8,10,13,14,16,18,20,22] (by simp) qk qk (dldS hT qk 0 0 I qk I qk (dixs hT qk 2 j I I hjy (dld hT qk 1 I (.inl I) (hcell 0 _ I) (dact hT qk 0 I (cl hT 0 I (termRC r n hb qo _ hv0 e.idx (by unfold mxU;omega)) ?_))))))))));rintro v99 K99 hs99 ⟨rfl,rfl,rfl⟩;obtain ⟨V,hV⟩:∃ V,V=trm r.sn r.l e.idx:=⟨_,rfl⟩;rw[<-hV] at hz htrm2 ⊢;obtain ⟨v,b'⟩:=V;dsimp only at hz htrm2;refine dnex [pt b4 (rlV r aV cV aD cD aL cL) 37] (by simp) (by simp) I (dend hT qk 5 I (th (sq (rg (cbS hT 1 (b'=false) I (by cases b' <;> simp) fun b103 h103=>?_)))))
     refine' bjo (q:=v≠e.term) hT 1 8 112 [103,104] h103 I I I I I I I (fun _=>?x18) (fun b112 h112=>?_)
     case x18=>
      refine ixs hT 3 j I I hws hjy (by decide) fun a108 h108=>?_;cases h108;exact ld hT 1 I (.inl I) (hcell 1 _ I) (cmpS hT 0 I fun b111 h111=>fin hT 1 I (bjx (h111.trans qo) I I I))
     refine fin hT 0 I<|th (ifP h112 I (fun e20=>?_) (fun e20=>?_))
     ·rw[if_pos e20] at hz;cases hz;rw[rmerge2_cons hXB] at hR;obtain ⟨N,hN⟩:∃ N,N=e.idx-r.sn.idx-1:=⟨_,rfl⟩;rw[<-hN] at hR;have hNl:N<=r.l.length:=by omega
      have xpre:=xL.pre N hNl;have xcut:=xs.cut j qo;rw[hdr] at xcut;have hdl:y.length-j=(e::y.drop (j+1)).length:=by rw[<-hdr,List.length_drop]
      have htl:(r.l.take N).length=N:=by rw[List.length_take];omega
      rw[hdl] at xcut;have hcL:r.l.length<=cL:=by obtain ⟨_,h⟩:=xL.isS;exact h.2.1
      refine sq (rga [pt b4 (rlV r aV cV aD cD aL cL) 37] 23 [0,2,4,6,8,10,12,14,16,18,20,22,24,26,28,30,32,36,35,39,40,42,44] (by simp) qk qk (dldS hT qk 0 0 I qk I qk (dldpw hT qk 1 0 I qk I I (dixs hT qk 2 j I I hjy (dld hT qk 1 I (.inl I) (hcell 0 _ I) (dldpw hT qk 2 0 I qk I I (dar hT qk 0 I (u64s qo qo) (dar hT qk 0 I (v':=.int .u64 (N:Nat)) (by rw[hN];exact u64s1 qo qo) (dslx hT qk 0 0 N I I I (by show ((N:Nat):Int)=((0+N:Nat):Int);omega) qo (dslx hT qk 2 j (e::y.drop (j+1)).length rfl rfl rfl (by show ((y.length:Nat):Int)=_;omega) qo ?_))))))))));rw[show cutA aL cL 0 4=aL from cutA_0,Nat.sub_zero];refine dact hT qk 1 I ?_;have hcal:=withRC (w0:=w0) (hs:=pt b8 z7 37::pt b4 (rlV r aV cV aD cD aL cL) 37::hs) r _ hv0 aL cL (r.l.take N) (by rw[htl];exact xpre) _ _ (e::y.drop (j+1)) xcut (by rw[htl];omega)
      rw[htl] at hcal;refine cl hT 0 I hcal ?_;rintro v130 K130 hs130 ⟨le,rfl,aV2,cV2,aD2,cD2,aL2,cL2,rfl,xV2,xD2,xL2⟩;refine dnexL [pt b4 (rlV r aV cV aD cD aL cL) 37] (by simp) (by simp) le (dact hT qk 0 I (stS hT 0 0 I I qk I I (dnex [pt b4 (rlV r aV cV aD cD aL cL) 37] (by simp) (by simp) I (dend hT qk 3 I (th (rt (rB (rT (rT (rB (rT ?_)))))))))));rw[<-hR];exact retcQ 0 2 I I I I I I qk ⟨le,I,_,I,aV2,cV2,aD2,cD2,aL2,cL2,I,xV2,xD2,xL2⟩
     ·rw[if_neg e20] at hz;obtain rfl:b'=true:=by cases b' with|true=>rfl|false=>exact absurd (.inl rfl) e20
      have:=htrm2 rfl;exact sk (bl (th (rg (ar hT 1 I (i64w (x:=((j+1:Nat):Int)) qo) (fin hT 1 I (again (x:=j) (j+1) ⟨I,I,I,I,I,trivial⟩ I I ⟨by omega,hz,by omega⟩ qo))))))
    ·obtain rfl:j=y.length:=by omega
     rw[List.drop_length] at hz;have hz:(([]:List Ent),true)=(X,B):=hz;cases hz;rw[rmerge2_nil hXB] at hR;refine ex (xt (xt (xb (th (sq (rg (ldS hT 0 1 I I qk (stS hT 1 0 I I qk I I (fin hT 3 I (th (rt ?_)))))))))));rw[<-hR];exact retcQ 0 2 I I I I I I qk ⟨Le.refl _,I,_,I,hv0⟩
end
section
structure ROp where
 kind:Int
 ht:Nat
 hv:Int
 idx:Nat
 term:Nat
 x:List Ent
 sn:Snp
structure Ans where
 idx:Nat
 good:Bool
 code:Int
def Rl.doo(r:Rl)(o:ROp):Rl×Ans:=
 if o.kind=0 then ((r.setHard o.ht o.hv).1,⟨0,false,(r.setHard o.ht o.hv).2⟩)
 else if o.kind=1 then ((r.append o.x).1,⟨0,false,(r.append o.x).2⟩)
 else if o.kind=2 then ((r.merge o.idx o.term o.x).1,⟨(r.merge o.idx o.term o.x).2.1,(r.merge o.idx o.term o.x).2.2.1,(r.merge o.idx o.term o.x).2.2.2⟩)
 else if o.kind=4 then ((r.save o.sn).1,⟨0,false,(r.save o.sn).2⟩)
 else if o.kind=5 then ((r.install o.sn).1,⟨0,false,(r.install o.sn).2⟩)
 else (r,⟨0,false,0⟩)
def ansV(a:Ans):Array Value:=#[.int .u64 a.idx,.bool a.good,.int .i64 a.code]
structure AdO where
 aX:Option Addr
 cX:Nat
 aV:Option Addr
 cV:Nat
 aD:Option Addr
 cD:Nat
def opV(o:ROp)(d:AdO):Array Value:=
 #[.int .i64 o.kind,.int .u64 o.ht,.int .i64 o.hv,.int .u64 o.idx,.int .u64 o.term,.slice d.aX o.x.length d.cX,.int .u64 o.sn.idx,.int .u64 o.sn.term,.slice d.aV o.sn.vot.length d.cV,.slice d.aD o.sn.data.length d.cD]
structure ROp.bd (o:ROp) (n:Nat):Prop where
 ht:o.ht<=mxU
 hv : -9223372036854775808<=o.hv/\o.hv<=9223372036854775807
 idx:o.idx<=mxU
 term:o.term<=mxU
 len:o.x.length<=n
 ents:∀ e∈o.x,entB e
 si:o.sn.idx<=mxU
 st:o.sn.term<=mxU
 vl:o.sn.vot.length<=1099511627
 vot:∀ v∈o.sn.vot,-9223372036854775808<=v/\v<=9223372036854775807
 dl:o.sn.data.length<=1099511627
section
variable {P:Program} {w0:World} {fn:Func} {R:Value->PH->List PH->Prop} {n:Nat} {l:Sl} {K:PH} {hs:List PH}
theorem retcc(i j m:Nat){t ty u tu b ty' b2 ty2:Nat}{c c2:Array Value}{fr fr2:Nat×Nat}(hr:fn.results=#[.cell t ty,.cell u tu])(hv:look l t=some (.pointer (some ⟨b,0,none⟩)))(hu:look l u=some (.pointer (some ⟨b2,0,none⟩)))(hi:hs[i]?=some (pt b c ty' fr))(hj:hs[j]?=some (pt b2 c2 ty2 fr2))(hm:aggOK P ty c.size=true)(hm2:aggOK P tu c2.size=true)
  (hk:R (.tuple #[.agg c,.agg c2]) K (hs.drop m)):WQ w0 (bodyPost P fn (endR w0 R)) .ret n l K hs:=
 fun _ w ha hw=>bodyPost_ret (v:=.tuple #[.agg c,.agg c2]) (by
  have h2:=run_loadVarS (P:=P) (w:=w) (t:=ty) (a:=⟨b,0,none⟩) (cs:=c.toList) (by simpa using hm) rfl (fun j v hv=>hw.cell (.inr ⟨i,hi⟩) (cells_pt c.toList (fun j v h=>by simpa using h) j v hv));have e:c.toList.toArray=c:=by simp
  rw[e] at h2;have h3:=run_loadVarS (P:=P) (w:=w) (t:=tu) (a:=⟨b2,0,none⟩) (cs:=c2.toList) (by simpa using hm2) rfl (fun i v hv=>hw.cell (.inr ⟨j,hj⟩) (cells_pt c2.toList (fun j v h=>by simpa using h) i v hv));have e2:c2.toList.toArray=c2:=by simp
  rw[e2] at h3;simp[results,hr,ha.slot t _ hv,ha.slot u _ hu,asAddr,h2,h3]) ha.defers ⟨_,_,_,rfl,hk,hw.dropN m⟩
end
attribute [local irreducible] Code.wp wpList Calls
def OpS(K:PH)(o:ROp)(d:AdO):Prop:=SlS 4 (EntC K) K d.aX o.x.length d.cX o.x/\IsS K d.aV o.sn.vot.length d.cV 1 (iv o.sn.vot)/\IsS K d.aD o.sn.data.length d.cD 1 (bv o.sn.data)
theorem OpS.le{K K':PH}(l:Le K K'){o:ROp}{d:AdO}(h:OpS K o d):OpS K' o d:=⟨h.1.le l fun _ _ h=>h.le l,h.2.1.le l,h.2.2.le l⟩
structure AdL where
 aV:Option Addr
 cV:Nat
 aD:Option Addr
 cD:Nat
 aL:Option Addr
 cL:Nat
theorem RlS.ad{K:PH}{r:Rl}{v:Value}(h:RlS K r v):∃ d:AdL,v=.agg (rlV r d.aV d.cV d.aD d.cD d.aL d.cL)/\RlS K r (.agg (rlV r d.aV d.cV d.aD d.cD d.aL d.cL)):=by
 obtain ⟨aV,cV,aD,cD,aL,cL,rfl,h2,h3,h4⟩:=h;exact ⟨⟨aV,cV,aD,cD,aL,cL⟩,I,aV,cV,aD,cD,aL,cL,I,h2,h3,h4⟩
theorem doRC{w0:World}{K:PH}{hs:List PH}(r:Rl)(n k:Nat)(hb:RBd n r)(v0:Value)(hv:RlS K r v0)(o:ROp)(ho:o.bd k)(hn:n+k<=1099511627)(d:AdO)(xo:OpS K o d):
  Ct Tryz.prog w0 32 [v0,.agg (opV o d)] K hs (fun v K' hs'=>Le K K'/\hs'=hs/\∃ v1,v=.tuple #[v1,.agg (ansV (r.doo o).2)]/\RlS K' (r.doo o).1 v1):=by
 obtain ⟨dl,rfl,hv0⟩:=hv.ad;have hol:=ho.len;have hvl:=ho.vl;refine enter Tryz.func32 qk I I I (sq (rg (bx hT 0 I fun b2=>bx hT 0 I fun b3=>al hT 0 (.agg #[.int .u64 0,.int .i64 0,.int .u64 0,.int .u64 0,.slice none 0 0,.slice none 0 0,.slice none 0 0]) I qk fun b4=>al hT 0 (.agg #[.int .u64 0,.bool false,.int .i64 0]) I qk fun b5=>fin hT 0 I (th (sq (rg (al hT 0 (.agg #[.int .u64 0,.bool false,.int .i64 0]) I qk fun b6=>WL.hs (pt b6 #[.int .u64 0,.bool false,.int .i64 0] 59::pt b5 #[.int .u64 0,.bool false,.int .i64 0] 59::pt b4 #[.int .u64 0,.int .i64 0,.int .u64 0,.int .u64 0,.slice none 0 0,.slice none 0 0,.slice none 0 0] 37::pt b3 (opV o d) 34::pt b2 (rlV r dl.aV dl.cV dl.aD dl.cD dl.aL dl.cL) 37::hs) I ?_)))))))
 refine fin hT 0 I (th (jnK (σ:=AdL×PH) (fun s=>[(2,.pointer (some ⟨b2,0,none⟩)),(4,.pointer (some ⟨b4,0,none⟩)),(5,.pointer (some ⟨b5,0,none⟩)),(6,.pointer (some ⟨b6,0,none⟩))]) (fun s=>s.2)
  (fun s=>pt b6 (ansV (r.doo o).2) 59::pt b5 #[.int .u64 0,.bool false,.int .i64 0] 59::pt b4 #[.int .u64 0,.int .i64 0,.int .u64 0,.int .u64 0,.slice none 0 0,.slice none 0 0,.slice none 0 0] 37::pt b3 (opV o d) 34::pt b2 (rlV (r.doo o).1 s.1.aV s.1.cV s.1.aD s.1.cD s.1.aL s.1.cL) 37::hs)
  (fun s=>Le K s.2/\RlS s.2 (r.doo o).1 (.agg (rlV (r.doo o).1 s.1.aV s.1.cV s.1.aD s.1.cD s.1.aL s.1.cL))) ?_ ?_))
 ·refine sq<|rg (ldp hT 1 3 I I I<|fin hT 0 I (th<|bk (sq<|rg (cmpS hT 0 I fun b10 h10=>fin hT 1 I<|th (ifP h10 I (fun e2=>?_) (fun e2=>?_))))))
  ·have hd:r.doo o=((r.setHard o.ht o.hv).1,⟨0,false,(r.setHard o.ht o.hv).2⟩):=by unfold Rl.doo;rw[if_pos e2]
   rw[hd];refine rg (ldS hT 0 4 I I qk (lds hT 1 [.int .u64 o.ht,.int .i64 o.hv] I qk (.inr ⟨3,I⟩) (cells_sub _ I) (cl hT 0 I (setHardRC r _ hv0 o.ht o.hv) ?_)));rintro v15 K15 hs15 ⟨rfl,rfl,v1,rfl,hv1⟩;obtain ⟨d1,rfl,hv1⟩:=hv1.ad;exact stS hT 3 4 I I qk I I (stp hT 1 0 I I I I (fin hT 0 I (bl (jxK (d1,_) ⟨Le.refl _,hv1⟩ ⟨I,I,I,I,trivial⟩ I I))))
  ·refine sq<|rg (cmpS hT 0 I fun b20 h20=>fin hT 1 I<|th (ifP h20 I (fun e4=>?_) (fun e4=>?_)))
   ·have hd:r.doo o=((r.append o.x).1,⟨0,false,(r.append o.x).2⟩):=by unfold Rl.doo;rw[if_neg e2,if_pos e4]
    rw[hd];refine rg (ldS hT 0 4 I I qk (ldp hT 1 3 I I I (cl hT 0 I (appendRC r n hb _ hv0 d.aX d.cX o.x xo.1 ho.ents qo) ?_)));rintro v25 K25 hs25 ⟨le,rfl,v1,rfl,hv1⟩;obtain ⟨d1,rfl,hv1⟩:=hv1.ad;exact stS hT 3 4 I I qk I I (stp hT 1 0 I I I I (fin hT 0 I (bl (jxK (d1,_) ⟨le,hv1⟩ ⟨I,I,I,I,trivial⟩ I I))))
   ·refine sq<|rg (cmpS hT 0 I fun b30 h30=>fin hT 1 I<|th (ifP h30 I (fun e6=>?_) (fun e6=>?_)))
    ·have hd:r.doo o=((r.merge o.idx o.term o.x).1,⟨(r.merge o.idx o.term o.x).2.1,(r.merge o.idx o.term o.x).2.2.1,(r.merge o.idx o.term o.x).2.2.2⟩):=by unfold Rl.doo;rw[if_neg e2,if_neg e4,if_pos e6]
     rw[hd];refine rg (ldS hT 0 4 I I qk (ldp hT 1 3 I I I (ldp hT 1 3 I I I (ldp hT 1 3 I I I (cl hT 0 I (mergeRC r n hb _ hv0 o.idx o.term ho.idx ho.term d.aX d.cX o.x xo.1 ho.ents qo) ?_)))));rintro v39 K39 hs39 ⟨le,rfl,v1,rfl,hv1⟩;obtain ⟨d1,rfl,hv1⟩:=hv1.ad;exact stS hT 5 4 I I qk I I (stp hT 1 0 I I I I (stp hT 1 0 I I I I (stp hT 1 0 I I I I (fin hT 0 I (bl (jxK (d1,_) ⟨le,hv1⟩ ⟨I,I,I,I,trivial⟩ I I))))))
    ·refine sq<|rg (cmpS hT 0 I fun b48 h48=>fin hT 1 I<|th (ifP h48 I (fun e8=>?_) (fun e8=>?_)))
     ·have hd:r.doo o=((r.save o.sn).1,⟨0,false,(r.save o.sn).2⟩):=by unfold Rl.doo;rw[if_neg e2,if_neg e4,if_neg e6,if_pos e8]
      rw[hd];refine rg (ldS hT 0 4 I I qk (lds hT 1 (snV o.sn d.aV d.cV d.aD d.cD).toList I qk (.inr ⟨3,I⟩) (cells_sub _ I) (cl hT 0 I (saveRC r n hb qo _ hv0 o.sn ho.si d.aV d.cV d.aD d.cD xo.2.1 xo.2.2 qo ho.vot) ?_)));rintro v53 K53 hs53 ⟨le,rfl,v1,rfl,hv1⟩;obtain ⟨d1,rfl,hv1⟩:=hv1.ad;exact stS hT 3 4 I I qk I I (stp hT 1 0 I I I I (fin hT 0 I (bl (jxK (d1,_) ⟨le,hv1⟩ ⟨I,I,I,I,trivial⟩ I I))))
     ·refine sq<|rg (cmpS hT 0 I fun b58 h58=>fin hT 1 I<|th (ifP h58 I (fun e10=>?_) (fun e10=>?_)))
      ·have hd:r.doo o=((r.install o.sn).1,⟨0,false,(r.install o.sn).2⟩):=by unfold Rl.doo;rw[if_neg e2,if_neg e4,if_neg e6,if_neg e8,if_pos e10]
       rw[hd];refine rg (ldS hT 0 4 I I qk (lds hT 1 (snV o.sn d.aV d.cV d.aD d.cD).toList I qk (.inr ⟨3,I⟩) (cells_sub _ I) (cl hT 0 I (installRC r n hb qo _ hv0 o.sn ho.si d.aV d.cV d.aD d.cD xo.2.1 xo.2.2 qo ho.vot) ?_)));rintro v63 K63 hs63 ⟨le,rfl,v1,rfl,hv1⟩;obtain ⟨d1,rfl,hv1⟩:=hv1.ad;exact stS hT 3 4 I I qk I I (stp hT 1 0 I I I I (fin hT 0 I (bl (jxK (d1,_) ⟨le,hv1⟩ ⟨I,I,I,I,trivial⟩ I I))))
      ·have hd:r.doo o=(r,⟨0,false,0⟩):=by unfold Rl.doo;rw[if_neg e2,if_neg e4,if_neg e6,if_neg e8,if_neg e10]
       rw[hd];exact sk (bl (jxK (dl,_) ⟨Le.refl _,hv0⟩ ⟨I,I,I,I,trivial⟩ I I))
 ·generalize r.doo o=q;obtain ⟨r1,a1⟩:=q;rintro ⟨d1,K1⟩ ⟨le,hv1⟩;dsimp only at *;exact sq (rga [pt b6 (ansV a1) 59,pt b2 (rlV r1 d1.aV d1.cV d1.aD d1.cD d1.aL d1.cL) 37] 4 [0,2,5,7] (by simp) qk qk (dldS hT qk 0 1 I qk I qk (dldS hT qk 0 0 I qk I qk (dact hT qk 0 I (stS hT 0 2 I I qk I I (dnex [pt b6 (ansV a1) 59,pt b2 (rlV r1 d1.aV d1.cV d1.aD d1.cD d1.aL d1.cL) 37] (by simp) (by simp) I (dact hT qk 0 I (stS hT 0 1 I I qk I I (dnex [pt b6 (ansV a1) 59,pt b2 (rlV r1 d1.aV d1.cV d1.aD d1.cD d1.aL d1.cL) 37] (by simp) (by simp) I (dend hT qk 0 I (th (rt (retcc 2 1 5 I I I I I qk qk ⟨le,I,_,I,hv1⟩)))))))))))))
end
section
attribute [local irreducible] Code.wp wpList Calls
theorem take_succ_at{α:Type}{l:List α}{i:Nat}{x:α}(h:l[i]?=some x):l.take (i+1)=l.take i++[x]:=by
 rw[List.take_add_one,h]
 rfl
theorem sameEntriesRC{w0:World}{K:PH}{hs:List PH}(a1 a2:Option Addr)(c1 c2:Nat)(x y:List Ent)(xs:SlS 4 (EntC K) K a1 x.length c1 x)(ys:SlS 4 (EntC K) K a2 y.length c2 y)(hx:x.length<1099511627776)(hy:y.length<1099511627776):
  Ct Tryz.prog w0 16 [.slice a1 x.length c1,.slice a2 y.length c2] K hs (fun v K' hs'=>K'=K/\hs'=hs/\∃ b:Bool,v=.bool b/\(b=true↔x=y)):=by
 refine enter Tryz.func16 qk I I I<|sq (rg<|fin hT 1 I (th<|sq (sq<|rg (cmpS hT 4 I fun b10 h10=>fin hT 0 I<|th (ifP h10 I (fun e2=>?_) (fun e2=>?_))))))
 ·exact sq<|rg (fin hT 1 I<|th (rt<|rT (ret1 I I ⟨I,I,false,I,fun h=>(by cases h),fun h=>absurd (show ((x.length:Nat):Int)=(y.length:Nat) by rw[h]) e2⟩)))
 ·have hll:x.length=y.length:=by omega
  refine sk (th (sq (sq (rg (fin hT 1 I (th (bk (loop (σ:=Nat) (fun i=>[(0,.slice a1 x.length c1),(1,.slice a2 y.length c2),(5,.int .i64 (i:Nat))]) (fun _=>K) (fun _=>hs) (fun i=>i<=x.length/\x.take i=y.take i) (fun i=>x.length-i) 0 ⟨Nat.zero_le _,I⟩ ⟨I,I,I,trivial⟩ I I ?_))))))));rintro i ⟨hi,he⟩;refine sq (sq (rg (cmpS hT 3 I fun b14 h14=>fin hT 0 I (th (ifP h14 I (fun e4=>?_) (fun e4=>?_))))))
  ·have hi1:i<x.length:=by omega
   have hi2:i<y.length:=by omega
   obtain ⟨p,hp⟩:∃ p,x[i]?=some p:=⟨_,List.getElem?_eq_getElem hi1⟩;obtain ⟨q,hq⟩:∃ q,y[i]?=some q:=⟨_,List.getElem?_eq_getElem hi2⟩;obtain ⟨a,ap,cp,rfl,xp,hcp⟩:=entR_cells xs hp;obtain ⟨a',aq,cq,rfl,xq,hcq⟩:=entR_cells ys hq;refine sk (th (sq (bk (sq (rga [] 10 [0,2,4,6,8,10,12,14,17,18] (by simp) qk qk (dixs hT qk 2 i I I hi1 (dlds hT qk 0 (p.v ap cp).toList I qk qk (.inl I) hcp (dixs hT qk 2 i I I hi2 (dlds hT qk 0 (q.v aq cq).toList I qk qk (.inl I) hcq (dact hT qk 0 I (cl hT 0 I (sameEntry p q ap aq cp cq (.inl I) (.inl I) xp xq) ?_)))))))))));rintro v25 K25 hs25 ⟨rfl,rfl,b25,rfl,h25⟩;refine dnex [] (by simp) (by simp) I (dend hT qk 1 I (th (ifB I (fun h5=>?_) (fun h5=>?_))))
   ·refine sq (rg (fin hT 1 I (th (rt (rB (rT (rT (rB (rT (ret1 I I ⟨I,I,false,I,fun h=>(by cases h),fun h=>?_⟩))))))))));rw[h,hq] at hp;have:=h25.2 (Option.some.inj hp).symm;rw[this] at h5;cases h5
   ·have hpq:p=q:=h25.1 (by simpa using h5);exact sk (bl (th (rg (ar hT 1 I (i64w qo) (fin hT 1 I (again (x:=i) (i+1) ⟨I,I,I,trivial⟩ I I ⟨by omega,by rw[take_succ_at hp,take_succ_at hq,he,hpq]⟩ (by (try dsimp only);omega)))))))
  ·obtain rfl:i=x.length:=by omega
   exact ex (xt (xt (xb (th (sq (rg (fin hT 1 I (th (rt (ret1 I I ⟨I,I,true,I,fun _=>by rw[List.take_of_length_le (Nat.le_refl _),hll,List.take_of_length_le (Nat.le_refl _)] at he;exact he,fun _=>I⟩))))))))))
theorem sameSnapRC{w0:World}{K:PH}{hs:List PH}(s t:Snp)(aV aW aD aE:Option Addr)(cV cW cD cE:Nat)(xV:IsS K aV s.vot.length cV 1 (iv s.vot))(xW:IsS K aW t.vot.length cW 1 (iv t.vot))(xD:IsS K aD s.data.length cD 1 (bv s.data))(xE:IsS K aE t.data.length cE 1 (bv t.data))(hl:s.vot.length<1099511627776):
  Ct Tryz.prog w0 87 [.agg (snV s aV cV aD cD),.agg (snV t aW cW aE cE)] K hs (fun v K' hs'=>K'=K/\hs'=hs/\∃ b:Bool,v=.bool b/\(b=true↔s=t)):=by
 refine enter Tryz.func87 qk I I I (sq (rg (bx hT 0 I fun b2=>bx hT 0 I fun b3=>WL.hs (pt b3 (snV t aW cW aE cE) 32::pt b2 (snV s aV cV aD cD) 32::hs) I (fin hT 1 I (th (sq (rg (ldp hT 2 1 I I I (ldp hT 2 0 I I I (cl hT 0 I (sameVoters aV aW cV cW s.vot t.vot (.inl I) (.inl I) xV xW hl) ?_))))))))));rintro v12 K12 hs12 ⟨rfl,rfl,b12,rfl,h12⟩;refine fin hT 1 I (th (sq (rg (ldp hT 1 1 I I I (ldp hT 1 0 I I I (cmpS hT 0 I fun b17 h17=>?_))))))
 refine' bja hT 1 6 24 [17,18] h17 I I I I I I I (fun _=>?x2) (fun b24 h24=>?_)
 case x2=>
  exact ldp hT 1 1 I I I<|ldp hT 1 0 I I I (cmpS hT 0 I fun b23 h23=>fin hT 1 I<|bjx h23 I I I)
 refine' bja hT 1 2 27 [24,25] h24 I I I I I I I (fun _=>?x4) (fun b27 h27=>?_)
 case x4=>
  exact fin hT 2 I<|bjx h12 I I I
 refine' bja hT 1 8 36 [27,28] h27 I I I I I I I (fun _=>?x5) (fun b36 h36=>?_)
 case x5=>
  exact ldp hT 1 1 I I I<|cvs hT 0 s.data I (.inl I) xD qk (ldp hT 1 0 I I I<|cvs hT 0 t.data I (.inl I) xE qk (seS hT 0 I fun b35 h35=>fin hT 1 I<|bjx h35 I I I))
 refine fin hT 1 I (th (rt (WQ.drop (WQ.drop (ret1 I I ⟨I,I,b36,I,h36.trans ?_⟩)))));obtain ⟨i,t1,v1,d1⟩:=s;obtain ⟨j,t2,v2,d2⟩:=t;simp only[Snp.mk.injEq]
 constructor
 ·rintro ⟨⟨⟨h1,h2⟩,h3⟩,h4⟩;exact ⟨by omega,by omega,h3,h4⟩
 ·rintro ⟨h1,h2,h3,h4⟩;exact ⟨⟨⟨by omega,by omega⟩,h3⟩,h4⟩
end
section
structure Liv (n:Nat) (D:Dk):Prop where
 left:D.left = -1
 dead:D.dead=false
 room:(n:Int)<=D.room
theorem Liv.mono{n m:Nat}{D:Dk}(h:Liv n D)(k:m<=n):Liv m D:=⟨h.left,h.dead,by have:=h.room;omega⟩
theorem Liv.write{n:Nat}{D:Dk}(h:Liv (n+1) D)(a i:Int)(b:List UInt8)(h0:0<=i)(hi:i<65536)(hb:b.length<=64):(D.write a i b).2=0/\Liv n (D.write a i b).1:=by
 have h1:=h.left;have h2:=h.dead;have h3:=h.room;have hd:((D.laid a i b).stp).dead=false:=by simp[Dk.stp,Dk.laid,h1]
 have hl:((D.laid a i b).stp).left = -1:=by simp[Dk.stp,Dk.laid,h1]
 unfold Dk.write;rw[if_neg (by rw[h2];decide),if_neg qo,if_neg (by rintro ⟨_,h4⟩;omega)];refine ⟨by simp[hd],hl,hd,?_⟩;show (n:Int)<=(D.laid a i b).room;unfold Dk.laid;dsimp only
 split <;> omega
theorem Liv.stp{n:Nat}{D:Dk}(h:Liv n D):Liv n D.stp:=⟨by simp[Dk.stp,h.left],by simp[Dk.stp,h.left],h.room⟩
theorem Liv.sync{n:Nat}{D:Dk}(h:Liv n D)(a:Int):(D.sync a).2=0/\Liv n (D.sync a).1:=by
 have h1:=h.stp;unfold Dk.sync;rw[if_neg (by rw[h.dead];decide),if_neg (by rw[h1.dead];decide)];exact ⟨I,h1.left,h1.dead,h1.room⟩
theorem Liv.free{n:Nat}{D:Dk}(h:Liv n D)(a:Int):(D.free a).2=0/\Liv n (D.free a).1:=by
 have h1:=h.stp;unfold Dk.free;rw[if_neg (by rw[h.dead];decide),if_neg (by rw[h1.dead];decide)];exact ⟨I,h1.left,h1.dead,by have:=h.room;dsimp only;omega⟩
theorem Liv.save{n:Nat}{D:Dk}(h:Liv (n+1) D)(S:Slt)(area:Nat)(v:List UInt8)(hn:S.num<18446744073709551615)(hv:v.length<=48):
  (S.save area D v).2.2=0/\Liv n (S.save area D v).2.1/\(S.save area D v).1=⟨S.num+1,v⟩:=by
 have h1:=h.write area (((S.num+1) % 2:Nat):Int) (sect (S.num+1) v) qo qo (by rw[sect_length hv];exact Nat.le_refl _);have h2:=h1.2.sync area;unfold Slt.save;rw[if_neg qo,if_pos h1.1,if_pos h2.1];exact ⟨h2.1,h2.2,I⟩
structure WLv (f:Nat) (W:Wl):Prop where
 code:W.code=0
 op:∀ o,W.op=some o->o.full<=f/\o.rest.length<=62
theorem wrL_live:∀ (f:Nat) (o:WOp) (D:Dk) (n:Nat),Liv (n+(o.rest.length / 63+1)) D->o.rest.length<63*f->o.full+o.rest.length / 63<65536 ->
  (wrL f o D).2.2=0/\Liv n (wrL f o D).2.1/\(wrL f o D).1.full<=o.full+o.rest.length / 63/\(wrL f o D).1.rest.length<=62
 | 0,o,D,n,_,hf,_=>by omega
 | f+1,o,D,n,h,hf,hfu=>by
  have h1:=Liv.write (n:=n+o.rest.length / 63) (h.mono qo) (segA o.num) o.full (UInt8.ofNat (min o.rest.length 63)::o.rest.take (min o.rest.length 63)) qo qo (by simp only[List.length_cons,List.length_take];omega);unfold wrL;rw[h1.1]
  by_cases hl:o.rest.length<63
  ·rw[if_pos (.inr hl)];exact ⟨I,h1.2.mono qo,by dsimp only;omega,by dsimp only;omega⟩
  ·rw[if_neg (by rintro (h2|h2);exact h2 I;exact hl h2)]
   by_cases he:o.rest.length=63
   ·rw[if_pos he];exact ⟨I,h1.2.mono qo,by dsimp only;omega,by simp⟩
   ·rw[if_neg he];have h3:=wrL_live f { o with full:=o.full+1,rest:=o.rest.drop 63 } _ n (h1.2.mono (by dsimp only;rw[List.length_drop];omega)) (by dsimp only;rw[List.length_drop];omega) (by dsimp only;rw[List.length_drop];omega);refine ⟨h3.1,h3.2.1,?_,h3.2.2.2⟩;have:=h3.2.2.1;dsimp only at this;rw[List.length_drop] at this;omega
theorem wrO_live{n:Nat}{D:Dk}(o:WOp)(b:List UInt8)(h:Liv (n+((o.rest.length+b.length) / 63+1)) D)(hf:o.full+(o.rest.length+b.length) / 63<65536):
  (wrO o b D).2.2=0/\Liv n (wrO o b D).2.1/\(wrO o b D).1.full<=o.full+(o.rest.length+b.length) / 63/\(wrO o b D).1.rest.length<=62:=by
 have hl:(o.rest++b).length=o.rest.length+b.length:=List.length_append;have:=wrL_live (o.rest.length+b.length+1) { o with rest:=o.rest++b } D n (by dsimp only;rw[hl];exact h) (by dsimp only;rw[hl];omega) (by dsimp only;rw[hl];exact hf);dsimp only at this;rw[hl] at this;exact this
theorem WLv.sync{f n:Nat}{W:Wl}{D:Dk}(o:WLv f W)(h:Liv n D):WLv f (W.sync D).1/\Liv n (W.sync D).2/\(W.sync D).1.first=W.first/\(W.sync D).1.recs=W.recs/\(W.sync D).1.next=W.next/\(W.sync D).1.op=W.op/\(W.sync D).1.old=W.old:=by
 unfold Wl.sync;rw[if_neg (by rw[o.code];simp)];cases hop:W.op with
 | none=>exact ⟨⟨o.code,fun q hq=>by rw[hop] at hq;cases hq⟩,h,rfl,rfl,rfl,hop,rfl⟩
 | some q=>
  have h1:=h.sync (segA q.num);exact ⟨⟨h1.1,fun p hp=>o.op p (by rw[hop];exact hp)⟩,h1.2,I,I,I,I,I⟩
theorem uint10{i:Nat}(h:i<18446744073709551616):(uint i).length<=10:=uint_le10 h
theorem WLv.begin{f n:Nat}{W:Wl}{D:Dk}(o:WLv f W)(h:Liv (n+1) D)(i:Nat)(hi:i<18446744073709551616):
  WLv 0 (W.begin i D).1/\Liv n (W.begin i D).2/\(W.begin i D).1.first=W.first/\(W.begin i D).1.recs=W.recs/\(W.begin i D).1.next=W.next+1/\(W.begin i D).1.op≠none:=by
 have h1:=o.sync h;have hu:=uint10 hi;have h2:=wrO_live (n:=n) (D:=(W.sync D).2) ⟨W.next,i,0,[]⟩ (uint i) (h1.2.1.mono (by simp only[List.length_nil];omega)) (by simp only[List.length_nil];omega);unfold Wl.begin;rw[if_neg (by rw[h1.1.code];simp)];refine ⟨⟨h2.1,?_⟩,h2.2.1,h1.2.2.1,h1.2.2.2.1,I,by simp⟩;intro q hq;cases hq;have:=h2.2.2;simp only[List.length_nil] at this;omega
theorem wLay_live{n:Nat}{W:Wl}{D:Dk}{b:List UInt8}(o:WLv 15 W)(hop:W.op≠none)(h:Liv (n+10) D)(hb:b.length<=512):
  (wLay W b D).2.2=0/\WLv 24 (wLay W b D).1/\Liv n (wLay W b D).2.1/\(wLay W b D).1.first=W.first/\(wLay W b D).1.recs=W.recs++[b]/\(wLay W b D).1.next=W.next:=by
 have hp:=putBytes_le hb;unfold wLay;cases hq:W.op with
 | none=>exact absurd hq hop
 | some q=>
  have h1:=o.op q hq;have h2:=wrO_live (n:=n) (D:=D) q (putBytes b) (h.mono qo) qo;dsimp only;refine ⟨h2.1,⟨h2.1,?_⟩,h2.2.1,I,by rw[if_pos h2.1],I⟩;intro p hp;cases hp;have:=h2.2.2;omega
theorem WLv.append{n:Nat}{W:Wl}{D:Dk}{b:List UInt8}(o:WLv 24 W)(h:Liv (n+11) D)(hb:b.length<=512)(hl:W.first+W.recs.length<wTop):
  (W.append b D).2.2=0/\WLv 24 (W.append b D).1/\Liv n (W.append b D).2.1/\(W.append b D).1.first=W.first/\(W.append b D).1.recs=W.recs++[b]/\(W.append b D).1.next<=W.next+1:=by
 have hl2:=hl;unfold wTop at hl2;unfold Wl.append;rw[if_neg (by rw[o.code];simp),if_neg qo,if_neg qo]
 by_cases hn:wNeed W.op=true
 ·rw[if_pos hn];have h1:=o.begin (n:=n+10) h (W.first+W.recs.length) qo;rw[if_neg (by rw[h1.1.code];simp)];have h2:=wLay_live (n:=n) (b:=b) ⟨h1.1.code,fun q hq=>by have:=h1.1.op q hq;omega⟩ h1.2.2.2.2.2 h1.2.1 hb;exact ⟨h2.1,h2.2.1,h2.2.2.1,by rw[h2.2.2.2.1,h1.2.2.1],by rw[h2.2.2.2.2.1,h1.2.2.2.1],by rw[h2.2.2.2.2.2,h1.2.2.2.2.1];exact Nat.le_refl _⟩
 ·rw[if_neg hn];have hop:W.op≠none:=fun e=>hn (by rw[e];rfl)
  have h2:=wLay_live (n:=n) (b:=b) ⟨o.code,fun q hq=>by
   have h3:=o.op q hq;have h4:¬16<=q.full:=fun h5=>hn (by rw[hq];simpa[wNeed] using h5);omega⟩ hop (h.mono qo) hb
  exact ⟨h2.1,h2.2.1,h2.2.2.1,h2.2.2.2.1,h2.2.2.2.2.1,by rw[h2.2.2.2.2.2];omega⟩
theorem WLv.up{f g:Nat}{W:Wl}(o:WLv f W)(h:f<=g):WLv g W:=⟨o.code,fun q hq=>by have:=o.op q hq;omega⟩
theorem WLv.truncate{n:Nat}{W:Wl}{D:Dk}(o:WLv 24 W)(h:Liv (n+1) D)(i:Nat)(hi:i<18446744073709551616)(h1:W.first<=i)(h2:i-W.first<=W.recs.length):
  (W.truncate i D).2.2=0/\WLv 24 (W.truncate i D).1/\Liv n (W.truncate i D).2.1/\(W.truncate i D).1.first=W.first/\(W.truncate i D).1.recs=W.recs.take (i-W.first)/\(W.truncate i D).1.next<=W.next+1:=by
 unfold Wl.truncate;rw[if_neg (by rw[o.code];simp),if_neg qo]
 by_cases he:i-W.first=W.recs.length
 ·rw[if_pos he];exact ⟨I,o,h.mono qo,I,by rw[he,List.take_length],by dsimp only;omega⟩
 ·rw[if_neg he];have h3:=o.begin h i hi;rw[if_pos h3.1.code];exact ⟨h3.1.code,⟨h3.1.code,fun q hq=>by have:=h3.1.op q hq;omega⟩,h3.2.1,h3.2.2.1,rfl,by dsimp only;rw[h3.2.2.2.2.1];exact Nat.le_refl _⟩
theorem wfree_live(i:Nat):∀ (f:Nat) (old:List (Nat×Nat)) (D:Dk) (n:Nat),Liv n D->(wfree i f old D).2.2=0/\Liv n (wfree i f old D).2.1
 | 0,_,_,_,h=>⟨rfl,h⟩
 | f+1,old,D,n,h=>by
  unfold wfree;have h1:=h.free (segA (old.headD (0,0)).1)
  split
  ·rw[if_neg (by rw[h1.1];simp)];exact wfree_live i f _ _ n h1.2
  ·exact ⟨I,h⟩
theorem WLv.compact{n:Nat}{W:Wl}{D:Dk}(o:WLv 24 W)(h:Liv (n+1) D)(i:Nat)(hi:i<18446744073709551616)(h1:W.first<i)(h2:i-W.first<=W.recs.length):
  (W.compact i D).2.2=0/\WLv 24 (W.compact i D).1/\Liv n (W.compact i D).2.1/\(W.compact i D).1.first=i/\(W.compact i D).1.recs=W.recs.drop (i-W.first)/\(W.compact i D).1.next<=W.next+1:=by
 have hc1:WLv 24 (W.compact1 i D).1/\Liv n (W.compact1 i D).2/\(W.compact1 i D).1.next<=W.next+1:=by
  unfold Wl.compact1
  split
  ·have h3:=o.begin h i hi;exact ⟨h3.1.up qo,h3.2.1,by rw[h3.2.2.2.2.1];exact Nat.le_refl _⟩
  ·exact ⟨o,h.mono qo,by dsimp only;omega⟩
 have hc2:=hc1.1.sync hc1.2.1;have hf:=wfree_live i ((W.compact2 i D).1.old.length+1) (W.compact2 i D).1.old (W.compact2 i D).2 n hc2.2.1;unfold Wl.compact;rw[if_neg (by rw[o.code];simp),if_neg qo,if_neg qo,if_neg (by intro hh;exact hh hc2.1.code),if_neg (by rw[hf.1];simp)];exact ⟨I,⟨hc2.1.code,hc2.1.op⟩,hf.2,I,I,by show (W.compact2 i D).1.next<=_;have:=hc2.2.2.2.2.1;unfold Wl.compact2;rw[this];exact hc1.2.2⟩
theorem wreset_live:∀ (l:List Int) (D:Dk) (n:Nat),Liv n D->(wreset l D).2=0/\Liv n (wreset l D).1
 | [],_,_,h=>⟨rfl,h⟩
 | a::r,D,n,h=>by
  unfold wreset;have h1:=h.free a
  split
  ·rw[if_pos h1.1];exact wreset_live r _ n h1.2
  ·exact wreset_live r _ n h
theorem WLv.reset{n:Nat}{W:Wl}{D:Dk}(o:WLv 24 W)(h:Liv n D)(i:Nat)(hi:i<=wTop):
  (W.reset i D).2.2=0/\WLv 24 (W.reset i D).1/\Liv n (W.reset i D).2.1/\(W.reset i D).1.first=i/\(W.reset i D).1.recs=[]/\(W.reset i D).1.next=W.next:=by
 have h1:=wreset_live (areasL D) D n h;unfold Wl.reset;rw[if_neg (by rw[o.code];simp),if_neg qo,if_neg (by rw[h1.1];simp)];exact ⟨I,⟨o.code,fun q hq=>by cases hq⟩,h1.2,I,I,I⟩
end
section
def Lg.rl(L:Lg):Rl:=⟨L.kt,L.kv,L.sn,L.l⟩
structure Sim (k q:Nat) (L:Lg):Prop where
 code:L.code=0
 w:WLv 24 L.w
 hard:L.hard.num<=k
 head:L.head.num<=k
 place:L.place<=k
 next:L.w.next<=q
 fr:L.fr<=q
 first:L.w.first=L.sn.idx+1
 recs:L.w.recs.length=L.l.length
theorem Sim.up{k q k' q':Nat}{L:Lg}(o:Sim k q L)(h:k<=k')(h':q<=q'):Sim k' q' L:=
 ⟨o.code,o.w,by have:=o.hard;omega,by have:=o.head;omega,by have:=o.place;omega,by have:=o.next;omega,by have:=o.fr;omega,o.first,o.recs⟩
theorem Sim.setHard{k q n:Nat}{L:Lg}{D:Dk}(o:Sim k q L)(h:Liv (n+1) D)(t:Nat)(v:Int)(ht:t<=mxU)(hk:k<=1000000):
  (L.setHard D t v).2.2=(L.rl.setHard t v).2/\Liv n (L.setHard D t v).2.1/\Sim (k+1) q (L.setHard D t v).1/\(L.setHard D t v).1.rl=(L.rl.setHard t v).1:=by
 unfold mxU at ht;unfold Lg.setHard Rl.setHard;rw[if_neg (by rw[o.code];simp)]
 by_cases h1:v < -1\/7<=v
 ·rw[if_pos h1,if_pos (show v < -1\/6<v by omega)];exact ⟨I,h.mono qo,o.up qo qo,I⟩
 ·rw[if_neg h1,if_neg (show ¬(v < -1\/6<v) by omega)]
  by_cases h2:t<L.kt
  ·rw[if_pos h2,if_pos (show t<L.rl.kt from h2)];exact ⟨I,h.mono qo,o.up qo qo,I⟩
  ·rw[if_neg h2,if_neg (show ¬t<L.rl.kt from h2)]
   have hu:(uint t++uint (v+1).toNat).length<=48:=by
    rw[List.length_append];have h3:=uint10 (i:=t) qo;have h4:=uint10 (i:=(v+1).toNat) qo;omega
   have hs:=h.save L.hard 0 (uint t++uint (v+1).toNat) (by have:=o.hard;omega) hu;have hn:(L.hard.save 0 D (uint t++uint (v+1).toNat)).1.num<=k+1:=by rw[hs.2.2];have:=o.hard;dsimp only;omega
   have hs0:(L.hard.save 0 D (uint t++uint (v+1).toNat)).2.2=0:=hs.1;rw[if_pos hs0];exact ⟨I,hs.2.1,⟨o.code,o.w,hn,by have:=o.head;dsimp only;omega,by have:=o.place;dsimp only;omega,o.next,o.fr,o.first,o.recs⟩,rfl⟩
theorem ent_bytes_le{e:Ent}(h:entG e):e.bytes.length<=512:=by
 obtain ⟨⟨_,_,h1⟩,h2,h3⟩:=h;have h4:=held_len h1;unfold mxU at h2 h3;have h5:=uint10 (i:=e.idx) qo;have h6:=uint10 (i:=e.term) qo;have h7:=uint10 (i:=e.data.length) qo;unfold Ent.bytes putBytes;simp only[List.length_append,List.length_cons];omega
theorem Sim.app1:∀ (x:List Ent) (L:Lg) (D:Dk) (k q n:Nat),Sim k q L->Liv (n+11*x.length) D->(∀ e∈x,entG e)->L.sn.idx+L.l.length+x.length<2*lgTop ->
  (Lg.app1 x L D).2.2=0/\Liv n (Lg.app1 x L D).2.1/\Sim k (q+x.length) (Lg.app1 x L D).1/\(Lg.app1 x L D).1.rl={ L.rl with l:=L.l++x }
 | [],L,D,k,q,n,o,h,_,_=>⟨rfl,h.mono qo,o.up qo qo,by simp[Lg.app1,Lg.rl]⟩
 | e::r,L,D,k,q,n,o,h,hx,hl=>by
  simp only[List.length_cons] at h hl;unfold lgTop at hl;have h1:=o.w.append (n:=n+11*r.length) (b:=e.bytes) (h.mono qo) (ent_bytes_le (hx e (by simp))) (by rw[o.first,o.recs];unfold wTop;omega);unfold Lg.app1;rw[if_neg (by rw[h1.1];simp)]
  have hS:Sim k (q+1) { L with w:=(L.w.append e.bytes D).1,l:=L.l++[e] }:=
   ⟨o.code,h1.2.1,o.hard,o.head,o.place,by have:=o.next;have:=h1.2.2.2.2.2;dsimp only;omega,by have:=o.fr;dsimp only;omega,by dsimp only;rw[h1.2.2.2.1];exact o.first,by dsimp only;rw[h1.2.2.2.2.1];simp[o.recs]⟩
  have h2:=Sim.app1 r _ _ k (q+1) n hS h1.2.2.1 (fun e he=>hx e (by simp[he])) (by dsimp only;simp only[List.length_append,List.length_cons,List.length_nil];unfold lgTop;omega);refine ⟨h2.1,h2.2.1,h2.2.2.1.up (Nat.le_refl _) (by simp only[List.length_cons];omega),?_⟩;rw[h2.2.2.2];simp[Lg.rl]
theorem Sim.append{k q n:Nat}{L:Lg}{D:Dk}(o:Sim k q L)(x:List Ent)(h:Liv (n+11*x.length) D)(hx:∀ e∈x,e.idx<=mxU/\e.term<=mxU)(hl:L.sn.idx+L.l.length+x.length<2*lgTop):
  (L.append x D).2.2=(L.rl.append x).2/\Liv n (L.append x D).2.1/\Sim k (q+x.length) (L.append x D).1/\(L.append x D).1.rl=(L.rl.append x).1:=by
 unfold Lg.append Rl.append;rw[if_neg (by rw[o.code];simp)]
 by_cases hf:fol L.last (trm L.sn L.l L.last).1 x=0
 ·rw[if_neg (by rw[hf];simp),if_neg (by intro h2;exact h2 hf)];have hok:=fol_ok hf;exact Sim.app1 x L D k q n o h (fun e he=>⟨hok e he,hx e he⟩) hl
 ·rw[if_pos hf,if_pos (show fol (L.rl.sn.idx+L.rl.l.length) (trm L.rl.sn L.rl.l (L.rl.sn.idx+L.rl.l.length)).1 x≠0 from hf)];exact ⟨I,h.mono qo,o.up qo qo,I⟩
theorem Sim.sync{k q n:Nat}{L:Lg}{D:Dk}(o:Sim k q L)(h:Liv n D):(L.sync D).2.2=0/\Liv n (L.sync D).2.1/\Sim k q (L.sync D).1/\(L.sync D).1.rl=L.rl/\(L.sync D).1.sn=L.sn/\(L.sync D).1.l=L.l:=by
 have h1:=o.w.sync h;unfold Lg.sync;rw[if_neg (by rw[o.code];simp)];exact ⟨h1.1.code,h1.2.1,⟨h1.1.code,h1.1,o.hard,o.head,o.place,by dsimp only;rw[h1.2.2.2.2.1];exact o.next,o.fr,by dsimp only;rw[h1.2.2.1];exact o.first,by dsimp only;rw[h1.2.2.2.1];exact o.recs⟩,I,I,I⟩
theorem lgW_live(place:Nat):∀ (f n:Nat) (b:List UInt8) (D:Dk) (m:Nat),Liv (m+(b.length+63) / 64) D->b.length<f->n+(b.length+63) / 64<=65536->(lgW place f n b D).2=0/\Liv m (lgW place f n b D).1
 | 0,_,_,_,_,_,hf,_=>by omega
 | f+1,n,b,D,m,h,hf,hn=>by
  unfold lgW
  by_cases hb:b=[]
  ·rw[if_pos hb];exact ⟨I,h.mono qo⟩
  ·rw[if_neg hb];have hbl:0<b.length:=by cases b with|nil=>exact absurd rfl hb|cons a l=>simp
   have h1:=Liv.write (n:=m+(b.length-64+63) / 64) (h.mono qo) (lgA4 place) n (b.take 64) qo qo (by rw[List.length_take];omega);rw[if_neg (by rw[h1.1];simp)];exact lgW_live place f (n+1) (b.drop 64) _ m (by rw[List.length_drop];exact h1.2) (by rw[List.length_drop];omega) (by rw[List.length_drop];omega)
theorem say_len{s:Snp}{place fr:Nat}(hi:s.idx<=mxU)(ht:s.term<=mxU)(hp:place<=2097151)(hf:fr<=2097151)(hd:s.data.length<=2097152)(hv:(putConf s.vot).isSome=true):(Lg.say s place fr).length<=48:=by
 unfold mxU at hi ht;have h1:=uint10 (i:=s.idx) qo;have h2:=uint10 (i:=s.term) qo;have h3:=uint_length_le 3 place qo (by decide);have h4:=uint_length_le 3 fr qo (by decide);have h5:=uint_length_le 4 s.data.length qo (by decide)
 have h6:(ob (putConf s.vot)).length<=1:=by
  unfold putConf
  split <;> simp[ob]
 unfold Lg.say;simp only[List.length_append];omega
theorem Sim.lay{k q n:Nat}{L:Lg}{D:Dk}(o:Sim k q L)(s:Snp)(fr:Nat)(h:Liv (n+((s.data.length+63) / 64+1)) D)(hi:s.idx<=mxU)(ht:s.term<=mxU)(hd:s.data.length<=2097152)(hv:(putConf s.vot).isSome=true)(hk:k<=1000000)(hq:q<=2000000)(hfr:fr<=q):
  (L.lay s fr D).2.2=0/\Liv n (L.lay s fr D).2.1/\(L.lay s fr D).1.code=0/\(L.lay s fr D).1.w=L.w/\(L.lay s fr D).1.hard=L.hard/\(L.lay s fr D).1.head.num<=k+1/\(L.lay s fr D).1.place<=k+1/\(L.lay s fr D).1.fr=fr/\(L.lay s fr D).1.sn=s/\(L.lay s fr D).1.kt=L.kt/\(L.lay s fr D).1.kv=L.kv /\
   (L.lay s fr D).1.l=if lgHas L.sn L.l s=true then L.l.drop ((lgAt L.sn L.l s.idx).getD 0+1) else []:=by
 have hp:=o.place;have hh:=o.head;have h1:=lgW_live (L.place+1) (s.data.length+1) 0 s.data D (n+1) (h.mono qo) qo qo;have h2:=h1.2.sync (lgA4 (L.place+1));have h3:=h2.2.save L.head 4 (Lg.say s (L.place+1) fr) qo (say_len hi ht qo qo hd hv);have h4:=h3.2.1.free (lgA4 L.place);unfold Lg.lay;rw[if_neg (by rw[h1.1];simp)];unfold Lg.lay1;rw[if_neg (by rw[h2.1];simp)];unfold Lg.lay2;have h30:=h3.1;rw[if_neg (by intro hc;exact hc h30)];unfold Lg.lay3 Lg.laid;refine ⟨h4.1,h4.2,h4.1,I,I,?_,?_,I,I,I,I,I⟩
 ·show (L.head.save 4 _ _).1.num<=k+1;have h5:=congrArg Slt.num h3.2.2;dsimp only at h5;have:∀ a:Nat,a=L.head.num+1->a<=k+1:=fun a ha=>by omega
  exact this _ h5
 ·show L.place+1<=k+1;omega
theorem lgHas_in{s:Snp}{l:List Ent}{t:Snp}(h:lgHas s l t=true)(hlt:s.idx<t.idx):t.idx<=s.idx+l.length/\(lgAt s l t.idx).getD 0+1=t.idx-s.idx:=by
 have h1:t.idx<=s.idx+l.length:=by
  unfold lgHas trm at h;rw[if_neg qo] at h
  by_cases h2:t.idx<s.idx\/s.idx+l.length<t.idx
  ·rw[if_pos h2] at h;simp at h
  ·omega
 refine ⟨h1,?_⟩;unfold lgAt;rw[if_neg qo];show t.idx-s.idx-1+1=_;omega
theorem fits_rl{k q:Nat}{L:Lg}(o:Sim k q L)(s:Snp):L.fits s=L.rl.fits s:=by
 unfold Lg.fits Rl.fits;rw[if_neg (by rw[o.code];simp)]
 rfl
theorem Sim.save{k q n:Nat}{L:Lg}{D:Dk}(o:Sim k q L)(s:Snp)(h:Liv (n+((s.data.length+63) / 64+2)) D)(hi:s.idx<=mxU)(ht:s.term<=mxU)(hk:k<=1000000)(hq:q<=2000000):
  (L.save s D).2.2=(L.rl.save s).2/\Liv n (L.save s D).2.1/\Sim (k+1) (q+1) (L.save s D).1/\(L.save s D).1.rl=(L.rl.save s).1:=by
 unfold Lg.save Rl.save;rw[fits_rl o]
 by_cases hf:L.rl.fits s=0
 ·rw[if_neg (show ¬L.rl.fits s≠0 by rw[hf];simp),if_neg (show ¬L.rl.fits s≠0 by rw[hf];simp)];obtain ⟨hv,hd,hlt,htop⟩:=rfits_ok hf;have hlt':L.sn.idx<s.idx:=hlt
  by_cases hh:lgHas L.sn L.l s=false
  ·rw[if_pos hh,if_pos (show lgHas L.rl.sn L.rl.l s=false from hh)];exact ⟨I,h.mono qo,o.up qo qo,I⟩
  ·rw[if_neg hh,if_neg (show ¬lgHas L.rl.sn L.rl.l s=false from hh)];have hh':lgHas L.sn L.l s=true:=by simpa using hh
   have hin:=lgHas_in hh' hlt';have hs:=o.sync h;unfold Lg.save1;rw[if_neg (by rw[hs.1];simp)];generalize L.sync D=LD at hs;obtain ⟨L1,D1,c1⟩:=LD;obtain ⟨_,hl1,o1,hr1,hsn1,hL1⟩:=hs;dsimp only at hl1 o1 hr1 hsn1 hL1 ⊢;have hly:=o1.lay (n:=n+1) s L1.fr (hl1.mono qo) hi ht hd hv hk hq o1.fr;unfold Lg.save2;rw[if_neg (by rw[hly.1];simp)];generalize L1.lay s L1.fr D1=R at hly;obtain ⟨L2,D2,c2⟩:=R;obtain ⟨_,hl2,hc2,hw2,hh2,hhd2,hp2,hfr2,hsn2,hkt2,hkv2,hL2⟩:=hly;dsimp only at hl2 hc2 hw2 hh2 hhd2 hp2 hfr2 hsn2 hkt2 hkv2 hL2 ⊢;have hcm:=(show WLv 24 L2.w from by rw[hw2];exact o1.w).compact hl2 (s.idx+1) (by unfold lgTop at htop;omega) (by rw[hw2,o1.first,hsn1];omega) (by rw[hw2,o1.first,o1.recs,hsn1,hL1];omega);have hl3:L2.l=L.l.drop (s.idx-L.sn.idx):=by rw[hL2,hsn1,hL1,if_pos hh',hin.2]
   have hrr:L1.rl.kt=L.kt/\L1.rl.kv=L.kv:=by rw[hr1];exact ⟨I,I⟩
   refine ⟨hcm.1,hcm.2.2.1,⟨hcm.1,hcm.2.1,by dsimp only;rw[hh2];have:=o1.hard;omega,hhd2,hp2,by dsimp only;have:=hcm.2.2.2.2.2;rw[hw2] at this ⊢;have:=o1.next;omega,by dsimp only;rw[hfr2];have:=o1.fr;omega,by dsimp only;rw[hcm.2.2.2.1,hsn2],?_⟩,?_⟩
   ·dsimp only;rw[hcm.2.2.2.2.1,hl3,hw2,List.length_drop,List.length_drop,o1.first,o1.recs,hsn1,hL1];omega
   ·unfold Lg.rl;dsimp only;rw[hkt2,hkv2,hsn2,hl3];have e1:L1.kt=L.kt:=hrr.1;have e2:L1.kv=L.kv:=hrr.2;rw[e1,e2]
 ·rw[if_pos hf,if_pos hf];exact ⟨I,h.mono qo,o.up qo qo,I⟩
theorem Sim.install{k q n:Nat}{L:Lg}{D:Dk}(o:Sim k q L)(s:Snp)(h:Liv (n+((s.data.length+63) / 64+2)) D)(hi:s.idx<=mxU)(ht:s.term<=mxU)(hk:k<=1000000)(hq:q<=2000000):
  (L.install s D).2.2=(L.rl.install s).2/\Liv n (L.install s D).2.1/\Sim (k+1) (q+1) (L.install s D).1/\(L.install s D).1.rl=(L.rl.install s).1:=by
 unfold Lg.install Rl.install;rw[fits_rl o]
 by_cases hf:L.rl.fits s=0
 ·rw[if_neg (show ¬L.rl.fits s≠0 by rw[hf];simp),if_neg (show ¬L.rl.fits s≠0 by rw[hf];simp)];obtain ⟨hv,hd,hlt,htop⟩:=rfits_ok hf
  by_cases hh:lgHas L.sn L.l s=true
  ·rw[if_pos hh,if_pos (show lgHas L.rl.sn L.rl.l s=true from hh)];exact o.save s h hi ht hk hq
  ·rw[if_neg hh,if_neg (show ¬lgHas L.rl.sn L.rl.l s=true from hh)];have hly:=o.lay (n:=n) s L.w.next (h.mono qo) hi ht hd hv hk hq o.next;unfold Lg.inst1;rw[if_neg (by rw[hly.1];simp)];generalize L.lay s L.w.next D=R at hly;obtain ⟨L2,D2,c2⟩:=R;obtain ⟨_,hl2,hc2,hw2,hh2,hhd2,hp2,hfr2,hsn2,hkt2,hkv2,hL2⟩:=hly;dsimp only at hl2 hc2 hw2 hh2 hhd2 hp2 hfr2 hsn2 hkt2 hkv2 hL2 ⊢;have hcm:=(show WLv 24 L2.w from by rw[hw2];exact o.w).reset hl2 (s.idx+1) (by unfold lgTop at htop;unfold wTop;omega);rw[if_neg hh] at hL2;refine ⟨hcm.1,hcm.2.2.1,⟨hcm.1,hcm.2.1,by dsimp only;rw[hh2];have:=o.hard;omega,hhd2,hp2,by dsimp only;rw[hcm.2.2.2.2.2,hw2];have:=o.next;omega,by dsimp only;rw[hfr2];have:=o.next;omega,by dsimp only;rw[hcm.2.2.2.1,hsn2],?_⟩,?_⟩
   ·dsimp only;rw[hcm.2.2.2.2.1,hL2]
    rfl
   ·unfold Lg.rl;dsimp only;rw[hkt2,hkv2,hsn2,hL2]
 ·rw[if_pos hf,if_pos hf];exact ⟨I,h.mono qo,o.up qo qo,I⟩
end
end Go.En
