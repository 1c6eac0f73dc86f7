/-
  Part 4 of what the proof needs (texts Wh Wi Wj Wk Ja Jb Jc Jd Je Jf Jg Jh Ji Jj Jk Jl Jm Jn Jo Jp Jq Np Ra Rb Rc Rd Re Rf Rg Qa).
-/
import Derived.Test.YtaifbolghjccjaaGreatSk3
set_option linter.unusedSectionVars false
set_option linter.unusedSimpArgs false
set_option linter.unusedVariables false
set_option maxRecDepth 4000
namespace Go.En
open Go.Proofs Go.Proofs.YtaifbolghjccjaaGreat
section
theorem wtx_step(D:Dk)(num f n:Nat):wtx D num (f+1) n=match D.read (segA num) n with
  | none=>[]
  | some s=>(s.drop 1).take (usedB s)++(if usedB s<63 then [] else wtx D num f (n+1)):=rfl
theorem wtx_len(D:Dk)(num:Nat):∀ (f n:Nat),(wtx D num f n).length<=63*f
 | 0,n=>by simp[wtx]
 | f+1,n=>by
  rw[wtx_step];have ih:=wtx_len D num f (n+1)
  split
  ·simp
  ·rename_i s _;have:usedB s<=63:=by unfold usedB;omega
   rw[List.length_append,List.length_take]
   split
   ·simp;omega
   ·omega
theorem wtext_len(D:Dk)(num:Nat):(wtext D num).length<=4128831:=wtx_len D num 65537 0
theorem Dk.Ok.noRead{c:Nat}{D:Dk}(o:D.Ok c)(a n:Int)(h:65536<=n):D.read a n=none:=by
 unfold Dk.read;cases hs:D.sec a n with
 | none=>rfl
 | some s=>
  have hm:=mget_mem hs;obtain ⟨l,h1,h2⟩:=Dk.ar_mem _ hm;rw[h2] at hm;have:=o.at_ _ h1 _ hm;omega
attribute [local irreducible] Code.wp wpList Calls
theorem textC{w0:World}{K dh:PH}{hs:List PH}(db:Nat)(D:Dk)(c:Nat)(oD:D.Ok c)(hc:c<=1000000000)(hd:DskH K db D dh)(num:Nat)(hn:num<=2305843009213693952):
  Ct Tryz.prog w0 171 [.pointer (some ⟨db,0,none⟩),.int .u64 (num:Nat)] K (dh::hs)
   (fun v K' hs'=>∃ h',hs'=h'::hs/\h'=dh/\Le K K'/\∃ ao k,v=.slice ao (wtext D num).length k/\IsS K' ao (wtext D num).length k 1 (bv (wtext D num))):=by
 refine ent Tryz.func171 ?_;refine sq (rg (fin 1 I (th (sq (rg (fin 1 I (th (sq (rg (fin 1 I (th (bk (WC.em ?_)))))))))))))
 refine loop (σ:=(Nat×List UInt8)×(Option Addr×Nat×PH)×PH) (fun s=>[(0,.pointer (some ⟨db,0,none⟩)),(1,.int .u64 (num:Nat)),(5,.slice s.2.1.1 s.1.2.length s.2.1.2.1),(6,.int .i64 s.1.1)]) (fun s=>s.2.2) (fun s=>s.2.1.2.2::dh::hs)
  (fun s=>s.1.2++wtx D num (65537-s.1.1) s.1.1=wtext D num/\s.1.1<=65536/\Le K s.2.2/\Own s.2.1.2.2 s.2.1.1 s.1.2.length s.2.1.2.1 5 1 (bv s.1.2)) (fun s=>65537-s.1.1) ((0,[]),(none,0,em),K) ⟨by dsimp only;rw[List.nil_append,Nat.sub_zero,wtext],by simp,Le.refl _,Own.nil _ _⟩ ⟨rfl,rfl,rfl,rfl,trivial⟩ rfl rfl ?_
 rintro ⟨⟨n,b⟩,⟨ao,k,g⟩,K1⟩ ⟨hw,hn2,le,o⟩;dsimp only at *;rw[show 65537-n=(65536-n)+1 from by omega,wtx_step] at hw;have hlen:=wtext_len D num
 have hbl:b.length<=4128831:=by
  grind
 refine sq (bk (sq (rg (cl 2 I (areaC num hn) ?_))));rintro v15 K15 hs15 ⟨rfl,rfl,rfl⟩;refine cl 1 I (Ct.at 1 I (readH db D c oD qo (hd.le le) (segA num) ((n:Nat):Int))) ?_;rintro v17 K17 hs17 ⟨_,rfl,rfl,le2,⟨hr,rfl⟩|⟨s,as',cs,hr,hsl,rfl,xs⟩⟩
 ·rw[hr] at hw;simp only[List.append_nil] at hw;refine fin 5 I (th (sq (sq (rg (fin 2 I (th (ifT I (sq (rg (fin 2 I (th (rt (rT (rB (rT (rT (rB (WQ.frz fun K2 l1 l2=>ret1 I I ⟨_,I,I,(le.trans le2).trans l1,ao,k,by rw[<-hw],?_⟩))))))))))))))))));rw[<-hw];exact o.isS.le l2
 ·rw[hr] at hw;dsimp only at hw
  have hn3:n<65536:=by
   rcases Nat.lt_or_ge n 65536 with h|h
   ·exact h
   ·rw[oD.noRead _ _ qo] at hr;cases hr
  obtain ⟨c0,hc0⟩:∃ c0,s[0]?=some c0:=⟨s[0]'qo,List.getElem?_eq_getElem qo⟩;have hg0:s.getD 0 0=c0:=by rw[List.getD_eq_getElem?_getD,hc0];rfl
  have hx0:(bv s)[0]?=some (.int .u8 c0.toNat):=by simp[bv,hc0]
  have hcl:=c0.toNat_lt;have hu:usedB s=min c0.toNat 63:=by unfold usedB;rw[hg0]
  obtain ⟨u,hu0⟩:∃ u,u=usedB s:=⟨_,rfl⟩;have hu63:u<=63:=by omega
  rw[<-hu0] at hw hu;obtain ⟨t,ht⟩:∃ t,t=(s.drop 1).take u:=⟨_,rfl⟩;have htl:t.length=u:=by simp_all
  rw[<-ht] at hw;refine au ?_;refine ix1 1 0 I I I xs hx0 fun a24 hc24=>ld 0 I (.inl I) hc24 (ar 0 I (i64w qo) ?_)
  refine ar 0 I (v':=.int .i64 (u:Nat)) (by
   congr 1
   omega) ?_
  refine au ?_;refine ar 3 I (i64w (x:=((1+u:Nat):Int)) qo) ?_
  refine sl 0 1 u I xs I I qo (ys:=bv t) (by
   simp_all [bv]) fun ao32 c32 x32=>?_
  refine app 0 0 I I o (.inl I) x32 I (by decide) (bv_one _) (by show (b.length+u)*1<=_;omega) (by simp only[maxLen];omega) fun ao33 c33 g33 o33=>au ?_;have o33':Own g33 ao33 (b++t).length c33 5 1 (bv (b++t)):=own_of o33 (by rw[List.length_append,htl]) (by rw[bv_append]);refine cmpS 1 I fun b35 h35=>fin 0 I (th (ifP h35 I (fun e3=>?_) (fun e3=>?_)))
  ·rw[if_pos qo,List.append_nil] at hw;refine sq (rg (fin 2 I (th (rt (rB (rT (rT (rB (WQ.frz fun K2 l1 l2=>ret1 I I ⟨_,I,I,(le.trans le2).trans l1,ao33,c33,by rw[<-hw,List.length_append,htl],?_⟩)))))))));rw[<-hw];exact o33'.isS.le l2
  ·rw[if_neg qo,<-List.append_assoc] at hw;refine sk (bl (th (rg (ar 1 I (i64w (x:=((n+1:Nat):Int)) qo) (fin 1 I (again (x:=((n,b),(ao,k,g),K15)) ((n+1,b++t),(ao33,c33,g33),K17) ⟨I,I,?_,I,trivial⟩ I I ⟨by simp_all,by dsimp only;omega,le.trans le2,o33'⟩ (by dsimp only;omega)))))));dsimp only;rw[List.length_append,htl]
   rfl
theorem errC{w0:World}{K h hb:PH}{R:List PH}(rb:Nat)(s:Rd)(r:IsRd rb hb s h):Ct Tryz.prog w0 172 [.pointer (some ⟨rb,0,none⟩)] K (h::R) (fun v K' hs'=>K'=K/\hs'=h::R/\v=.int .i64 s.2):=by
 obtain ⟨ao,cap,rfl,x⟩:=r;refine entA Tryz.func172 ?_;exact ret1 I I ⟨I,I,I⟩
theorem followsC{w0:World}{K:PH}{m hs:List PH}(wb db:Nat)(W:Wl)(hW:WalM K wb db W m)(hb:W.first+W.recs.length<=wTop)(hr:W.recs.length<=1000000000000)(hol:W.old.length<=10000000000)(n idx:Nat)(hi:idx<=wTop):
  Ct Tryz.prog w0 114 [.pointer (some ⟨wb,0,none⟩),.agg #[.int .u64 (n:Nat),.int .u64 (idx:Nat)]] K (m++hs)
   (fun v K' hs'=>K'=K/\∃ m',hs'=m'++hs/\WalM K wb db (W.follows n idx).1 m'/\v=.bool (W.follows n idx).2):=by
 obtain ⟨ob,aL,cL,aO,cO,oH,rH,gL,gO,rfl,hop,hL,hO⟩:=hW;obtain ⟨op,first,recs,old,next,code⟩:=W;dsimp only at *;unfold wTop at hb hi;refine ent Tryz.func114 ?_;refine sq (rg (bx 0 I fun b3=>WL.h 0 (pt b3 #[.int .u64 (n:Nat),.int .u64 (idx:Nat)] 197) (fin 1 I (th ?_))))
 refine jn (σ:=Nat×List (List UInt8)×(Option Addr×Nat×PH)) (fun _=>[(0,.pointer (some ⟨wb,0,none⟩)),(3,.pointer (some ⟨b3,0,none⟩))])
  (fun s=>pt b3 #[.int .u64 (n:Nat),.int .u64 (idx:Nat)] 197::pt wb (wlA db ob s.1 (.slice s.2.2.1 s.2.1.length s.2.2.2.1) (.slice aO old.length cO) next code) 192::oH::rH::s.2.2.2.2::gO::hs)
  (fun s=>SlZ 1 32 (recR K) s.2.2.2.2 s.2.2.1 s.2.1.length s.2.2.2.1 s.2.1/\s.1<=idx/\idx-s.1<=s.2.1.length/\(Wl.follows ⟨op,first,recs,old,next,code⟩ n idx)=(⟨op,s.1,s.2.1.take (idx-s.1),old++[(n,idx)],next,code⟩,true)) ?_ ?_
 ·refine bk (sq (rgm [0,1] 16 [0,2,4,6,8,10,12,14,16,18,20,22,24,26,28,30] ?_));refine au ?_;refine dcmp qk 1 (old.length=0) I (by simp) (fun h1=>?_) (fun h1=>?_)
  ·have e:(Wl.follows ⟨op,first,recs,old,next,code⟩ n idx)=(⟨op,idx,[],old++[(n,idx)],next,code⟩,true):=by unfold Wl.follows;rw[if_pos (.inl h1)]
   refine dend qk 10 I (th (ifT I (rg (ldp 3 0 I I I (stp 2 1 I I I I (stp 2 1 I I I I (fin 0 I (bl (WQ.loss 4 em I (.inr I) ?_)))))))));exact jx (idx,[],(none,0,em)) ⟨SlZ.nil _ _,Nat.le_refl _,by omega,by rw[e];simp⟩ ⟨rfl,rfl,trivial⟩ rfl rfl
  ·refine au ?_;refine dcbS qk 0 (idx<first) I (by simp) fun b19 h19=>au ?_;refine ifP h19 I (fun e2=>?_) (fun e2=>?_)
   ·have e:(Wl.follows ⟨op,first,recs,old,next,code⟩ n idx)=(⟨op,idx,[],old++[(n,idx)],next,code⟩,true):=by unfold Wl.follows;rw[if_pos (.inr e2)]
    refine rg (ldp 3 0 I I I (stp 2 1 I I I I (stp 2 1 I I I I (fin 0 I (bl (WQ.loss 4 em I (.inr I) ?_))))));exact jx (idx,[],(none,0,em)) ⟨SlZ.nil _ _,Nat.le_refl _,by omega,by rw[e];simp⟩ ⟨rfl,rfl,trivial⟩ rfl rfl
   ·refine sq (rgm [0,1] 15 [0,2,4,6,8,10,12,14,16,18,20,22,24,26,28] ?_);refine au ?_;refine dar qk 0 I (v':=.int .u64 (idx-first:Nat)) (by grind [u64w]) (au ?_);refine dar qk 1 I (u64w (x:=((recs.length:Nat):Int)) qo) (dcbS qk 0 (recs.length<idx-first) I (by simp) fun b43 h43=>au ?_);refine ifP h43 I (fun e3=>?_) (fun e3=>?_)
    ·have e:(Wl.follows ⟨op,first,recs,old,next,code⟩ n idx)=(⟨op,first,recs,old,next,code⟩,false):=by simp_all [Wl.follows]
     rw[e];refine au ?_;refine jr (WQ.drop ?_);exact ret1 I I ⟨I,[_,_,_,_,_],I,⟨ob,aL,cL,aO,cO,oH,rH,gL,gO,I,hop,hL,hO⟩,I⟩
    ·have e:(Wl.follows ⟨op,first,recs,old,next,code⟩ n idx)=(⟨op,first,recs.take (idx-first),old++[(n,idx)],next,code⟩,true):=by simp_all [if_neg,Wl.follows]
     exact sk (bl (jx (first,recs,(aL,cL,gL)) ⟨hL,by omega,by dsimp only;omega,e⟩ ⟨rfl,rfl,trivial⟩ rfl rfl))
 ·clear hL;rintro ⟨fi,rs,⟨aR,cR,gR⟩⟩ ⟨hL,h1,h2,e⟩;dsimp only at *;rw[e];have hcap:=hL.caps;refine sq (rga [pt b3 #[.int .u64 (n:Nat),.int .u64 (idx:Nat)] 197,pt wb (wlA db ob fi (.slice aR rs.length cR) (.slice aO old.length cO) next code) 192] 15 [0,2,4,6,8,10,12,14,16,18,20,22,24,26,28,31] (by simp) qk qk (au ?_));refine dar qk 0 I (v':=.int .u64 (idx-fi:Nat)) (by grind [u64w]) (dslx qk 0 0 (idx-fi) I I I (by simp) qo (dact qk 2 I (stp 0 1 I I I I (dnext (.inl qk) ?_))));obtain ⟨gR2,hg2,hL2⟩:=hL.cut 0 (idx-fi) qo;have hlen:(rs.take (idx-fi)).length=idx-fi:=by rw[List.length_take];omega
  refine dend qk 0 I (th (WC.loss 4 gR2 I hg2 (sq (rga [pt wb (wlA db ob fi (.slice (cutA aR cR 0 1) (idx-fi) (cR-0)) (.slice aO old.length cO) next code) 192,pt b3 #[.int .u64 (n:Nat),.int .u64 (idx:Nat)] 197] 10 [0,2,4,6,8,10,13,15,16,18,21] (by intro h hm;simp at hm;rcases hm with rfl|rfl;exact List.mem_cons_of_mem _ (List.mem_cons_self ..);simp) qk qk (dldpw qk 4 0 rfl qk rfl rfl (dldS qk 0 1 rfl qk rfl qk (dact qk 0 rfl (lit 0 #[.int .u64 (n:Nat),.int .u64 (idx:Nat)] rfl (by decide) qk fun b65=>?_))))))))
  have hA:∀ h∈[pt wb (wlA db ob fi (.slice (cutA aR cR 0 1) (idx-fi) (cR-0)) (.slice aO old.length cO) next code) 192,pt b3 #[.int .u64 (n:Nat),.int .u64 (idx:Nat)] 197],∀ x:PH,∀ t:List PH,h∈x::pt b3 #[.int .u64 (n:Nat),.int .u64 (idx:Nat)] 197::pt wb (wlA db ob fi (.slice (cutA aR cR 0 1) (idx-fi) (cR-0)) (.slice aO old.length cO) next code) 192::t:=by
   simp
  refine dnex [pt wb (wlA db ob fi (.slice (cutA aR cR 0 1) (idx-fi) (cR-0)) (.slice aO old.length cO) next code) 192,pt b3 #[.int .u64 (n:Nat),.int .u64 (idx:Nat)] 197] (fun h hm=>hA h hm _ _) (by simp) I (au ?_);refine appSq 0 6 [.int .u64 (n:Nat),.int .u64 (idx:Nat)] (n,idx) I I I hO I I (by simp[Value.oneCell']) I (by decide) (by show (old.length+1)*16<=_;omega) (by simp only[maxLen];omega) fun ao66 c66 g66 o66=>dnex [pt wb (wlA db ob fi (.slice (cutA aR cR 0 1) (idx-fi) (cR-0)) (.slice aO old.length cO) next code) 192,pt b3 #[.int .u64 (n:Nat),.int .u64 (idx:Nat)] 197] (fun h hm=>hA h hm _ _) (by simp) rfl (dact qk 2 rfl (stp 0 2 rfl rfl rfl rfl (dnext (.inl qk) (dend qk 0 rfl (th (WC.drop (WC.drop (sq (rg (au ?_))))))))));refine ret1 I I ⟨I,[_,_,_,_,_],I,⟨ob,cutA aR cR 0 1,cR-0,ao66,c66,oH,rH,gR2,g66,?_,hop,?_,?_⟩,I⟩
  ·dsimp only;rw[hlen,List.length_append];rfl
  all_goals simp_all
theorem open1C{w0:World}{K rd:PH}{m hs:List PH}(wb db b8 b12:Nat)(W:Wl)(hW:WalM K wb db W m)(hb:W.first+W.recs.length<=wTop)(hr:W.recs.length<=1000000000000)(hol:W.old.length<=10000000000)(n idx:Nat)(hi:idx<=wTop):
  Ct Tryz.prog w0 113 [.int .u64 (idx:Nat),.pointer (some ⟨b8,0,none⟩),.pointer (some ⟨b12,0,none⟩)] K (m++(rd::pt b12 #[.int .u64 (n:Nat)] 29::pt b8 #[.pointer (some ⟨wb,0,none⟩)] 116::hs))
   (fun v K' hs'=>K'=K/\∃ m',hs'=m'++(rd::pt b12 #[.int .u64 (n:Nat)] 29::pt b8 #[.pointer (some ⟨wb,0,none⟩)] 116::hs)/\WalM K wb db (W.follows n idx).1 m'/\v=.bool (W.follows n idx).2):=by
 obtain ⟨ob,aL,cL,aO,cO,oH,rH,gL,gO,rfl,hop,hL,hO⟩:=id hW;refine entA Tryz.func113 ?_;refine bd 1 (.agg #[.int .u64 (n:Nat),.int .u64 (idx:Nat)]) I (fun w=>by kernel_rfl) (cl 0 I (followsC wb db W hW hb hr hol n idx hi) ?_);rintro v9 K9 hs9 ⟨rfl,m',rfl,hW',rfl⟩;refine au ?_;exact ret1 I I ⟨I,m',I,hW',I⟩
theorem open2C{w0:World}{K rd b12:PH}{m hs:List PH}(wb db b8:Nat)(W:Wl)(hW:WalM K wb db W m)(hr:W.recs.length<=1000000000000)(r:List UInt8)(ao:Option Addr)(k:Nat)(x:IsS K ao r.length k 1 (bv r)):
  Ct Tryz.prog w0 115 [.slice ao r.length k,.pointer (some ⟨b8,0,none⟩)] K (m++(rd::b12::pt b8 #[.pointer (some ⟨wb,0,none⟩)] 116::hs))
   (fun v K' hs'=>K'=K/\∃ m',hs'=m'++(rd::b12::pt b8 #[.pointer (some ⟨wb,0,none⟩)] 116::hs)/\WalM K wb db { W with recs:=W.recs++[r] } m'):=by
 obtain ⟨ob,aL,cL,aO,cO,oH,rH,gL,gO,rfl,hop,hL,hO⟩:=id hW;refine ent Tryz.func115 ?_;refine rgm [0,7] 10 [0,2,4,6,8,10,13,15,16,18,21] ?_;refine au ?_;refine lit 0 #[.slice ao r.length k] I (by decide) qk fun b9=>dnx (by simp) I (dact qk 0 I (appSq 0 4 [.slice ao r.length k] r I I I hL ⟨ao,k,I,x⟩ I (by simp[Value.oneCell']) I (by decide) (by show (W.recs.length+1)*24<=_;omega) (by simp only[maxLen];omega) fun ao10 c10 g10 o10=>dnx (by simp) rfl (dact qk 2 rfl (stp 0 1 rfl rfl rfl rfl (dnext (.inl qk) (dend qk 0 rfl (WQ.drop ?_)))))));refine end0 I ⟨I,[_,_,_,_,_],I,⟨ob,ao10,c10,aO,cO,oH,rH,g10,gO,?_,hop,?_,hO⟩⟩
 ·dsimp only;rw[List.length_append];rfl
 simp_all
end
section
theorem rBytes_dec{m:Int}{b:List UInt8}(h:(rBytes m (b,0)).2.2=0):(rBytes m (b,0)).2.1.length<b.length/\((rBytes m (b,0)).1.length:Int)<=m.toNat:=by
 unfold rBytes at h ⊢;dsimp only at h ⊢
 by_cases h1:(rUint m.toNat (b,0)).2.2=0
 ·rw[if_pos h1] at h ⊢;obtain ⟨g1,g2⟩:=rUint_ok h1
  grind [uint]
 ·rw[if_neg h1] at h;exact absurd h h1
theorem wrecs_step(f:Nat)(r:Rd):wrecs (f+1) r=if (rBytes 512 r).2.2=0 then (rBytes 512 r).1::wrecs f (rBytes 512 r).2 else []:=rfl
theorem uvv_get{l:List Nat}{j n:Nat}(h:l[j]?=some n):(uvv l)[j]?=some (.int .u64 (n:Nat)):=by simp[uvv,h]
theorem uvv_app(a b:List Nat):uvv (a++b)=uvv a++uvv b:=by simp[uvv]
theorem wnums_app(a b:List Int):wnums (a++b)=wnums a++wnums b:=by simp[wnums]
theorem wnext_snoc(a:List Int)(x:Int):wnext (a++[x])=if x % 4=1 then x.toNat / 4+1 else wnext a:=by
 grind [wnext,wnums]
theorem wnums_len(a:List Int):(wnums a).length<=a.length:=by
 simp[List.length_filter_le,wnums]
theorem wsettle_step(g:List Nat)(n:Nat)(r:List Nat)(D:Dk):wsettle g (n::r) D=if (wset1 D g n).2=0 then wsettle g r (wset1 D g n).1 else wset1 D g n:=rfl
theorem DOk.set1{c:Nat}{D:Dk}(o:DOk c D)(g:List Nat)(n:Nat):DOk (c+1) (wset1 D g n).1:=by
 unfold wset1
 split
 ·exact o.free _
 ·exact o.sync _
theorem DOk.settle:∀ (l:List Nat) (g:List Nat) (D:Dk) (c:Nat),DOk c D->DOk (c+l.length) (wsettle g l D).1
 | [],g,D,c,o=>o.up qo
 | n::r,g,D,c,o=>by
  rw[wsettle_step]
  split
  ·exact (DOk.settle r g _ _ (o.set1 g n)).up (by simp only[List.length_cons];omega)
  ·exact (o.set1 g n).up (by simp only[List.length_cons];omega)
attribute [local irreducible] Code.wp wpList Calls
theorem IsRd.up{rb:Nat}{hb hb':PH}{s:Rd}{h:PH}(l:Le hb hb')(r:IsRd rb hb s h):IsRd rb hb' s h:=let ⟨a,c,h1,h2⟩:=r;⟨a,c,h1,h2.le l⟩
theorem readWC{w0:World}{K dh:PH}{m hs:List PH}(wb db b8 b12:Nat)(W:Wl)(hW:WalM K wb db W m)(hb:W.first+W.recs.length<=wTop)(hr:W.recs.length<=900000000000)(hol:W.old.length<=10000000000)(D:Dk)(c:Nat)(oD:D.Ok c)(hc:c<=1000000000)(hd:DskH K db D dh)(n:Nat)(hn:n<=2305843009213693952):
  Ct Tryz.prog w0 112 [.pointer (some ⟨db,0,none⟩),.int .u64 (n:Nat),.func (.func 113) #[] #[.pointer (some ⟨b8,0,none⟩),.pointer (some ⟨b12,0,none⟩)],.func (.func 115) #[] #[.pointer (some ⟨b8,0,none⟩)]] K
   (m++(pt b12 #[.int .u64 (n:Nat)] 29::pt b8 #[.pointer (some ⟨wb,0,none⟩)] 116::dh::hs))
   (fun v K' hs'=>Le K K'/\∃ m',hs'=m'++(pt b12 #[.int .u64 (n:Nat)] 29::pt b8 #[.pointer (some ⟨wb,0,none⟩)] 116::dh::hs)/\WalM K' wb db (wread D n W).1 m'/\v=.tuple #[.bool (wread D n W).2.1,.bool (wread D n W).2.2]):=by
 obtain ⟨ob,aL,cL,aO,cO,oH,rH,gL,gO,rfl,hop,hL,hO⟩:=id hW;obtain ⟨X,hX⟩:∃ X,X=wtext D n:=⟨_,rfl⟩;have hXl:=wtext_len D n;rw[<-hX] at hXl
 have e0:wread D n W=if (rUint wTop (X,0)).2.2≠0 then (W,true,true)
  else if (W.follows n (rUint wTop (X,0)).1).2=false then ((W.follows n (rUint wTop (X,0)).1).1,false,false)
  else ({ (W.follows n (rUint wTop (X,0)).1).1 with recs:=(W.follows n (rUint wTop (X,0)).1).1.recs++wrecs (X.length+1) (rUint wTop (X,0)).2 },true,false):=by rw[hX];rfl
 rw[e0];clear e0;refine entA Tryz.func112 ?_;refine cl 2 I (Ct.at 7 I (textC db D c oD hc hd n hn)) ?_;rintro v15 K15 hs15 ⟨dh,rfl,rfl,le,ao,k,rfl,xX⟩;rw[<-hX] at xX ⊢;refine cl 0 I (readC ao k X (.inl I) xX qo) ?_;rintro v16 K16 hs16 ⟨rfl,rb,rd,hbb,rfl,rfl,ir⟩;refine WL.perm (List.Perm.swap _ _ _) (WL.frz fun K1 l1 l2=>?_)
 replace ir:=ir.up l2
 refine WL.perm (hs':=[_,_,_,_,_]++(rd::_::_::_::hs)) (List.perm_middle (l₁:=[_,_,_,_,_])).symm ?_;have le1:=le.trans l1;have hW1:WalM K1 wb db W [pt wb (wlA db ob W.first (.slice aL W.recs.length cL) (.slice aO W.old.length cO) W.next W.code) 192,oH,rH,gL,gO]:=hW.le le1;refine au ?_;refine cl 1 I (Ct.at 5 I (uintC (.inl I) wTop (X,0) (by dsimp only;omega) ir)) ?_;rintro v18 K18 hs18 ⟨rd2,rfl,rfl,rfl,ir2⟩;obtain ⟨U,hU⟩:∃ U,U=rUint wTop (X,0):=⟨_,rfl⟩;have hUl:=(rUint_bd wTop X 0).2;have hU0:U.2.2=0->U.1<=wTop:=by rw[hU];exact fun h=>(rUint_ok h).2
 rw[<-hU] at ir2 hUl ⊢;refine au ?_;refine cl 1 I (Ct.keep 5 I (errC rb U.2 ir2)) ?_;rintro v20 K20 hs20 ⟨rfl,rfl,rfl⟩;refine cmpS 0 I fun b21 h21=>fin 0 I (th (ifP h21 I (fun e2=>?_) (fun e2=>?_)))
 ·rw[if_pos e2];refine sq (rg (fin 2 I (th (rt (rT (WQ.del 5 I ?_))))));exact ret2 I I I ⟨le1,[_,_,_,_,_],I,hW1,I⟩
 ·have e2:=Decidable.not_not.1 e2;have hUt:=hU0 e2;rw[if_neg (by rw[e2];simp)];refine au ?_;refine cl 2 I (open1C wb db b8 b12 W hW1 hb qo hol n U.1 hUt) ?_;rintro v24 K24 hs24 ⟨rfl,m2,rfl,hW2,rfl⟩;obtain ⟨V,hV⟩:∃ V,V=W.follows n U.1:=⟨_,rfl⟩
  have hVr:V.1.recs.length<=W.recs.length:=by
   grind [Wl.follows]
  rw[<-hV] at hW2 ⊢;refine nmS fun b24 h24=>cbS 0 _ I (bnot h24) fun b25 h25=>fin 0 I (th (ifP h25 I (fun e3=>?_) (fun e3=>?_)))
  ·have e3:V.2=false:=by simp_all
   rw[if_pos e3];obtain ⟨ob2,aL2,cL2,aO2,cO2,oH2,rH2,gL2,gO2,rfl,_⟩:=id hW2;refine sq (rg (fin 2 I (th (rt (rT (WQ.del 5 I ?_))))));exact ret2 I I I ⟨le1,[_,_,_,_,_],I,hW2,I⟩
  ·have e3:V.2=true:=Decidable.not_not.1 e3;rw[if_neg (by rw[e3];simp)];refine sk (th (bk ?_))
   refine loop (σ:=(Wl×Rd×Nat)×(List PH×PH)×PH) (fun _=>[(3,.func (.func 115) #[] #[.pointer (some ⟨b8,0,none⟩)]),(10,.pointer (some ⟨rb,0,none⟩))]) (fun s=>s.2.2) (fun s=>s.2.1.1++(s.2.1.2::pt b12 #[.int .u64 (n:Nat)] 29::pt b8 #[.pointer (some ⟨wb,0,none⟩)] 116::dh::hs))
    (fun s=>{ s.1.1 with recs:=s.1.1.recs++wrecs s.1.2.2 s.1.2.1 }={ V.1 with recs:=V.1.recs++wrecs (X.length+1) U.2 }/\s.1.2.1.1.length<s.1.2.2/\s.1.2.1.2=0/\s.1.1.recs.length+s.1.2.1.1.length<=999000000000/\s.1.2.1.1.length<=4128831/\Le K s.2.2/\WalM s.2.2 wb db s.1.1 s.2.1.1/\IsRd rb s.2.2 s.1.2.1 s.2.1.2) (fun s=>s.1.2.2)
    ((V.1,U.2,X.length+1),(m2,rd2),K24) ⟨rfl,by dsimp only;omega,e2,by dsimp only;omega,by dsimp only;omega,le1,hW2,ir2⟩ ⟨rfl,rfl,trivial⟩ rfl rfl ?_
   clear hW2 hVr;clear m2;rintro ⟨⟨Y,⟨rs,re⟩,f⟩,⟨m2,rd3⟩,K2⟩ ⟨hw,hlf,rfl,hbd,hrs,le2,hW2,ir3⟩;dsimp only at *;obtain ⟨f,rfl⟩:∃ g,f=g+1:=⟨f-1,by omega⟩;rw[wrecs_step] at hw;obtain ⟨G,hG⟩:∃ G,G=rBytes 512 (rs,0):=⟨_,rfl⟩;have hGd:G.2.2=0->G.2.1.length<rs.length:=by rw[hG];exact fun h=>(rBytes_dec h).1
   rw[<-hG] at hw;obtain ⟨ob2,aL2,cL2,aO2,cO2,oH2,rH2,gL2,gO2,rfl,hop2,hL2,hO2⟩:=id hW2;refine bk (sq (rg (cl 1 I (Ct.atN 5 I (bytesC (.inl I) 512 (by decide) (rs,0) (by dsimp only;omega) ir3)) ?_)));rintro v27 K27 hs27 ⟨rd4,_,rfl,rfl,hx,ao',c',rfl,rfl,ox,ir4⟩;rw[<-hG] at ox ir4 ⊢;refine WL.frz fun K3 l3 l4=>au ?_;refine cl 1 I (Ct.keep 5 I (errC rb G.2 (ir4.up l3))) ?_;rintro v29 K29 hs29 ⟨rfl,rfl,rfl⟩;refine cmpS 0 I fun b30 h30=>fin 0 I (th (ifP h30 I (fun e5=>?_) (fun e5=>?_)))
   ·rw[if_neg e5,List.append_nil] at hw;refine sq (rg (fin 2 I (th (rt (rT (rB (rT (rB (WQ.del 5 I ?_)))))))));rw[<-hw];exact ret2 I I I ⟨le2.trans l3,[_,_,_,_,_],I,hW2.le l3,I⟩
   ·have e5:=Decidable.not_not.1 e5;have hgd:=hGd e5;rw[if_pos e5] at hw;refine sk (th (rg ?_));have hW3:WalM K29 wb db Y [pt wb (wlA db ob2 Y.first (.slice aL2 Y.recs.length cL2) (.slice aO2 Y.old.length cO2) Y.next Y.code) 192,oH2,rH2,gL2,gO2]:=hW2.le l3;refine cl 2 I (open2C wb db b8 Y hW3 qo G.1 ao' c' (ox.isS.le l4)) ?_;rintro v33 K33 hs33 ⟨rfl,m5,rfl,hW5⟩;refine fin 0 I (bl ?_);refine again (x:=((Y,(rs,0),f+1),(m5,rd4),K33)) (({ Y with recs:=Y.recs++[G.1] },G.2,f),(m5,rd4),K33) ⟨I,I,trivial⟩ I I ⟨by dsimp only;rw[List.append_assoc];exact hw,by dsimp only;omega,e5,by grind,by dsimp only;omega,le2.trans l3,hW5,ir4.up l3⟩ (by dsimp only;omega)
theorem numbersC{w0:World}{K dh x:PH}{m hs:List PH}(wb db:Nat)(W:Wl)(hW:WalM K wb db W m)(D:Dk)(c:Nat)(oD:DOk c D)(hc:c<=1000000000)(hd:DskH K db D dh)(h0:W.next=0):
  Ct Tryz.prog w0 111 [.pointer (some ⟨wb,0,none⟩)] K (m++(x::dh::hs))
   (fun v K' hs'=>Le K K'/\∃ m',hs'=m'++(x::dh::hs)/\WalM K' wb db { W with next:=wnext (areasL D) } m'/\∃ ao k,v=.slice ao (wnums (areasL D)).length k/\IsS K' ao (wnums (areasL D)).length k 1 (uvv (wnums (areasL D)))):=by
 obtain ⟨ob,aL,cL,aO,cO,oH,rH,gL,gO,rfl,hop,hL,hO⟩:=hW;obtain ⟨op,first,recs,old,next,code⟩:=W;dsimp only at *;subst h0;have hbd:=areasL_bd oD;have hal:=areasL_len oD;obtain ⟨l,hl⟩:∃ l,l=areasL D:=⟨_,rfl⟩;rw[<-hl] at hbd hal ⊢;refine entA Tryz.func111 ?_;refine cl 0 I (Ct.at 6 I (areasH db D c oD qo hd)) ?_;rintro v10 K10 hs10 ⟨dh,rfl,rfl,le,ao,cc,rfl,xA⟩;rw[<-hl] at xA ⊢;refine fin 2 I (th (bk (WC.em ?_)))
 refine loop (σ:=Nat×(Option Addr×Nat×PH)) (fun s=>[(0,.pointer (some ⟨wb,0,none⟩)),(3,.slice s.2.1 (wnums (l.take s.1)).length s.2.2.1),(10,.slice ao l.length cc),(11,.int .i64 l.length),(12,.int .i64 s.1)]) (fun _=>K10)
  (fun s=>s.2.2.2::pt wb (wlA db ob first (.slice aL recs.length cL) (.slice aO old.length cO) (wnext (l.take s.1)) code) 192::oH::rH::gL::gO::x::dh::hs)
  (fun s=>s.1<=l.length/\Own s.2.2.2 s.2.1 (wnums (l.take s.1)).length s.2.2.1 29 1 (uvv (wnums (l.take s.1)))) (fun s=>l.length-s.1) (0,(none,0,em)) ⟨Nat.zero_le _,Own.nil _ _⟩ ⟨rfl,rfl,rfl,rfl,rfl,trivial⟩ rfl rfl ?_
 rintro ⟨j,⟨an,cn,gn⟩⟩ ⟨hj,o⟩;dsimp only at *;refine sq (rg (cmpS 0 I fun b13 h13=>au ?_));refine ifP h13 I (fun e2=>?_) (fun e2=>?_)
 ·have hjl:j<l.length:=by omega
  obtain ⟨a,ha⟩:∃ a,l[j]?=some a:=⟨l[j],List.getElem?_eq_getElem hjl⟩;have hab:=hbd a (List.mem_of_getElem? ha);obtain ⟨n,rfl⟩:=Int.eq_ofNat_of_zero_le hab.1;have htk:l.take (j+1)=l.take j++[((n:Nat):Int)]:=by rw[List.take_add_one,ha];rfl
  have hnl:=wnums_len (l.take j);rw[List.length_take] at hnl;refine au ?_;refine ix1 0 j I I I xA (ivu_get ha) fun a14 hc14=>ld 0 I (.inl I) hc14 (au ?_);refine ar 1 I (u_rem .u64 n 4) (cmpS 0 I fun b18 h18=>fin 0 I (th (ifP h18 I (fun e4=>?_) (fun e4=>?_))))
  ·have en:wnums [((n:Nat):Int)]=[n / 4]:=by
    simp_all [wnums]
   have en1:wnums (l.take (j+1))=wnums (l.take j)++[n / 4]:=by rw[htk,wnums_app,en]
   have en2:wnext (l.take (j+1))=n / 4+1:=by rw[htk,wnext_snoc,if_pos qo];rfl
   refine sq (rg (ar 2 I (u64quo n 4 qo) (lit 0 #[.int .u64 (n / 4:Nat)] I (by decide) qk fun b22=>app 0 1 I I o (.inr ⟨0,I⟩) (Own.ofPt (n:=1) (size:=1) I (by decide)).isS I (by decide) (by simp[Value.oneCell']) (by grind) (by simp only[maxLen];omega) fun ao23 c23 g23 o23=>au ?_)));refine ar 2 I (u64quo n 4 qo) (ar 0 I (u64w (x:=((n / 4+1:Nat):Int)) qo) (stp 2 2 I I I I (fin 0 I (bl (th (rg (WL.drop (ar 0 I (i64w (x:=((j+1:Nat):Int)) qo) (fin 1 I (again (x:=(j,(an,cn,gn))) (j+1,(ao23,c23,g23)) ⟨I,?_,I,I,I,trivial⟩ I ?_ ⟨by dsimp only;omega,?_⟩ qo))))))))))
   ·dsimp only;rw[en1,List.length_append];rfl
   ·dsimp only;rw[en2];rfl
   ·dsimp only;rw[en1,List.length_append,uvv_app];exact o23
  ·have en:wnums [((n:Nat):Int)]=[]:=by
    simp_all [wnums]
   have en1:wnums (l.take (j+1))=wnums (l.take j):=by rw[htk,wnums_app,en,List.append_nil]
   have en2:wnext (l.take (j+1))=wnext (l.take j):=by rw[htk,wnext_snoc,if_neg qo]
   refine sk (bl (th (rg (ar 0 I (i64w (x:=((j+1:Nat):Int)) qo) (fin 1 I ?_)))));refine again (x:=(j,(an,cn,gn))) (j+1,(an,cn,gn)) ⟨I,by dsimp only;rw[en1];rfl,rfl,rfl,rfl,trivial⟩ rfl (by dsimp only;rw[en2]) ⟨by dsimp only;omega,by dsimp only;rw[en1];exact o⟩ qo
 ·obtain rfl:j=l.length:=by omega
  rw[List.take_length] at o ⊢;refine ex (xt (xt (xb (th (sq (rg (fin 2 I (th (rt (WQ.frz fun K2 l1 l2=>?_))))))))));exact ret1 I I ⟨le.trans l1,[_,_,_,_,_],I,⟨ob,aL,cL,aO,cO,oH,rH,gL,gO,I,hop,hL.imp fun _ _ h=>h.le (le.trans l1),hO⟩,an,cn,I,o.isS.le l2⟩
theorem containsC{w0:World}{K:PH}{hs:List PH}(ao:Option Addr)(k:Nat)(l:List Nat)(x:IsS K ao l.length k 1 (uvv l))(hl:l.length<=1099511627776)(n:Nat):
  Ct Tryz.prog w0 173 [.slice ao l.length k,.int .u64 (n:Nat)] K hs (fun v K' hs'=>K'=K/\hs'=hs/\∃ t:Bool,v=.bool t/\(t=true↔n∈l)):=by
 have hidx:Ct Tryz.prog w0 228 [.slice ao l.length k,.int .u64 (n:Nat)] K hs (fun v K' hs'=>K'=K/\hs'=hs/\∃ i:Int,v=.int .i64 i/\(0<=i↔n∈l)):=by
  refine entA Tryz.func228 ?_;refine loop (σ:=Nat) (fun j=>[(0,.slice ao l.length k),(1,.int .u64 (n:Nat)),(7,.int .i64 l.length),(8,.int .i64 (j:Nat))]) (fun _=>K) (fun _=>hs) (fun j=>j<=l.length/\n∉l.take j) (fun j=>l.length-j) 0 ⟨Nat.zero_le _,by simp⟩ ⟨I,I,I,I,trivial⟩ I I ?_;rintro j ⟨hj,hno⟩;refine sq (rg (cmp 0 I (fun e2=>?_) (fun e2=>?_)))
  ·refine au ?_;have hjl:j<l.length:=by omega
   obtain ⟨a,ha⟩:∃ a,l[j]?=some a:=⟨l[j],List.getElem?_eq_getElem hjl⟩;refine au ?_;refine ix1 3 j I I I x (uvv_get ha) fun a14 hc14=>ld 0 I (.inl I) hc14 (cmpS 0 I fun b16 h16=>fin 0 I (th (ifP h16 I (fun e4=>?_) (fun e4=>?_))))
   ·refine au ?_;refine ret1 I I ⟨I,I,((j:Nat):Int),I,fun _=>?_,fun _=>by omega⟩
    grind [List.mem_of_getElem?]
   ·refine sk (bl (th (rg (ar 0 I (i64w (x:=((j+1:Nat):Int)) qo) (fin 1 I (again (x:=j) (j+1) ⟨I,I,I,I,trivial⟩ I I ⟨by omega,?_⟩ qo))))));rw[List.take_add_one,ha]
    grind
  ·refine au ?_;rw[List.take_of_length_le qo] at hno;refine au ?_;exact ret1 I I ⟨I,I,-1,I,fun h=>absurd h (by decide),fun h=>absurd h hno⟩
 refine entA Tryz.func173 ?_;refine cl 2 I hidx ?_;rintro v7 K7 hs7 ⟨rfl,rfl,i,rfl,hi⟩;refine cmpS 0 I fun b8 h8=>au ?_;exact ret1 I I ⟨I,I,b8,I,h8.trans hi⟩
theorem settleC{w0:World}{K dh x:PH}{m hs:List PH}(wb db:Nat)(W:Wl)(hW:WalM K wb db W m)(D:Dk)(c:Nat)(oD:DOk c D)(hc:c<=499000000)(hd:DskH K db D dh)(l g:List Nat)(al:Option Addr)(kl:Nat)(xl:IsS K al l.length kl 1 (uvv l))(ag:Option Addr)(kg:Nat)(xg:IsS K ag g.length kg 1 (uvv g))(hll:l.length<=c)(hgl:g.length<=c)(hbd:∀ n∈l,n<=2305843009213693952):
  Ct Tryz.prog w0 116 [.pointer (some ⟨wb,0,none⟩),.slice al l.length kl,.slice ag g.length kg] K (m++(x::dh::hs))
   (fun v K' hs'=>K'=K/\∃ dh',hs'=m++(x::dh'::hs)/\DskH K db (wsettle g l D).1 dh'/\v=.int .i64 (wsettle g l D).2):=by
 obtain ⟨ob,aL,cL,aO,cO,oH,rH,gL,gO,rfl,hop,hL,hO⟩:=hW;obtain ⟨R,hR⟩:∃ R,R=wsettle g l D:=⟨_,rfl⟩;rw[<-hR];obtain ⟨S,hS⟩:∃ S,S=wlA db ob W.first (.slice aL W.recs.length cL) (.slice aO W.old.length cO) W.next W.code:=⟨_,rfl⟩
 have hS1:S[1]?=some (.pointer (some ⟨db,0,none⟩)):=by rw[hS];rfl
 rw[<-hS];refine entA Tryz.func116 ?_
 refine loop (σ:=Nat×Dk×PH) (fun s=>[(0,.pointer (some ⟨wb,0,none⟩)),(2,.slice ag g.length kg),(10,.slice al l.length kl),(11,.int .i64 l.length),(12,.int .i64 s.1)]) (fun _=>K)
  (fun s=>pt wb S 192::oH::rH::gL::gO::x::s.2.2::hs)
  (fun s=>s.1<=l.length/\wsettle g (l.drop s.1) s.2.1=R/\DOk (c+s.1) s.2.1/\DskH K db s.2.1 s.2.2) (fun s=>l.length-s.1) (0,D,dh) ⟨Nat.zero_le _,hR.symm,oD,hd⟩ ⟨rfl,rfl,rfl,rfl,rfl,trivial⟩ rfl rfl ?_
 rintro ⟨j,E,eh⟩ ⟨hj,hw,oE,hE⟩;dsimp only at *;refine sq (rg (cmp 0 I (fun e2=>?_) (fun e2=>?_)))
 ·refine au ?_;have hjl:j<l.length:=by omega
  obtain ⟨n,ha⟩:∃ a,l[j]?=some a:=⟨l[j],List.getElem?_eq_getElem hjl⟩;have hnb:=hbd n (List.mem_of_getElem? ha);rw[List.drop_eq_getElem_cons hjl,show l[j]=n from by simp_all,wsettle_step] at hw;refine au ?_;refine ix1 0 j I I I xl (uvv_get ha) fun a14 hc14=>ld 0 I (.inl I) hc14 (fin 1 I (th (sq (rg (fin 1 I (th ?_))))))
  refine jn (σ:=PH) (fun _=>[(0,.pointer (some ⟨wb,0,none⟩)),(2,.slice ag g.length kg),(9,.int .i64 (wset1 E g n).2),(10,.slice al l.length kl),(11,.int .i64 l.length),(12,.int .i64 (j:Nat))])
   (fun s=>pt wb S 192::oH::rH::gL::gO::x::s::hs) (fun s=>DskH K db (wset1 E g n).1 s) ?_ ?_
  ·refine sq (rg (cl 2 I (containsC ag kg g xg qo n) ?_));rintro v18 K18 hs18 ⟨rfl,rfl,t18,rfl,h18⟩;refine fin 0 I (th (ifP h18 I (fun e3=>?_) (fun e3=>?_)))
   ·have e:wset1 E g n=E.free (segA n):=by unfold wset1;rw[if_pos e3]
    rw[e];refine rga [pt wb S 192] 8 [0,2,4,6,8,11,13,14] (by simp) qk qk (dldp qk 3 0 I I hS1 (au ?_));refine cl 0 I (areaC n hnb) ?_;rintro v24 K24 hs24 ⟨rfl,rfl,rfl⟩;refine dnx (by simp) I (dact qk 0 I (cl 0 I (Ct.at 6 I (freeH db E _ oE.ok qo hE (segA n))) ?_));rintro v25 K25 hs25 ⟨eh2,rfl,rfl,hE2,rfl⟩;exact dnx (by simp) I (dend qk 1 I (jx eh2 hE2 ⟨I,I,I,I,I,I,trivial⟩ I I))
   ·have e:wset1 E g n=E.sync (segA n):=by unfold wset1;rw[if_neg e3]
    rw[e];refine rga [pt wb S 192] 8 [0,2,4,6,8,11,13,14] (by simp) qk qk (dldp qk 3 0 I I hS1 (au ?_));refine cl 0 I (areaC n hnb) ?_;rintro v24 K24 hs24 ⟨rfl,rfl,rfl⟩;refine dnx (by simp) I (dact qk 0 I (cl 0 I (Ct.at 6 I (syncH db E _ oE.ok qo hE (segA n))) ?_));rintro v25 K25 hs25 ⟨eh2,rfl,rfl,hE2,rfl⟩;exact dnx (by simp) I (dend qk 1 I (jx eh2 hE2 ⟨I,I,I,I,I,I,trivial⟩ I I))
  ·rintro eh2 hE2;refine sq (rg (cmpS 1 I fun b34 h34=>fin 0 I (th (ifP h34 I (fun e5=>?_) (fun e5=>?_)))))
   ·rw[if_neg e5] at hw;refine au ?_;rw[<-hw];exact ret1 I I ⟨I,eh2,I,hE2,I⟩
   ·rw[if_pos (Decidable.not_not.1 e5)] at hw;exact sk (bl (th (rg (ar 0 I (i64w (x:=((j+1:Nat):Int)) qo) (fin 1 I (again (x:=(j,E,eh)) (j+1,(wset1 E g n).1,eh2) ⟨I,I,I,I,I,trivial⟩ I I ⟨by dsimp only;omega,hw,(oE.set1 g n).up qo,hE2⟩ (by dsimp only;omega)))))))
 ·refine au ?_;obtain rfl:j=l.length:=by omega
  rw[List.drop_length] at hw;have hw:(E,(0:Int))=R:=hw;rw[<-hw];refine au ?_;exact ret1 I I ⟨I,eh,I,hE,I⟩
end
section
theorem wtx_run(D:Dk)(num:Nat):∀ (f n:Nat),∃ m,(wtx D num f n).length<=63*m/\∀ i,i<m->(((n+i:Nat):Int))∈(D.ar (segA num)).map (·.1)
 | 0,n=>⟨0,by simp[wtx],fun i h=>by omega⟩
 | f+1,n=>by
  obtain ⟨m,h1,h2⟩:=wtx_run D num f (n+1);rw[wtx_step];cases hr:D.read (segA num) n with
  | none=>exact ⟨0,by simp,fun i h=>by omega⟩
  | some s=>
   refine ⟨m+1,?_,fun i hi=>?_⟩
   ·have:usedB s<=63:=by unfold usedB;omega
    dsimp only;rw[List.length_append,List.length_take]
    grind
   ·by_cases e:i=0
    ·subst e;unfold Dk.read Dk.sec at hr;cases hg:mget ((n:Nat):Int) (D.ar (segA num)) with
     | none=>rw[hg] at hr;cases hr
     | some x=>exact List.mem_map.2 ⟨_,mget_mem hg,rfl⟩
    ·have:=h2 (i-1) qo
     grind
theorem wtext_ar{c:Nat}{D:Dk}(o:D.Ok c)(num:Nat):(wtext D num).length<=63*(D.ar (segA num)).length:=by
 obtain ⟨m,h1,h2⟩:=wtx_run D num 65537 0
 have hm:m<=(D.ar (segA num)).length:=by
  have hnd:((List.range m).map fun i=>((i:Nat):Int)).Nodup:=by
   rw[List.nodup_iff_pairwise_ne,List.pairwise_map];exact (List.nodup_iff_pairwise_ne.1 List.nodup_range).imp fun h e=>h qo
  have:=hnd.length_le_of_subset (l₂:=(D.ar (segA num)).map (·.1)) (fun x hx=>by
   grind)
  simpa using this
 grind [wtext]
def sumK(m:List (Int×Ar))(ks:List Int):Nat:=(ks.map fun k=>((mget k m).getD []).length).sum
theorem sumK_cons(k0:Int)(u:Ar)(m:List (Int×Ar)):∀ ks:List Int,ks.Nodup->sumK ((k0,u)::m) ks<=(if k0∈ks then u.length else 0)+sumK m ks
 | [],_=>by simp[sumK]
 | k::ks,h=>by
  simp only[List.nodup_cons] at h;have ih:=sumK_cons k0 u m ks h.2;have e0:∀ mm,sumK mm (k::ks)=((mget k mm).getD []).length+sumK mm ks:=fun mm=>rfl;have e1:mget k ((k0,u)::m)=if k=k0 then some u else mget k m:=rfl
  grind
theorem sumK_le:∀ (m:List (Int×Ar)) (ks:List Int),ks.Nodup->sumK m ks<=totA m
 | [],ks,_=>by
  have:∀ ks:List Int,sumK [] ks=0:=fun ks=>by
   induction ks with
   | nil=>rfl
   | cons k ks ih=>
    have e0:sumK [] (k::ks)=0+sumK [] ks:=rfl;rw[e0,ih]
  rw[this];omega
 | (k0,u)::m,ks,h=>by
  have h1:=sumK_cons k0 u m ks h;have h2:=sumK_le m ks h;have h3:totA ((k0,u)::m)=u.length+totA m:=by simp[totA]
  rw[h3]
  split at h1 <;> omega
def sumSeg(D:Dk)(l:List Nat):Nat:=(l.map fun n=>(D.ar (segA n)).length).sum
theorem sumSeg_eq(D:Dk)(l:List Nat):sumSeg D l=sumK D.areas (l.map segA):=by
 unfold sumSeg sumK;rw[List.map_map]
 rfl
theorem segA_inj{a b:Nat}(h:segA a=segA b):a=b:=by unfold segA at h;omega
theorem sumSeg_le{D:Dk}{l:List Nat}(h:l.Nodup):sumSeg D l<=totA D.areas:=by
 rw[sumSeg_eq];refine sumK_le _ _ ?_;rw[List.nodup_iff_pairwise_ne,List.pairwise_map];exact (List.nodup_iff_pairwise_ne.1 h).imp fun h e=>h (segA_inj e)
theorem sumSeg_app(D:Dk)(a b:List Nat):sumSeg D (a++b)=sumSeg D a+sumSeg D b:=by simp[sumSeg]
theorem areasL_nodup{c:Nat}{D:Dk}(o:D.Ok c):(areasL D).Nodup:=(srtI_perm _).symm.nodup o.keys
theorem wnums_nodup{l:List Int}(h:l.Nodup)(h0:∀ k∈l,0<=k):(wnums l).Nodup:=by
 unfold wnums;rw[List.nodup_iff_pairwise_ne,List.pairwise_map];have h1:=(List.nodup_iff_pairwise_ne.1 h).filter (fun a=>decide (a % 4=1));refine List.Pairwise.imp_of_mem ?_ h1
 grind
theorem wnums_mem{l:List Int}{n:Nat}(h:n∈wnums l):∃ a∈l,a % 4=1/\a.toNat / 4=n:=by
 unfold wnums at h
 grind
theorem last_lt:∀ (l:List Nat) (z:Nat),l.Pairwise (· <= ·)->(∀ n∈l,n<l.foldl (fun _ n=>n+1) z)/\∀ y,(∀ n∈l,y<=n)->y<z->y<l.foldl (fun _ n=>n+1) z
 | [],z,_=>⟨fun n h=>by simp at h,fun y _ h=>h⟩
 | a::t,z,h=>by
  have h1:=List.pairwise_cons.1 h;obtain ⟨g1,g2⟩:=last_lt t (a+1) h1.2
  grind
theorem wnums_lt{l:List Int}(h:l.Pairwise (· <= ·)):∀ n∈wnums l,n<wnext l:=by
 refine (last_lt (wnums l) 0 ?_).1;unfold wnums;rw[List.pairwise_map];refine (h.filter _).imp fun {a b} hab=>?_;omega
structure SInv (D:Dk) (mx:Nat) (don:List Nat) (W:Wl):Prop where
 op:W.op=none
 code:W.code=0
 next:W.next=mx
 recs:W.recs.length<=63*sumSeg D don
 last:W.first+W.recs.length<=wTop
 old:W.old.length<=don.length
 olds:∀ s∈W.old,s.1∈don/\s.2<=wTop
 recl:∀ r∈W.recs,r.length<=512
theorem follows_facts(W:Wl)(n idx:Nat):(W.follows n idx).1.recs.length<=W.recs.length/\(∀ r∈(W.follows n idx).1.recs,r∈W.recs)/\(W.follows n idx).1.op=W.op/\(W.follows n idx).1.code=W.code/\(W.follows n idx).1.next=W.next /\
  (W.follows n idx).1.old.length<=W.old.length+1/\∀ s∈(W.follows n idx).1.old,s∈W.old\/s=(n,idx):=by
 unfold Wl.follows
 grind
theorem wrecs_len:∀ (f:Nat) (r:Rd),r.2=0->(wrecs f r).length<=r.1.length/\∀ x∈wrecs f r,x.length<=512
 | 0,r,_=>⟨by simp[wrecs],by simp[wrecs]⟩
 | f+1,(b,e),he=>by
  have he:e=0:=he;subst he;rw[wrecs_step]
  split
  ·rename_i h;obtain ⟨g1,g2⟩:=rBytes_dec h;obtain ⟨g3,g4⟩:=wrecs_len f (rBytes 512 (b,0)).2 h
   grind
  simp
theorem SInv.step{c:Nat}{D:Dk}(o:D.Ok c){mx fr n:Nat}{don:List Nat}{W:Wl}(h:SInv D mx don W)(hchk:(wstep D fr n W).1.first+(wstep D fr n W).1.recs.length<=wTop):SInv D mx (don++[n]) (wstep D fr n W).1:=by
 have hsum:=sumSeg_app D don [n];have hs1:sumSeg D [n]=(D.ar (segA n)).length:=by simp[sumSeg]
 have keep:SInv D mx (don++[n]) W:=⟨h.op,h.code,h.next,by have:=h.recs;omega,h.last,by have:=h.old;simp;omega,fun s hs=>⟨by simp[(h.olds s hs).1],(h.olds s hs).2⟩,h.recl⟩;unfold wstep at hchk ⊢
 split
 ·exact keep
 ·rename_i hfr;rw[if_neg hfr] at hchk;have hx:=wtext_ar o n;unfold wread at hchk ⊢
  split
  ·exact keep
  ·rename_i h1;rw[if_neg h1] at hchk;have h1:=Decidable.not_not.1 h1;have hU:=(rUint_ok h1).2;have hUl:=(rUint_bd wTop (wtext D n) 0).2;obtain ⟨f1,f2,f3,f4,f5,f6,f7⟩:=follows_facts W n (rUint wTop (wtext D n,0)).1
   have holds:∀ s∈(W.follows n (rUint wTop (wtext D n,0)).1).1.old,s.1∈don++[n]/\s.2<=wTop:=fun s hs=>by
    rcases f7 s hs with g|rfl
    ·exact ⟨by simp[(h.olds s g).1],(h.olds s g).2⟩
    ·exact ⟨by simp,hU⟩
   split
   ·rename_i h2;rw[if_pos h2] at hchk;exact ⟨f3.trans h.op,f4.trans h.code,f5.trans h.next,by have:=h.recs;dsimp only;omega,hchk,by have:=h.old;grind,holds,fun r hr=>h.recl r (f2 r hr)⟩
   ·rename_i h2;rw[if_neg h2] at hchk;obtain ⟨g1,g2⟩:=wrecs_len ((wtext D n).length+1) (rUint wTop (wtext D n,0)).2 h1;refine ⟨f3.trans h.op,f4.trans h.code,f5.trans h.next,?_,hchk,?_,holds,?_⟩
    ·have:=h.recs
     grind
    ·have:=h.old;grind
    ·intro r hr;rcases List.mem_append.1 hr with hr|hr
     ·exact h.recl r<|f2 r hr
     ·exact g2 r hr
theorem SInv.scan{c:Nat}{D:Dk}(o:D.Ok c){mx fr:Nat}:∀ (l don:List Nat) (W:Wl) (g:List Nat),SInv D mx don W->(wscan D fr l W g).2.2=true->SInv D mx (don++l) (wscan D fr l W g).1
 | [],don,W,g,h,_=>by simpa[wscan] using h
 | n::r,don,W,g,h,hok=>by
  unfold wscan at hok ⊢
  split
  ·simp_all
  ·rename_i h1;rw[if_neg h1] at hok;have hs:=SInv.step o h (fr:=fr) (n:=n) qo;have:=SInv.scan o r (don++[n]) _ _ hs hok
   rwa [List.append_assoc] at this
theorem WBd.opened{c:Nat}{D:Dk}(o:DOk c D){fr first:Nat}{W:Wl}{E:Dk}(h:wOpen D fr first=(some W,E,0)):WBd c W/\W.op=none/\W.code=0/\W.old.length<=c:=by
 unfold wOpen at h
 split at h
 ·cases h
 ·split at h
  ·cases h
  ·rename_i h1
   split at h
   ·cases h
   ·rename_i h2
    split at h
    ·cases h
    ·rename_i h3
     split at h
     ·cases h
     ·simp only[Prod.mk.injEq,Option.some.injEq] at h;obtain ⟨rfl,_⟩:=h
      have h3:(wscan D fr (wnums (areasL D)) (wl0 fr first (areasL D)) []).2.2=true:=by
       simp_all
      have h0:SInv D (wl0 fr first (areasL D)).next [] (wl0 fr first (areasL D)):=⟨rfl,rfl,rfl,by simp[wl0],by simp[wl0];omega,by simp[wl0],by simp[wl0],by simp[wl0]⟩;have hS:=SInv.scan o.ok _ _ _ _ h0 h3;rw[List.nil_append] at hS;have hnd:=wnums_nodup (areasL_nodup o.ok) (fun k hk=>(areasL_bd o k hk).1);have hsum:=sumSeg_le (D:=D) hnd;have hcap:=o.cap;have hroom:=o.ok.room;have hlen:=areasL_len o;have hnl:=wnums_len (areasL D);have hol:=hS.old;have hre:=hS.recs;have hnx:=hS.next;refine ⟨⟨hS.last,by omega,by omega,by omega,fun q hq=>(by rw[hS.op] at hq;cases hq),fun q hq=>(by rw[hS.op] at hq;cases hq),fun s hs=>?_,hS.recl⟩,hS.op,hS.code,by omega⟩;obtain ⟨g1,g2⟩:=hS.olds s hs;have:=wnums_lt (l:=areasL D) (srtI_srt _) s.1 g1
      grind [wl0]
theorem DOk.opened{c:Nat}{D:Dk}(o:DOk c D)(fr first:Nat):DOk (c+D.areas.length) (wOpen D fr first).2.1:=by
 have hs:=DOk.settle (wnums (areasL D)) (wscan D fr (wnums (areasL D)) (wl0 fr first (areasL D)) []).2.1 D c o;have hlen:(areasL D).length=D.areas.length:=by unfold areasL;rw[(srtI_perm _).length_eq,List.length_map]
 have hnl:=wnums_len (areasL D);have hs:=hs.up (d:=c+D.areas.length) qo;unfold wOpen
 split
 ·exact o.up qo
 ·split
  ·exact o.up qo
  ·split
   ·exact o.up qo
   ·split
    ·exact o.up qo
    grind
end
section
theorem wscan_step(D:Dk)(fr n:Nat)(r:List Nat)(W:Wl)(g:List Nat):wscan D fr (n::r) W g =
  if (wstep D fr n W).2.1=false\/wTop<(wstep D fr n W).1.first+(wstep D fr n W).1.recs.length then ((wstep D fr n W).1,if (wstep D fr n W).2.2 then g++[n] else g,false)
  else wscan D fr r (wstep D fr n W).1 (if (wstep D fr n W).2.2 then g++[n] else g):=rfl
theorem wstep_bd{D:Dk}{fr n:Nat}{W:Wl}(h:W.first<=wTop):(wstep D fr n W).1.first<=wTop/\(wstep D fr n W).1.recs.length<=W.recs.length+4128831:=by
 unfold wstep
 split
 ·exact ⟨h,Nat.le_add_right _ _⟩
 ·unfold wread
  split
  ·exact ⟨h,Nat.le_add_right _ _⟩
  ·rename_i h1;have h1:=Decidable.not_not.1 h1;have hU:=(rUint_ok h1).2
   grind [wtext_len,wrecs_len,rUint,Wl.follows]
attribute [local irreducible] Code.wp wpList Calls
theorem openWC{w0:World}{K dh:PH}{hs:List PH}(db:Nat)(D:Dk)(c:Nat)(oD:DOk c D)(hc:c<=400000000)(hd:DskH K db D dh)(fr first:Nat)(hfr:fr<18446744073709551616)(hfi:first<18446744073709551616):
  Ct Tryz.prog w0 59 [.pointer (some ⟨db,0,none⟩),.int .u64 (fr:Nat),.int .u64 (first:Nat)] K (dh::hs)
   (fun v K' hs'=>Le K K'/\∃ m' dh',hs'=m'++(dh'::hs)/\DskH K' db (wOpen D fr first).2.1 dh'/\match (wOpen D fr first).1 with
    | none=>m'=[]/\v=.tuple #[.pointer none,.int .i64 (wOpen D fr first).2.2]
    | some W=>∃ wb,WalM K' wb db W m'/\v=.tuple #[.pointer (some ⟨wb,0,none⟩),.int .i64 (wOpen D fr first).2.2]):=by
 have hbd:=areasL_bd oD;have hal:=areasL_len oD;have hnl:=wnums_len (areasL D);have hsrt:(areasL D).Pairwise (· <= ·):=srtI_srt _;have hlt:=wnums_lt hsrt;have hnd:=wnums_nodup (areasL_nodup oD.ok) (fun k hk=>(hbd k hk).1);have htot:=oD.cap;have hroom:=oD.ok.room
 have hn0:∀ n∈wnums (areasL D),n<18446744073709551616:=fun n hn=>by
  obtain ⟨a,ha,_,rfl⟩:=wnums_mem hn;have:=hbd a ha;omega
 have hnx0:wnext (areasL D)<18446744073709551617:=by
  unfold wnext;rcases List.eq_nil_or_concat (wnums (areasL D)) with h|⟨l',b,h⟩
  all_goals grind
 obtain ⟨R,hR⟩:∃ R,R=wOpen D fr first:=⟨_,rfl⟩
 rw[<-hR];refine entA Tryz.func59 ?_;refine cl 1 I (deadH db D hd) ?_;rintro v17 K17 hs17 ⟨rfl,rfl,rfl⟩;unfold wOpen at hR;cases hdead:D.dead with
 | true=>
  rw[if_pos hdead] at hR;refine au ?_;rw[hR];exact ret2 I I I ⟨Le.refl _,[],dh,I,hd,I,I⟩
 | false=>
  rw[if_neg (by rw[hdead];simp)] at hR;refine au ?_;refine cmpS 1 I fun b19 h19=>fin 0 I (th (ifP h19 I (fun e3=>?_) (fun e3=>?_)))
  ·rw[if_pos (by unfold wTop;omega)] at hR;refine au ?_;rw[hR];exact ret2 I I I ⟨Le.refl _,[],dh,I,hd,I,I⟩
  ·have hft:first<=wTop:=by unfold wTop;omega
   rw[if_neg qo] at hR;refine sk (th (WC.em (WC.perm (List.Perm.swap _ _ _) (WC.em (WC.em (WC.em (WC.em (sq (rg (bd 2 (.agg (wlA db none first (.slice none 0 0) (.slice none 0 0) 0 0)) I (fun w=>by kernel_rfl) (bx 0 I fun wb=>al 0 (.pointer none) I qk fun b8=>stp 0 0 I I I I ?_)))))))))));refine WL.perm (hs':=[_,_,_,_,_]++(_::dh::em::hs)) (List.perm_middle (l₁:=[_,_,_,_,_])).symm ?_
   have hW0:WalM K17 wb db ⟨none,first,[],[],0,0⟩ [pt wb (wlA db none first (.slice none 0 0) (.slice none 0 0) 0 0) 192,em,em,em,em]:=
    ⟨none,none,0,none,0,em,em,em,em,rfl,⟨rfl,rfl,rfl⟩,SlZ.nil _ _,SlZ.nil _ _⟩
   refine au ?_;refine cl 0 I (numbersC wb db _ hW0 D c oD qo hd I) ?_;rintro v25 K25 hs25 ⟨le,m2,rfl,hW2,an,kn,rfl,xN⟩;obtain ⟨l,hl⟩:∃ l,l=wnums (areasL D):=⟨_,rfl⟩;rw[<-hl] at xN hlt hnd hnl hR hn0 ⊢;obtain ⟨ob,aL,cL,aO,cO,oH,rH,gL,gO,rfl,hop,hL,hO⟩:=hW2;dsimp only at hop hL hO;refine WL.h 0 (pt wb (wlA db ob first (.slice aL 0 cL) (.slice aO 0 cO) (wnext (areasL D)) 0) 192) ?_;refine WL.h 5 (pt b8 #[.pointer (some ⟨wb,0,none⟩)] 116) ?_;refine au ?_;refine rgm [5,0] 9 [0,2,4,6,8,10,12,14,16,19] ?_;refine au ?_;obtain ⟨mx,hmx⟩:∃ mx,mx=max (wnext (areasL D)) fr:=⟨_,rfl⟩;have hmx2:(if ((fr:Nat):Int)>((wnext (areasL D):Nat):Int) then ((fr:Nat):Int) else ((wnext (areasL D):Nat):Int))=((mx:Nat):Int):=by omega
   have hmx3:(wl0 fr first (areasL D)).next=mx:=hmx.symm;have hW0:wl0 fr first (areasL D)=⟨none,first,[],[],mx,0⟩:=by rw[hmx];rfl
   rw[hmx2];refine au ?_;refine cmpS 0 I fun b39 h39=>fin 0 I (th (ifP h39 I (fun e5=>?_) (fun e5=>?_)))
   ·rw[if_pos (by rw[hmx3];unfold wMany;omega)] at hR;refine sq (rg (fin 2 I (th (rt (rT (WQ.del 0 I (WQ.del 0 I (WQ.del 0 I (WQ.del 0 I (WQ.del 0 I (WQ.del 0 I (WQ.del 1 I ?_))))))))))));rw[hR];exact ret2 I I I ⟨le,[],dh,I,hd.le le,I,I⟩
   ·have hmxt:mx<=1152921504606846976:=by omega
    rw[if_neg (by rw[hmx3];unfold wMany;omega)] at hR;have hlm:∀ n∈l,n<=2305843009213693952:=fun n hn=>by have:=hlt n hn;omega
    have hsum:∀ j,sumSeg D (l.take j)<=1073741824:=fun j=>by
     grind [sumSeg_le]
    have hS0:SInv D mx [] ⟨none,first,[],[],mx,0⟩:=⟨rfl,rfl,rfl,by simp,by omega,by simp,by simp,by simp⟩;rw[hW0] at hR;obtain ⟨Z,hZ⟩:∃ Z,Z=wscan D fr l ⟨none,first,[],[],mx,0⟩ []:=⟨_,rfl⟩;rw[<-hZ] at hR
    have hW1:WalM K25 wb db ⟨none,first,[],[],mx,0⟩ [pt wb (wlA db ob first (.slice aL 0 cL) (.slice aO 0 cO) mx 0) 192,oH,rH,gL,gO]:=
     ⟨ob,aL,cL,aO,cO,oH,rH,gL,gO,rfl,hop,hL,hO⟩
    refine au ?_
    refine loop (σ:=(Nat×Wl×List Nat)×(List PH×(Option Addr×Nat×PH))×PH) (fun s=>[(0,.pointer (some ⟨db,0,none⟩)),(1,.int .u64 (fr:Nat)),(8,.pointer (some ⟨b8,0,none⟩)),(9,.slice an l.length kn),(10,.slice s.2.1.2.1 s.1.2.2.length s.2.1.2.2.1),(40,.slice an l.length kn),(41,.int .i64 l.length),(42,.int .i64 s.1.1)]) (fun s=>s.2.2)
     (fun s=>s.2.1.1++(pt b8 #[.pointer (some ⟨wb,0,none⟩)] 116::dh::s.2.1.2.2.2::hs))
     (fun s=>s.1.1<=l.length/\wscan D fr (l.drop s.1.1) s.1.2.1 s.1.2.2=Z/\SInv D mx (l.take s.1.1) s.1.2.1/\s.1.2.2.length<=s.1.1/\Le K25 s.2.2/\WalM s.2.2 wb db s.1.2.1 s.2.1.1/\Own s.2.1.2.2.2 s.2.1.2.1 s.1.2.2.length s.2.1.2.2.1 29 1 (uvv s.1.2.2)) (fun s=>l.length-s.1.1)
     ((0,⟨none,first,[],[],mx,0⟩,[]),([_,_,_,_,_],(none,0,em)),K25) ⟨Nat.zero_le _,hZ.symm,hS0,Nat.le_refl _,Le.refl _,hW1,Own.nil _ _⟩ ⟨rfl,rfl,rfl,rfl,rfl,rfl,rfl,rfl,trivial⟩ rfl rfl ?_
    clear hS0 hW0 hW1 hop hL hO;clear oH rH gL gO;rintro ⟨⟨j,W,g⟩,⟨m,⟨ag,cg,gh⟩⟩,K1⟩ ⟨hj,hw,hS,hgl,le1,hW,og⟩;dsimp only at *;obtain ⟨ob,aL,cL,aO,cO,oH,rH,gL,gO,rfl,hop,hL,hO⟩:=id hW;have hsj:=hsum j;have hr:=hS.recs;have ho:=hS.old;have hla:=hS.last;rw[List.length_take] at ho;refine sq (rg (cmpS 0 I fun b43 h43=>au ?_));refine ifP h43 I (fun e7=>?_) (fun e7=>?_)
    ·have hjl:j<l.length:=by omega
     obtain ⟨n,ha⟩:∃ a,l[j]?=some a:=⟨l[j],List.getElem?_eq_getElem hjl⟩;have hnb:=hlm n (List.mem_of_getElem? ha);have htk:l.take (j+1)=l.take j++[n]:=by rw[List.take_add_one,ha];rfl
     rw[List.drop_eq_getElem_cons hjl,show l[j]=n from by simp_all,wscan_step] at hw;obtain ⟨V,hV⟩:∃ V,V=wstep D fr n W:=⟨_,rfl⟩;have hVb:=wstep_bd (D:=D) (fr:=fr) (n:=n) (W:=W) qo;have hVs:=SInv.step oD.ok hS (fr:=fr) (n:=n);rw[<-hV] at hw hVb hVs;refine au ?_;refine ix1 0 j I I I (xN.le le1) (uvv_get ha) fun a44 hc44=>ld 0 I (.inl I) hc44 (al 0 (.int .u64 0) I qk fun b12=>stp 0 0 I I I I (WL.hs (pt b12 #[.int .u64 (n:Nat)] 29::_) I (au ?_)));refine rgm [0] 5 [0,2,4,6,8] ?_;refine au ?_;refine dcbS qk 1 (n<fr) I (by simp) fun b48 h48=>dend qk 2 I (th ?_);refine WC.perm (hs':=[_,_,_,_,_]++(pt b12 #[.int .u64 (n:Nat)] 29::pt b8 #[.pointer (some ⟨wb,0,none⟩)] 116::dh::gh::hs)) (List.perm_middle (l₁:=[_,_,_,_,_])).symm ?_
     refine jnK (σ:=List PH×PH) (fun _=>[(0,.pointer (some ⟨db,0,none⟩)),(1,.int .u64 (fr:Nat)),(8,.pointer (some ⟨b8,0,none⟩)),(9,.slice an l.length kn),(10,.slice ag g.length cg),(12,.pointer (some ⟨b12,0,none⟩)),(13,.bool V.2.1),(14,.bool V.2.2),(40,.slice an l.length kn),(41,.int .i64 l.length),(42,.int .i64 (j:Nat))]) (fun s=>s.2)
      (fun s=>s.1++(pt b12 #[.int .u64 (n:Nat)] 29::pt b8 #[.pointer (some ⟨wb,0,none⟩)] 116::dh::gh::hs)) (fun s=>Le K1 s.2/\WalM s.2 wb db V.1 s.1) ?_ ?_
     ·refine sq<|rg (cbS 1 _ I (bnot h48) fun b50 h50=>fin 0 I<|th (ifP h50 I (fun e8=>?_) (fun e8=>?_)))
      ·have hVr:V=wread D n W:=by rw[hV];unfold wstep;rw[if_neg e8]
       refine au ?_;refine cl 2 I (readWC wb db b8 b12 W hW hla qo qo D c oD.ok qo (hd.le (le.trans le1)) n hnb) ?_;rintro v56 K56 hs56 ⟨le2,m5,rfl,hW5,rfl⟩;rw[<-hVr] at hW5 ⊢;exact fin 5 I (jxK (m5,K56) ⟨le2,hW5⟩ ⟨I,I,I,I,I,I,I,I,I,I,I,trivial⟩ I I)
      ·have e8:n<fr:=Decidable.not_not.1 e8;have hVr:V=(W,true,true):=by rw[hV];unfold wstep;rw[if_pos e8]
       obtain rfl:b48=true:=h48.2 e8;rw[hVr];refine sk ?_;exact jxK ([_,_,_,_,_],K1) ⟨Le.refl _,hW⟩ ⟨I,I,I,I,I,I,I,I,I,I,I,trivial⟩ I I
     ·clear hW hop hL hO;clear oH rH gL gO;rintro ⟨m,K2⟩ ⟨le2,hW⟩;dsimp only at *;obtain ⟨ob,aL,cL,aO,cO,oH,rH,gL,gO,rfl,hop,hL,hO⟩:=id hW;obtain ⟨g',hg'⟩:∃ g',g'=if V.2.2=true then g++[n] else g:=⟨_,rfl⟩;rw[<-hg'] at hw;have hgl':g'.length<=j+1:=by rw[hg'];split <;> (try simp) <;> omega
      refine jn (σ:=Option Addr×Nat×PH) (fun s=>[(0,.pointer (some ⟨db,0,none⟩)),(1,.int .u64 (fr:Nat)),(8,.pointer (some ⟨b8,0,none⟩)),(9,.slice an l.length kn),(10,.slice s.1 g'.length s.2.1),(13,.bool V.2.1),(40,.slice an l.length kn),(41,.int .i64 l.length),(42,.int .i64 (j:Nat))])
       (fun s=>pt wb (wlA db ob V.1.first (.slice aL V.1.recs.length cL) (.slice aO V.1.old.length cO) V.1.next V.1.code) 192::oH::rH::gL::gO::pt b12 #[.int .u64 (n:Nat)] 29::pt b8 #[.pointer (some ⟨wb,0,none⟩)] 116::dh::s.2.2::hs)
       (fun s=>Own s.2.2 s.1 g'.length s.2.1 29 1 (uvv g')) ?_ ?_
      ·refine sq (rg ?_);cases hv:V.2.2 with
       | true=>
        rw[if_pos hv] at hg';refine au ?_;refine lit 0 #[.int .u64 (n:Nat)] I (by decide) qk fun b62=>app 0 9 I I og (.inr ⟨0,I⟩) (Own.ofPt (n:=1) (size:=1) I (by decide)).isS I (by decide) (by simp[Value.oneCell']) (by show (g.length+1)*8<=_;omega) (by simp only[maxLen];omega) fun ao63 c63 g63 o63=>fin 1 rfl (WQ.drop ?_);refine jx (ao63,c63,g63) (own_of o63 (by rw[hg'];simp) (by rw[hg',uvv_app];rfl)) ⟨rfl,rfl,rfl,rfl,by dsimp only;rw[hg',List.length_append];rfl,rfl,rfl,rfl,rfl,trivial⟩ rfl rfl
       | false=>
        rw[if_neg (by rw[hv];simp)] at hg';refine fin 1 I (th (ifF I (sk ?_)));refine jx (ag,cg,gh) (by dsimp only;rw[hg'];exact og) ⟨I,I,I,I,by dsimp only;rw[hg'];rfl,rfl,rfl,rfl,rfl,trivial⟩ rfl rfl
      ·rintro ⟨ag,cg,gh⟩ og;dsimp only at *;cases hv:V.2.1 with
       | false=>
        rw[if_pos (.inl hv)] at hw;rw[<-hw] at hR;dsimp only at hR;rw[if_pos rfl] at hR;refine sq (rgm [6,0] 16 [0,2,4,6,8,10,12,14,16,18,20,22,24,26,28,30] ?_);refine dend qk 16 I (th (ifT I (sq (rg (fin 2 I (th (rt (rB (rT (rT (rB (rT (WQ.del 0 I (WQ.del 0 I (WQ.del 0 I (WQ.del 0 I (WQ.del 0 I (WQ.del 0 I (WQ.del 0 I (WQ.del 1 I ?_))))))))))))))))))));rw[hR];exact ret2 I I I ⟨le.trans (le1.trans le2),[],dh,I,hd.le (le.trans (le1.trans le2)),I,I⟩
       | true=>
        refine sq (rgm [6,0] 16 [0,2,4,6,8,10,12,14,16,18,20,22,24,26,28,30] ?_);refine au ?_;refine dar qk 1 I (u64w (x:=((V.1.recs.length:Nat):Int)) qo) (dar qk 0 I (u64w (x:=((V.1.first+V.1.recs.length:Nat):Int)) (by unfold wTop at *;omega)) (dcbS qk 0 (wTop<V.1.first+V.1.recs.length) rfl (by unfold wTop;simp;omega) fun b78 h78=>au ?_));refine ifP h78 I (fun e10=>?_) (fun e10=>?_)
        ·rw[if_pos (.inr e10)] at hw;rw[<-hw] at hR;dsimp only at hR;rw[if_pos rfl] at hR;refine sq (rg (fin 2 I (th (rt (rB (rT (rT (rB (rT (WQ.del 0 I (WQ.del 0 I (WQ.del 0 I (WQ.del 0 I (WQ.del 0 I (WQ.del 0 I (WQ.del 0 I (WQ.del 1 I ?_)))))))))))))))));rw[hR];exact ret2 I I I ⟨le.trans (le1.trans le2),[],dh,I,hd.le (le.trans (le1.trans le2)),I,I⟩
        ·rw[if_neg (by rw[hv];simp;omega)] at hw;refine sk (bl (th (rg (WL.del 5 I (ar 0 I (i64w (x:=((j+1:Nat):Int)) qo) (fin 1 I ?_))))));exact again (x:=((j,W,g),([],(ag,cg,gh)),K1)) ((j+1,V.1,g'),([_,_,_,_,_],(ag,cg,gh)),K2) ⟨I,I,I,I,I,I,I,I,trivial⟩ I I ⟨by dsimp only;omega,hw,by dsimp only;rw[htk];exact hVs qo,hgl',le1.trans le2,hW,og⟩ (by dsimp only;omega)
    ·obtain rfl:j=l.length:=by omega
     rw[List.drop_length] at hw;have hw:(W,g,true)=Z:=hw;rw[<-hw] at hR;dsimp only at hR;rw[if_neg (by simp)] at hR;refine ex (xt (xt (xb (th (sq (rg (ldp 0 5 I I I ?_)))))));refine WL.perm (hs':=gh::([_,_,_,_,_,_,_]++hs)) (List.perm_middle (l₁:=[_,_,_,_,_,_,_])) (WL.frz fun K3 l1 l2=>?_);have hW3:WalM K3 wb db W [pt wb (wlA db ob W.first (.slice aL W.recs.length cL) (.slice aO W.old.length cO) W.next W.code) 192,oH,rH,gL,gO]:=hW.le l1;refine cl 2 I (settleC wb db W hW3 D c oD qo (hd.le (le.trans (le1.trans l1))) l g an kn (xN.le (le1.trans l1)) ag cg (og.isS.le l2) qo qo hlm) ?_;rintro v84 K84 hs84 ⟨rfl,dh,rfl,hE,rfl⟩;obtain ⟨Y,hY⟩:∃ Y,Y=wsettle g l D:=⟨_,rfl⟩;rw[<-hY] at hE hR ⊢;refine au ?_;refine cmpS 1 I fun b86 h86=>fin 0 I (th (ifP h86 I (fun e16=>?_) (fun e16=>?_)))
     ·rw[if_pos e16] at hR;refine sq (rg (fin 3 I (th (rt (rT (WQ.del 0 I (WQ.del 0 I (WQ.del 0 I (WQ.del 0 I (WQ.del 0 I (WQ.del 0 I ?_)))))))))));rw[hR];exact ret2 I I I ⟨le.trans (le1.trans l1),[],dh,I,hE,I,I⟩
     ·rw[if_neg e16] at hR;refine sk (th (sq (rg (ldp 0 5 I I I (fin 2 I (th (rt (WQ.del 5 I ?_))))))));rw[hR];exact ret2 I I I ⟨le.trans (le1.trans l1),[_,_,_,_,_],dh,I,hE,wb,hW3,I⟩
end
section
def lgTop:Nat:=1152921504606846976
structure Snp where
 idx:Nat
 term:Nat
 vot:List Int
 data:List UInt8
def trm(s:Snp)(l:List Ent)(i:Nat):Nat×Bool:=
 if i=s.idx then (s.term,true) else if i<s.idx\/s.idx+l.length<i then (0,false) else (((l[i-s.idx-1]?).getD Ent.zero).term,true)
def lgAt(s:Snp)(l:List Ent)(i:Nat):Option Nat:=if i<=s.idx\/s.idx+l.length<i then none else some (i-s.idx-1)
def folR:Nat->Nat->List Ent->Int
 | _,_,[]=>0
 | i,t,e::r=>if e.idx≠i+1\/e.term<t then 180 else folR e.idx e.term r
def fol(i t:Nat)(x:List Ent):Int:=if (x.all fun e=>(putEnt e).isSome)=true then folR i t x else 181
def bckL(s:Snp)(l:List Ent)(t:Nat):Nat->Nat
 | 0=>0
 | i+1=>if s.idx<i+1 then (if (trm s l i).1≠t then i else bckL s l t i) else i+1
def bck(s:Snp)(l:List Ent)(i:Nat):Nat:=if s.idx+l.length<i then s.idx+l.length else bckL s l (trm s l i).1 i
def skp(s:Snp)(l:List Ent):List Ent->Bool->List Ent×Bool
 | [],b=>([],b)
 | e::r,_=>if (trm s l e.idx).2=false\/(trm s l e.idx).1≠e.term then (e::r,(trm s l e.idx).2) else skp s l r true
def cfgAt(s:Snp)(l:List Ent)(up:Nat):List Int×Nat:=
 match l.reverse.find? fun e=>decide (e.kind=2/\e.idx<=up) with
 | some e=>((getConf e.data).getD [],e.idx)
 | none=>(s.vot,s.idx)
def partsL(s:Snp)(l:List Ent)(frm:Nat)(most:Int):List Ent:=
 match lgAt s l frm with
 | none=>[]
 | some k=>(l.drop k).take most.toNat
def lgHas(s:Snp)(l:List Ent)(t:Snp):Bool:=(trm s l t.idx).2 && decide ((trm s l t.idx).1=t.term)
structure Lg where
 w:Wl
 hard:Slt
 head:Slt
 kt:Nat
 kv:Int
 sn:Snp
 place:Nat
 fr:Nat
 l:List Ent
 code:Int
def Lg.last(L:Lg):Nat:=L.sn.idx+L.l.length
def didV(code e:Int):Int:=if code=0 then e else code
def Lg.setHard(L:Lg)(D:Dk)(t:Nat)(v:Int):Lg×Dk×Int:=
 if L.code≠0 then (L,D,L.code)
 else if v < -1\/7<=v then (L,D,181)
 else if t<L.kt then (L,D,180)
 else if (L.hard.save 0 D (uint t++uint (v+1).toNat)).2.2=0 then ({ L with hard:=(L.hard.save 0 D (uint t++uint (v+1).toNat)).1,kt:=t,kv:=v },(L.hard.save 0 D (uint t++uint (v+1).toNat)).2.1,0)
 else ({ L with hard:=(L.hard.save 0 D (uint t++uint (v+1).toNat)).1,code:=(L.hard.save 0 D (uint t++uint (v+1).toNat)).2.2 },(L.hard.save 0 D (uint t++uint (v+1).toNat)).2.1,(L.hard.save 0 D (uint t++uint (v+1).toNat)).2.2)
def Lg.app1:List Ent->Lg->Dk->Lg×Dk×Int
 | [],L,D=>(L,D,0)
 | e::r,L,D=>
  if (L.w.append e.bytes D).2.2≠0 then ({ L with w:=(L.w.append e.bytes D).1,code:=(L.w.append e.bytes D).2.2 },(L.w.append e.bytes D).2.1,(L.w.append e.bytes D).2.2)
  else app1 r { L with w:=(L.w.append e.bytes D).1,l:=L.l++[e] } (L.w.append e.bytes D).2.1
def Lg.append(L:Lg)(x:List Ent)(D:Dk):Lg×Dk×Int:=
 if L.code≠0 then (L,D,L.code)
 else if fol L.last (trm L.sn L.l L.last).1 x≠0 then (L,D,fol L.last (trm L.sn L.l L.last).1 x)
 else L.app1 x D
def Lg.sync(L:Lg)(D:Dk):Lg×Dk×Int:=
 if L.code≠0 then (L,D,L.code) else ({ L with w:=(L.w.sync D).1,code:=(L.w.sync D).1.code },(L.w.sync D).2,(L.w.sync D).1.code)
def Lg.merge3(L:Lg)(x:List Ent)(last:Nat)(D:Dk):Lg×Dk×Nat×Bool×Int:=
 if (L.append x D).2.2≠0 then ((L.append x D).1,(L.append x D).2.1,0,false,(L.append x D).2.2) else ((L.append x D).1,(L.append x D).2.1,last,true,0)
def Lg.cutAt(L:Lg)(i:Nat)(W:Wl):Lg:={ L with w:=W,l:=L.l.take ((lgAt L.sn L.l i).getD 0) }
def Lg.merge2(L:Lg)(x:List Ent)(last:Nat)(D:Dk):Lg×Dk×Nat×Bool×Int:=
 match (skp L.sn L.l x true).1 with
 | []=>L.merge3 [] last D
 | e::r=>
  if (skp L.sn L.l x true).2=true then
   (if (L.w.truncate e.idx D).2.2≠0 then ({ L with w:=(L.w.truncate e.idx D).1,code:=(L.w.truncate e.idx D).2.2 },(L.w.truncate e.idx D).2.1,0,false,(L.w.truncate e.idx D).2.2)
    else (L.cutAt e.idx (L.w.truncate e.idx D).1).merge3 (e::r) last (L.w.truncate e.idx D).2.1)
  else L.merge3 (e::r) last D
def Lg.merge1(L:Lg)(i t:Nat)(x:List Ent)(last:Nat)(D:Dk):Lg×Dk×Nat×Bool×Int:=
 if (trm L.sn L.l i).2=false\/(trm L.sn L.l i).1≠t then (L,D,bck L.sn L.l i,false,0) else L.merge2 x last D
def Lg.merge(L:Lg)(i t:Nat)(x:List Ent)(D:Dk):Lg×Dk×Nat×Bool×Int:=
 if L.code≠0 then (L,D,0,false,L.code)
 else if fol i t x≠0 then (L,D,0,false,fol i t x)
 else if i<L.sn.idx then
  (if i+x.length<L.sn.idx then (L,D,i+x.length,true,0)
   else if ((x.drop (L.sn.idx-i)).head?.map fun e=>decide (e.term<L.sn.term))=some true then (L,D,0,false,180)
   else L.merge1 L.sn.idx L.sn.term (x.drop (L.sn.idx-i)) (i+x.length) D)
 else L.merge1 i t x (i+x.length) D
def Lg.fits(L:Lg)(s:Snp):Int:=
 if L.code≠0 then L.code
 else if (putConf s.vot).isSome=false\/2097152<s.data.length then 181
 else if s.idx<=L.sn.idx\/lgTop<=s.idx then 180
 else 0
def lgA4(place:Nat):Nat:=4*place+2
def lgW(place:Nat):Nat->Nat->List UInt8->Dk->Dk×Int
 | 0,_,_,D=>(D,0)
 | f+1,n,b,D=>
  if b=[] then (D,0)
  else if (D.write (lgA4 place) n (b.take 64)).2≠0 then D.write (lgA4 place) n (b.take 64)
  else lgW place f (n+1) (b.drop 64) (D.write (lgA4 place) n (b.take 64)).1
def Lg.say(s:Snp)(place fr:Nat):List UInt8:=uint s.idx++(uint s.term++(uint place++(uint s.data.length++(uint fr++ob (putConf s.vot)))))
def Lg.laid(L:Lg)(s:Snp)(fr:Nat)(H:Slt):Lg:=
 { L with head:=H,l:=if lgHas L.sn L.l s=true then L.l.drop ((lgAt L.sn L.l s.idx).getD 0+1) else [],place:=L.place+1,fr:=fr,sn:=s }
def Lg.lay3(L:Lg)(s:Snp)(fr:Nat)(H:Slt)(D:Dk):Lg×Dk×Int:=
 ({ L.laid s fr H with code:=(D.free (lgA4 L.place)).2 },(D.free (lgA4 L.place)).1,(D.free (lgA4 L.place)).2)
def Lg.lay2(L:Lg)(s:Snp)(fr:Nat)(D:Dk):Lg×Dk×Int:=
 if (L.head.save 4 D (Lg.say s (L.place+1) fr)).2.2≠0 then ({ L with head:=(L.head.save 4 D (Lg.say s (L.place+1) fr)).1,code:=(L.head.save 4 D (Lg.say s (L.place+1) fr)).2.2 },(L.head.save 4 D (Lg.say s (L.place+1) fr)).2.1,(L.head.save 4 D (Lg.say s (L.place+1) fr)).2.2)
 else L.lay3 s fr (L.head.save 4 D (Lg.say s (L.place+1) fr)).1 (L.head.save 4 D (Lg.say s (L.place+1) fr)).2.1
def Lg.lay1(L:Lg)(s:Snp)(fr:Nat)(D:Dk):Lg×Dk×Int:=
 if (D.sync (lgA4 (L.place+1))).2≠0 then ({ L with code:=(D.sync (lgA4 (L.place+1))).2 },(D.sync (lgA4 (L.place+1))).1,(D.sync (lgA4 (L.place+1))).2)
 else L.lay2 s fr (D.sync (lgA4 (L.place+1))).1
def Lg.lay(L:Lg)(s:Snp)(fr:Nat)(D:Dk):Lg×Dk×Int:=
 if (lgW (L.place+1) (s.data.length+1) 0 s.data D).2≠0 then ({ L with code:=(lgW (L.place+1) (s.data.length+1) 0 s.data D).2 },(lgW (L.place+1) (s.data.length+1) 0 s.data D).1,(lgW (L.place+1) (s.data.length+1) 0 s.data D).2)
 else L.lay1 s fr (lgW (L.place+1) (s.data.length+1) 0 s.data D).1
def Lg.save2(L:Lg)(s:Snp)(D:Dk):Lg×Dk×Int:=
 if (L.lay s L.fr D).2.2≠0 then L.lay s L.fr D
 else ({ (L.lay s L.fr D).1 with w:=((L.lay s L.fr D).1.w.compact (s.idx+1) (L.lay s L.fr D).2.1).1,code:=((L.lay s L.fr D).1.w.compact (s.idx+1) (L.lay s L.fr D).2.1).2.2 },((L.lay s L.fr D).1.w.compact (s.idx+1) (L.lay s L.fr D).2.1).2.1,((L.lay s L.fr D).1.w.compact (s.idx+1) (L.lay s L.fr D).2.1).2.2)
def Lg.save1(L:Lg)(s:Snp)(D:Dk):Lg×Dk×Int:=if (L.sync D).2.2≠0 then L.sync D else (L.sync D).1.save2 s (L.sync D).2.1
def Lg.save(L:Lg)(s:Snp)(D:Dk):Lg×Dk×Int:=
 if L.fits s≠0 then (L,D,L.fits s) else if lgHas L.sn L.l s=false then (L,D,180) else L.save1 s D
def Lg.inst1(L:Lg)(s:Snp)(D:Dk):Lg×Dk×Int:=
 if (L.lay s L.w.next D).2.2≠0 then L.lay s L.w.next D
 else ({ (L.lay s L.w.next D).1 with w:=((L.lay s L.w.next D).1.w.reset (s.idx+1) (L.lay s L.w.next D).2.1).1,code:=((L.lay s L.w.next D).1.w.reset (s.idx+1) (L.lay s L.w.next D).2.1).2.2 },((L.lay s L.w.next D).1.w.reset (s.idx+1) (L.lay s L.w.next D).2.1).2.1,((L.lay s L.w.next D).1.w.reset (s.idx+1) (L.lay s L.w.next D).2.1).2.2)
def Lg.install(L:Lg)(s:Snp)(D:Dk):Lg×Dk×Int:=
 if L.fits s≠0 then (L,D,L.fits s) else if lgHas L.sn L.l s=true then L.save s D else L.inst1 s D
end
section
theorem Ct.at2{P:Program}{w0:World}{f:FuncId}{args:List Value}{K:PH}{hs:List PH}{a b:PH}{S:Value->PH->PH->PH->Prop}(i j:Nat)(hi:hs[i]?=some a)(hj:(hs.eraseIdx i)[j]?=some b)
  (c:Ct P w0 f args K (a::b::(hs.eraseIdx i).eraseIdx j) (fun v K' hs'=>∃ a' b',hs'=a'::b'::(hs.eraseIdx i).eraseIdx j/\S v K' a' b')):
  Ct P w0 f args K hs (fun v K' hs'=>∃ a' b',hs'=((hs.eraseIdx i).set j b').insertIdx i a'/\S v K' a' b'):=by
 have p1:=perm_front hs i a hi;have p2:=perm_front (hs.eraseIdx i) j b hj;refine ⟨c.1,fun w hw=>(c.2 w (hw.perm (p1.trans (p2.cons a)))).mono ?_⟩;rintro e w' ⟨v,K',hs',rfl,⟨a',b',rfl,hS⟩,hw'⟩;refine ⟨v,K',_,I,⟨a',b',I,hS⟩,hw'.perm (((perm_set (hs.eraseIdx i) j b b' hj).cons a').trans (List.perm_insertIdx _ _ ?_).symm)⟩;rw[List.length_set,List.length_eraseIdx];have:=(List.getElem?_eq_some_iff.1 hi).1
 split <;> omega
theorem cells_sub{b off:Nat}{c:Array Value}{ty:Nat}{fr:Nat×Nat}(cs:List Value)(h:(c.toList.drop off).take cs.length=cs):∀ (j:Nat) v,cs[j]?=some v->Cell (pt b c ty fr) ((⟨b,off,none⟩:Addr).add j) v:=by
 refine cells_pt cs fun j v hv=>?_;have hj:=(List.getElem?_eq_some_iff.1 hv).1;rw[<-h,List.getElem?_take_of_lt hj,List.getElem?_drop] at hv;simpa using hv
structure LBd (c:Nat) (L:Lg):Prop where
 w:WBd c L.w
 hard:L.hard.bd
 head:L.head.bd
 kt:L.kt<=mxU
 kv : -1<=L.kv/\L.kv<=6
 idx:L.sn.idx<=lgTop
 st:L.sn.term<=mxU
 vot:L.sn.vot.length<=7
 data:L.sn.data.length<=2097152
 place:L.place<=lgTop+c
 fr:L.fr<=wMany+c
 len:L.l.length<=70000000000+c
 ents:∀ e∈L.l,e.ok/\e.idx<=mxU/\e.term<=mxU
theorem LBd.up{c d:Nat}{L:Lg}(o:LBd c L)(h:c<=d):LBd d L:=
 ⟨o.w.up h,o.hard,o.head,o.kt,o.kv,o.idx,o.st,o.vot,o.data,by have:=o.place;omega,by have:=o.fr;omega,by have:=o.len;omega,o.ents⟩
def lgA(wb db hb eb:Nat)(L:Lg)(vS dS lS:Value):Array Value:=
 #[.pointer (some ⟨wb,0,none⟩),.pointer (some ⟨db,0,none⟩),.pointer (some ⟨hb,0,none⟩),.pointer (some ⟨eb,0,none⟩),.int .u64 L.kt,.int .i64 L.kv,
  .int .u64 L.sn.idx,.int .u64 L.sn.term,vS,dS,.int .u64 L.place,.int .u64 L.fr,lS,.int .i64 L.code]
attribute [local irreducible] Code.wp wpList Calls
def WalH(K:PH)(wb db:Nat)(W:Wl)(h:PH):Prop:=∃ m,h=uns m/\Djs m/\WalM K wb db W m
theorem WalH.le{K K':PH}(l:Le K K'){wb db:Nat}{W:Wl}{h:PH}(x:WalH K wb db W h):WalH K' wb db W h:=let ⟨m,h1,h2,h3⟩:=x;⟨m,h1,h2,h3.le l⟩
theorem firstWH{w0:World}{K h:PH}{hs:List PH}(wb db:Nat)(W:Wl)(hW:WalH K wb db W h):Ct Tryz.prog w0 117 [.pointer (some ⟨wb,0,none⟩)] K (h::hs)
  (fun v K' hs'=>K'=K/\hs'=h::hs/\v=.int .u64 W.first):=by
 obtain ⟨m,rfl,d,hm⟩:=hW;refine Ct.bun2 d (firstWC wb db W hm) ?_;rintro v K' hs' ⟨rfl,rfl,rfl⟩;exact ⟨m,hs,I,fun _=>⟨I,I,I⟩⟩
theorem nextWH{w0:World}{K h:PH}{hs:List PH}(wb db:Nat)(W:Wl)(hW:WalH K wb db W h):Ct Tryz.prog w0 200 [.pointer (some ⟨wb,0,none⟩)] K (h::hs)
  (fun v K' hs'=>K'=K/\hs'=h::hs/\v=.int .u64 W.next):=by
 obtain ⟨m,rfl,d,hm⟩:=hW;refine Ct.bun2 d (nextWC wb db W hm) ?_;rintro v K' hs' ⟨rfl,rfl,rfl⟩;exact ⟨m,hs,I,fun _=>⟨I,I,I⟩⟩
theorem lastWH{w0:World}{K h:PH}{hs:List PH}(wb db:Nat)(W:Wl)(hW:WalH K wb db W h)(hb:W.first+W.recs.length<=wTop):Ct Tryz.prog w0 118 [.pointer (some ⟨wb,0,none⟩)] K (h::hs)
  (fun v K' hs'=>K'=K/\hs'=h::hs/\v=.int .u64 (lastV (W.first+W.recs.length))):=by
 obtain ⟨m,rfl,d,hm⟩:=hW;refine Ct.bun2 d (lastWC wb db W hm hb) ?_;rintro v K' hs' ⟨rfl,rfl,rfl⟩;exact ⟨m,hs,I,fun _=>⟨I,I,I⟩⟩
theorem getWH{w0:World}{K h:PH}{hs:List PH}(wb db:Nat)(W:Wl)(c:Nat)(hc:c<=1000000000)(hb:WBd c W)(hW:WalH K wb db W h)(i:Nat)(hi:i<18446744073709551616):Ct Tryz.prog w0 119 [.pointer (some ⟨wb,0,none⟩),.int .u64 (i:Nat)] K (h::hs)
  (fun v K' hs'=>∃ h',hs'=h'::hs/\h'=h/\Le K K'/\((¬(W.first<=i/\i-W.first<W.recs.length)/\v=.tuple #[.slice none 0 0,.bool false]) \/
   ∃ r ao k,W.first<=i/\W.recs[i-W.first]?=some r/\v=.tuple #[.slice ao r.length k,.bool true]/\IsS K' ao r.length k 1 (bv r))):=by
 obtain ⟨m,rfl,d,hm⟩:=hW;refine Ct.bun2 d (getWC wb db W c hc hb hm i hi hb.recl) ?_;rintro v K' hs' ⟨le,rfl,hv⟩;exact ⟨m,hs,I,fun _=>⟨_,I,I,le,hv⟩⟩
theorem syncWH{w0:World}{K h dh:PH}{hs:List PH}(wb db:Nat)(W:Wl)(hW:WalH K wb db W h)(D:Dk)(c:Nat)(oD:D.Ok c)(hc:c<=1000000000)(hb:WBd c W)(hd:DskH K db D dh):
  Ct Tryz.prog w0 198 [.pointer (some ⟨wb,0,none⟩)] K (h::dh::hs)
   (fun v K' hs'=>∃ h' dh',hs'=h'::dh'::hs/\K'=K/\WalH K wb db (W.sync D).1 h'/\DskH K db (W.sync D).2 dh'/\v=.int .i64 (W.sync D).1.code):=by
 obtain ⟨m,rfl,d,hm⟩:=hW;refine Ct.bun2 d (syncWC wb db W hm D c oD hc hb hd) ?_;rintro v K' hs' ⟨rfl,m',dh',rfl,hW',hd',rfl⟩;exact ⟨m',_,I,fun d'=>⟨_,dh',I,I,⟨m',I,d',hW'⟩,hd',I⟩⟩
theorem appendWH{w0:World}{K h dh hv:PH}{hs:List PH}(wb db:Nat)(W:Wl)(hW:WalH K wb db W h)(D:Dk)(c:Nat)(oD:DOk c D)(hc:c<=999999000)(hb:WBd c W)(hd:DskH K db D dh)(ab:Option Addr)(cb:Nat)(b:List UInt8)(hbl:b.length<1099511627776)(hin:In K hs hv)(x:IsS hv ab b.length cb 1 (bv b)):
  Ct Tryz.prog w0 203 [.pointer (some ⟨wb,0,none⟩),.slice ab b.length cb] K (h::dh::hs)
   (fun v K' hs'=>∃ h' dh',hs'=h'::dh'::hs/\Le K K'/\WalH K' wb db (W.append b D).1 h'/\DskH K' db (W.append b D).2.1 dh'/\v=.int .i64 (W.append b D).2.2):=by
 obtain ⟨m,rfl,d,hm⟩:=hW;refine Ct.bun2 d (appendWC wb db W hm D c oD hc hb hd ab cb b hbl hin x) ?_;rintro v K' hs' ⟨le,m',dh',rfl,hW',hd',rfl⟩;exact ⟨m',_,I,fun d'=>⟨_,dh',I,le,⟨m',I,d',hW'⟩,hd',I⟩⟩
theorem truncWH{w0:World}{K h dh:PH}{hs:List PH}(wb db:Nat)(W:Wl)(hW:WalH K wb db W h)(D:Dk)(c:Nat)(oD:DOk c D)(hc:c<=999999000)(hb:WBd c W)(hd:DskH K db D dh)(i:Nat)(hi:i<18446744073709551616):
  Ct Tryz.prog w0 197 [.pointer (some ⟨wb,0,none⟩),.int .u64 (i:Nat)] K (h::dh::hs)
   (fun v K' hs'=>∃ h' dh',hs'=h'::dh'::hs/\Le K K'/\WalH K' wb db (W.truncate i D).1 h'/\DskH K' db (W.truncate i D).2.1 dh'/\v=.int .i64 (W.truncate i D).2.2):=by
 obtain ⟨m,rfl,d,hm⟩:=hW;refine Ct.bun2 d (truncWC wb db W hm D c oD hc hb hd i hi) ?_;rintro v K' hs' ⟨le,m',dh',rfl,hW',hd',rfl⟩;exact ⟨m',_,I,fun d'=>⟨_,dh',I,le,⟨m',I,d',hW'⟩,hd',I⟩⟩
theorem compactWH{w0:World}{K h dh:PH}{hs:List PH}(wb db:Nat)(W:Wl)(hW:WalH K wb db W h)(D:Dk)(c:Nat)(oD:DOk c D)(hc:c<=499999000)(hb:WBd c W)(hol:W.old.length<=c)(hd:DskH K db D dh)(i:Nat)(hi:i<18446744073709551616):
  Ct Tryz.prog w0 160 [.pointer (some ⟨wb,0,none⟩),.int .u64 (i:Nat)] K (h::dh::hs)
   (fun v K' hs'=>∃ h' dh',hs'=h'::dh'::hs/\Le K K'/\WalH K' wb db (W.compact i D).1 h'/\DskH K' db (W.compact i D).2.1 dh'/\v=.int .i64 (W.compact i D).2.2):=by
 obtain ⟨m,rfl,d,hm⟩:=hW;refine Ct.bun2 d (compactWC wb db W hm D c oD hc hb hol hd i hi) ?_;rintro v K' hs' ⟨le,m',dh',rfl,hW',hd',rfl⟩;exact ⟨m',_,I,fun d'=>⟨_,dh',I,le,⟨m',I,d',hW'⟩,hd',I⟩⟩
theorem resetWH{w0:World}{K h dh:PH}{hs:List PH}(wb db:Nat)(W:Wl)(hW:WalH K wb db W h)(D:Dk)(c:Nat)(oD:DOk c D)(hc:c<=499999000)(hb:WBd c W)(hd:DskH K db D dh)(first:Nat)(hfi:first<18446744073709551616):
  Ct Tryz.prog w0 201 [.pointer (some ⟨wb,0,none⟩),.int .u64 (first:Nat)] K (h::dh::hs)
   (fun v K' hs'=>∃ h' dh',hs'=h'::dh'::hs/\Le K K'/\WalH K' wb db (W.reset first D).1 h'/\DskH K' db (W.reset first D).2.1 dh'/\v=.int .i64 (W.reset first D).2.2):=by
 obtain ⟨m,rfl,d,hm⟩:=hW;refine Ct.bun2 d (resetWC wb db W hm D c oD hc hb hd first hfi) ?_;rintro v K' hs' ⟨le,m',dh',rfl,hW',hd',rfl⟩;exact ⟨m',_,I,fun d'=>⟨_,dh',I,le,⟨m',I,d',hW'⟩,hd',I⟩⟩
def LgM(K:PH)(lb db:Nat)(L:Lg)(D:Dk)(m:List PH):Prop:=
 ∃ wb hb eb aV cV aD cD aL cL wh hh eh gl dh,m=[pt lb (lgA wb db hb eb L (.slice aV L.sn.vot.length cV) (.slice aD L.sn.data.length cD) (.slice aL L.l.length cL)) 119,wh,hh,eh,gl,dh] /\
  WalH K wb db L.w wh/\SltH K hb db 0 L.hard hh/\SltH K eb db 4 L.head eh/\SlZ 4 51 (EntC K) gl aL L.l.length cL L.l/\DskH K db D dh/\IsS K aV L.sn.vot.length cV 1 (iv L.sn.vot)/\IsS K aD L.sn.data.length cD 1 (bv L.sn.data)
theorem LgM.le{K K':PH}(l:Le K K'){lb db:Nat}{L:Lg}{D:Dk}{m:List PH}(h:LgM K lb db L D m):LgM K' lb db L D m:=by
 obtain ⟨wb,hb,eb,aV,cV,aD,cD,aL,cL,wh,hh,eh,gl,dh,h1,h2,h3,h4,h5,h6,h7,h8⟩:=h;exact ⟨wb,hb,eb,aV,cV,aD,cD,aL,cL,wh,hh,eh,gl,dh,h1,h2.le l,h3.le l,h4.le l,h5.imp fun _ _ h=>h.le l,h6.le l,h7.le l,h8.le l⟩
theorem rightC{w0:World}{K hv:PH}{hs:List PH}(ao:Option Addr)(cap:Nat)(l:List Int)(hm:In K hs hv)(x:IsS hv ao l.length cap 1 (iv l))(hl:l.length<1099511627776):
  Ct Tryz.prog w0 52 [.agg #[.slice ao l.length cap]] K hs (fun v K' hs'=>K'=K/\hs'=hs/\v=.bool (putConf l).isSome):=by
 refine ent Tryz.func52 ?_;refine sq (rg (bx 0 I fun b1=>fin 1 I (th (sq (rg (WL.hs (pt b1 #[.slice ao l.length cap] 46::hs) I (ldS 0 0 I I qk (cl 0 I (putConfC ao cap l (In.cons hm) x hl) ?_))))))));rintro v7 K7 hs7 ⟨rfl,h7,ao7,c7,rfl,rfl,o7⟩;refine au ?_;refine cmpS 1 I fun b11 h11=>fin 1 I (th (rt (WQ.drop (WQ.drop ?_))))
 have e:b11=(putConf l).isSome:=by
  rw[Bool.eq_iff_iff,h11,ec_zero]
 exact ret1 I I ⟨I,I,by rw[e]⟩
theorem areaLC{w0:World}{K:PH}{hs:List PH}(n:Nat)(hn:n<=2305843009213693952):Ct Tryz.prog w0 56 [.int .u64 (n:Nat)] K hs (fun v K' hs'=>K'=K/\hs'=hs/\v=.int .u64 (lgA4 n:Nat)):=by
 refine entA Tryz.func56 ?_;refine ar 1 I (u64w (x:=((4*n:Nat):Int)) qo) (ar 0 I (u64w (x:=((4*n+2:Nat):Int)) qo) (au ?_));exact ret1 I I ⟨I,I,I⟩
theorem didLC{w0:World}{K:PH}{hs:List PH}(lb wb db hb eb:Nat)(L:Lg)(vS dS lS:Value)(e:Int):
  Ct Tryz.prog w0 57 [.pointer (some ⟨lb,0,none⟩),.int .i64 e] K (pt lb (lgA wb db hb eb L vS dS lS) 119::hs)
   (fun v K' hs'=>∃ h',hs'=h'::hs/\K'=K/\h'=pt lb (lgA wb db hb eb { L with code:=didV L.code e } vS dS lS) 119/\v=.int .i64 (didV L.code e)):=by
 unfold didV;refine entA Tryz.func57 ?_;refine cmp 0 I (fun e2=>?_) (fun e2=>?_)
 ·refine au ?_;rw[if_pos e2];refine au ?_;exact ret1 I I ⟨_,I,I,I,I⟩
 ·refine au ?_;rw[if_neg e2];refine au ?_;exact ret1 I I ⟨_,I,I,I,I⟩
theorem hardLC{w0:World}{K:PH}{m hs:List PH}(lb db:Nat)(L:Lg)(D:Dk)(hm:LgM K lb db L D m):
  Ct Tryz.prog w0 42 [.pointer (some ⟨lb,0,none⟩)] K (m++hs) (fun v K' hs'=>K'=K/\hs'=m++hs/\v=.agg #[.int .u64 L.kt,.int .i64 L.kv]):=by
 obtain ⟨wb,hb,eb,aV,cV,aD,cD,aL,cL,wh,hh,eh,gl,dh,rfl,hW,hH,hE,hG,hD,xV,xD⟩:=hm;refine enter Tryz.func42 qk I I I (sq (rg (al 0 (.agg #[.int .u64 0,.int .i64 0]) I qk fun b2=>fin 0 I (th (sq (rg (lds 3 [.int .u64 L.kt,.int .i64 L.kv] I qk (.inr ⟨1,I⟩) (fun j v hv=>?_) ?_)))))))
 ·exact cells_sub _ I j v hv
 refine stS 0 0 I I qk I I ?_;exact fin 0 I (th (rt (retcA 0 1 I I I qk ⟨I,I,I⟩)))
end
section
theorem u64s{a b:Nat}(h:b<=a)(ha:a<18446744073709551616):Value.int .u64 (IntKind.u64.wrap (((a:Nat):Int)-((b:Nat):Int)))=.int .u64 (a-b:Nat):=by
 rw[show ((a:Nat):Int)-((b:Nat):Int)=((a-b:Nat):Int) from by omega];exact u64w qo
theorem u64s1{a:Nat}(h:1<=a)(ha:a<18446744073709551616):Value.int .u64 (IntKind.u64.wrap (((a:Nat):Int)-1))=.int .u64 (a-1:Nat):=by
 rw[show ((a:Nat):Int)-1=((a-1:Nat):Int) from by omega];exact u64w qo
def okV(o:Option Nat):Value:=.tuple #[.int .i64 (((o.getD 0:Nat)):Int),.bool o.isSome]
theorem trm_at(s:Snp)(l:List Ent)(i:Nat):trm s l i=if i=s.idx then (s.term,true) else match lgAt s l i with
  | none=>(0,false)
  | some k=>(((l[k]?).getD Ent.zero).term,true):=by
 unfold trm lgAt
 by_cases h:i=s.idx
 ·rw[if_pos h,if_pos h]
 ·rw[if_neg h,if_neg h]
  by_cases h2:i<s.idx\/s.idx+l.length<i
  ·rw[if_pos h2,if_pos qo]
  ·rw[if_neg h2,if_neg qo]
theorem lgAt_some{s:Snp}{l:List Ent}{i k:Nat}(h:lgAt s l i=some k):s.idx<i/\i<=s.idx+l.length/\k=i-s.idx-1/\k<l.length:=by
 unfold lgAt at h
 split at h
 ·cases h
 ·cases h;omega
attribute [local irreducible] Code.wp wpList Calls
theorem cloneIC{w0:World}{K hv:PH}{hs:List PH}(ao:Option Addr)(cap:Nat)(b:List Int)(hm:In K hs hv)(x:IsS hv ao b.length cap 1 (iv b))(hl:b.length<1099511627776):
  Ct Tryz.prog w0 45 [.slice ao b.length cap] K hs
   (fun v K' hs'=>Le K K'/\hs'=hs/\∃ ao' c',v=.slice ao' b.length c'/\IsS K' ao' b.length c' 1 (iv b)):=by
 refine entA Tryz.func45 ?_;refine cb 1 I (fun h1=>?_) (fun h1=>?_)
 ·have hao:ao=none:=by simpa using h1
  subst hao
  have hb0:b=[]:=by
   cases b with
   | nil=>rfl
   | cons c r=>obtain ⟨a,ha,_⟩:=x.2.2 0 _ (by simp[iv];rfl);cases ha
  subst hb0;refine au ?_;exact ret1 I I ⟨Le.refl _,I,none,0,I,IsS.nil _ _ _ _⟩
 ·refine au ?_;refine lit 0 #[] I (by decide) qk fun b5=>app 1 0 I I (Own.ofPt (c:=#[]) (n:=0) (by simp) (by simp[maxLen])) (In.cons hm) x I (by decide) (iv_one _) (by show (0+b.length)*8<=_;omega) (by simp[maxLen];omega) fun ao7 c7 g7 o7=>fin 1 rfl (th (rt (WQ.frz fun K2 l1 l2=>?_)));have e:0+b.length=b.length:=Nat.zero_add _;rw[e] at o7;exact ret1 I (by rw[e];rfl) ⟨l1,rfl,ao7,c7,rfl,o7.isS.le l2⟩
theorem copiedC{w0:World}{K hb:PH}{hs:List PH}(e:Ent)(ao:Option Addr)(cap:Nat)(hm:In K hs hb)(x:IsS hb ao e.data.length cap 1 (bv e.data))(hl:e.data.length<1099511627776):
  Ct Tryz.prog w0 44 [.agg (e.v ao cap)] K hs (fun v K' hs'=>Le K K'/\hs'=hs/\∃ ao' c',v=.agg (e.v ao' c')/\IsS K' ao' e.data.length c' 1 (bv e.data)):=by
 refine ent Tryz.func44 ?_;refine sq (rg (bx 0 I fun b1=>al 0 (.agg #[.int .u64 0,.int .u64 0,.int .i64 0,.slice none 0 0]) I qk fun b2=>fin 0 I (th (sq (rg (WL.hs (pt b2 #[.int .u64 0,.int .u64 0,.int .i64 0,.slice none 0 0] 51::pt b1 (e.v ao cap) 51::hs) I (au ?_)))))));refine cl 0 I (cloneB ao cap e.data (In.cons (In.cons hm)) x hl) ?_;rintro v5 K5 hs5 ⟨rfl,h5,ao5,c5,rfl,rfl,o5⟩;refine stp 1 2 I I I I (WL.hs (h5::pt b2 #[.int .u64 0,.int .u64 0,.int .i64 0,.slice none 0 0] 51::pt b1 (e.v ao5 c5) 51::hs) I (fin 0 I (th (sq (rg (ldS 0 2 I I qk ?_))))));refine stS 0 1 I I qk I I ?_;exact fin 0 I (th (rt (WQ.frz fun K2 l1 l2=>retcA 0 2 I I I qk ⟨l1,I,ao5,c5,I,o5.isS.le l2⟩)))
def snV(s:Snp)(aV:Option Addr)(cV:Nat)(aD:Option Addr)(cD:Nat):Array Value:=#[.int .u64 s.idx,.int .u64 s.term,.slice aV s.vot.length cV,.slice aD s.data.length cD]
def SnpS(K:PH)(s:Snp)(v:Value):Prop:=∃ aV cV aD cD,v=.agg (snV s aV cV aD cD)/\IsS K aV s.vot.length cV 1 (iv s.vot)/\IsS K aD s.data.length cD 1 (bv s.data)
theorem snapLC{w0:World}{K:PH}{m hs:List PH}(lb db:Nat)(L:Lg)(D:Dk)(c:Nat)(hb:LBd c L)(hm:LgM K lb db L D m):
  Ct Tryz.prog w0 17 [.pointer (some ⟨lb,0,none⟩)] K (m++hs) (fun v K' hs'=>Le K K'/\hs'=m++hs/\SnpS K' L.sn v):=by
 obtain ⟨wb,hb',eb,aV,cV,aD,cD,aL,cL,wh,hh,eh,gl,dh,rfl,hW,hH,hE,hG,hD,xV,xD⟩:=hm;have hv7:=hb.vot;have hd2:=hb.data;refine ent Tryz.func17 ?_;refine sq (rg (al 0 (.agg #[.int .u64 0,.int .u64 0,.slice none 0 0,.slice none 0 0]) I qk fun b2=>fin 0 I (th (sq (rg (lds 3 (snV L.sn aV cV aD cD).toList I qk (.inr ⟨1,I⟩) (cells_sub _ I) (al 0 (.agg #[.int .u64 0,.int .u64 0,.slice none 0 0,.slice none 0 0]) I qk fun b3=>?_)))))));refine stS 0 0 I I qk I I ?_;refine fin 0 I (th (sq (rg (ldp 2 0 I I I (cl 0 I (cloneIC aV cV L.sn.vot (.inl I) xV qo) ?_)))));rintro v11 K11 hs11 ⟨le1,rfl,aV2,cV2,rfl,xV2⟩;refine au ?_;refine cl 0 I (cloneB aD cD L.sn.data (.inl I) (xD.le le1) qo) ?_;rintro v16 K16 hs16 ⟨rfl,h16,aD2,cD2,rfl,rfl,oD2⟩;refine stp 1 1 I I I I (WL.hs (h16::pt b3 (snV L.sn aV2 cV2 aD2 cD2) 48::pt b2 #[.int .u64 0,.int .u64 0,.slice none 0 0,.slice none 0 0] 48::_) I (fin 0 I (th (sq (rg (ldS 0 1 I I qk ?_))))))
 refine stS 0 2 I I qk I I ?_;exact fin 0 I (th (rt (WQ.frz fun K2 l1 l2=>retcA 1 2 I I I qk ⟨le1.trans l1,I,aV2,cV2,aD2,cD2,I,xV2.le l1,oD2.isS.le l2⟩)))
theorem lastLC{w0:World}{K:PH}{m hs:List PH}(lb db:Nat)(L:Lg)(D:Dk)(c:Nat)(hb:LBd c L)(hc:c<=1000000000)(hm:LgM K lb db L D m):
  Ct Tryz.prog w0 18 [.pointer (some ⟨lb,0,none⟩)] K (m++hs) (fun v K' hs'=>K'=K/\hs'=m++hs/\v=.int .u64 (L.sn.idx+L.l.length:Nat)):=by
 obtain ⟨wb,hb',eb,aV,cV,aD,cD,aL,cL,wh,hh,eh,gl,dh,rfl,hW,hH,hE,hG,hD,xV,xD⟩:=hm;have h1:=hb.idx;have h2:=hb.len;unfold lgTop at h1;refine entA Tryz.func18 ?_;refine rga [pt lb (lgA wb db hb' eb L (.slice aV L.sn.vot.length cV) (.slice aD L.sn.data.length cD) (.slice aL L.l.length cL)) 119] 13 [0,2,4,6,8,10,12,14,16,18,20,22,24] (by simp) qk qk (au ?_);refine dar qk 1 I (u64w (x:=((L.l.length:Nat):Int)) qo) (dar qk 0 I (u64w (x:=((L.sn.idx+L.l.length:Nat):Int)) qo) (au ?_));exact ret1 I I ⟨I,I,I⟩
theorem atLC{w0:World}{K:PH}{m hs:List PH}(lb db:Nat)(L:Lg)(D:Dk)(c:Nat)(hb:LBd c L)(hc:c<=1000000000)(hm:LgM K lb db L D m)(i:Nat)(hi:i<18446744073709551616):
  Ct Tryz.prog w0 43 [.pointer (some ⟨lb,0,none⟩),.int .u64 (i:Nat)] K (m++hs) (fun v K' hs'=>K'=K/\hs'=m++hs/\v=okV (lgAt L.sn L.l i)):=by
 have hm0:=hm;obtain ⟨wb,hb',eb,aV,cV,aD,cD,aL,cL,wh,hh,eh,gl,dh,rfl,hW,hH,hE,hG,hD,xV,xD⟩:=hm;have h2:=hb.len;refine entA Tryz.func43 ?_;refine cmpS 0 I fun b12 h12=>?_
 refine' bjo (q:=L.sn.idx+L.l.length<i) 1 5 18 [12,13] h12 I I I I I I I (fun _=>?x2) (fun b18 h18=>?_)
 case x2=>
  refine cl 2 I (lastLC lb db L D c hb hc hm0) ?_;rintro v16 K16 hs16 ⟨rfl,rfl,rfl⟩;exact cmpS 0 I fun b17 h17=>fin 1 I (bjx (h17.trans qo) I I I)
 refine fin 0 I<|th (ifP h18 I (fun e4=>?_) (fun e4=>?_))
 ·refine au ?_;refine ret2 I I I ⟨I,I,?_⟩;unfold lgAt;rw[if_pos qo]
  rfl
 ·refine au ?_;refine ar 0 I (u64s qo hi) (ar 0 I (u64s1 qo qo) (ar 0 I (i64w qo) (au ?_)));refine ret2 I I I ⟨I,I,?_⟩;unfold lgAt;rw[if_neg qo]
  rfl
end
section
def okT(o:Nat×Bool):Value:=.tuple #[.int .u64 o.1,.bool o.2]
attribute [local irreducible] Code.wp wpList Calls
theorem ent_cells{K gl:PH}{aL:Option Addr}{cL:Nat}{l:List Ent}(hG:SlZ 4 51 (EntC K) gl aL l.length cL l){k:Nat}{e:Ent}(hk:l[k]?=some e):
  ∃ a ao cap,aL=some a/\IsS K ao e.data.length cap 1 (bv e.data)/\∀ (j:Nat) v,(e.v ao cap).toList[j]?=some v->Cell gl ((a.add (k*4)).add j) v:=by
 have hkl:k<l.length:=(List.getElem?_eq_some_iff.1 hk).1;obtain ⟨a,rfl⟩:=hG.slS.addr qo (by decide);obtain ⟨c,⟨ao,cap,rfl,x⟩,_,hc⟩:=hG.slS.cells hk;exact ⟨a,ao,cap,I,x,hc⟩
theorem termLC{w0:World}{K:PH}{m hs:List PH}(lb db:Nat)(L:Lg)(D:Dk)(c:Nat)(hb:LBd c L)(hc:c<=1000000000)(hm:LgM K lb db L D m)(i:Nat)(hi:i<18446744073709551616):
  Ct Tryz.prog w0 89 [.pointer (some ⟨lb,0,none⟩),.int .u64 (i:Nat)] K (m++hs) (fun v K' hs'=>K'=K/\hs'=m++hs/\v=okT (trm L.sn L.l i)):=by
 have hm0:=hm;obtain ⟨wb,hb',eb,aV,cV,aD,cD,aL,cL,wh,hh,eh,gl,dh,rfl,hW,hH,hE,hG,hD,xV,xD⟩:=hm;have h2:=hb.len;rw[trm_at];refine entA Tryz.func89 ?_;refine cl 2 I (atLC lb db L D c hb hc hm0 i hi) ?_;rintro v11 K11 hs11 ⟨rfl,rfl,rfl⟩;refine au ?_;refine cmp 0 I (fun e2=>?_) (fun e2=>?_)
 ·refine au ?_;rw[if_pos qo];refine au ?_;exact ret2 I I I ⟨I,I,I⟩
 ·refine au ?_;rw[if_neg qo];cases hk:lgAt L.sn L.l i with
  | none=>
   refine au ?_;exact ret2 I I I ⟨I,I,I⟩
  | some k=>
   obtain ⟨g1,g2,g3,g4⟩:=lgAt_some hk;obtain ⟨e,he⟩:∃ e,L.l[k]?=some e:=⟨L.l[k],List.getElem?_eq_getElem g4⟩;obtain ⟨a,ao,cap,rfl,x,hcell⟩:=ent_cells hG he;refine au ?_;obtain ⟨xs,hxs⟩:=hG.slS.isS;refine ixs 1 k I I hxs g4 (by decide) fun a35 h35=>?_;cases h35;refine ld 1 I (.inr ⟨4,I⟩) (hcell 1 _ I) (au ?_);refine ret2 I I I ⟨I,I,?_⟩;dsimp only;rw[he]
   rfl
theorem entryLC{w0:World}{K:PH}{m hs:List PH}(lb db:Nat)(L:Lg)(D:Dk)(c:Nat)(hb:LBd c L)(hc:c<=1000000000)(hm:LgM K lb db L D m)(i:Nat)(hi:i<18446744073709551616):
  Ct Tryz.prog w0 19 [.pointer (some ⟨lb,0,none⟩),.int .u64 (i:Nat)] K (m++hs) (fun v K' hs'=>Le K K'/\hs'=m++hs/\∃ e ao cap t,v=.tuple #[.agg (Ent.v e ao cap),.bool t]/\IsS K' ao e.data.length cap 1 (bv e.data) /\
   match lgAt L.sn L.l i with
   | none=>t=false/\e=Ent.zero
   | some k=>t=true/\L.l[k]?=some e):=by
 have hm0:=hm;obtain ⟨wb,hb',eb,aV,cV,aD,cD,aL,cL,wh,hh,eh,gl,dh,rfl,hW,hH,hE,hG,hD,xV,xD⟩:=hm;have h2:=hb.len;refine enter Tryz.func19 qk I I I (sq (rg (al 0 (.agg #[.int .u64 0,.int .u64 0,.int .i64 0,.slice none 0 0]) I qk fun b4=>?_)));refine fin 1 I (th (sq (rg (WL.perm (List.perm_middle (l₁:=[_,_,_,_,_,_])).symm (cl 2 I (atLC lb db L D c hb hc hm0 i hi) ?_)))));rintro v11 K11 hs11 ⟨rfl,rfl,rfl⟩;cases hk:lgAt L.sn L.l i with
 | none=>
  refine fin 5 I (th (sq (sq (rg (fin 2 I (th (ifT I ?_)))))));refine sq (rg (WL.perm (List.perm_middle (l₁:=[_,_,_,_,_,_])) (bd 0 (.agg #[.int .u64 0,.int .u64 0,.int .i64 0,.slice none 0 0]) I (fun w=>by kernel_rfl) ?_)));refine stS 0 0 I I qk I I ?_;exact fin 1 I (th (rt (rT (retcP 0 1 I I I I qk ⟨Le.refl _,I,Ent.zero,none,0,false,I,IsS.nil _ _ _ _,I,I⟩))))
 | some k=>
  obtain ⟨g1,g2,g3,g4⟩:=lgAt_some hk;obtain ⟨e,he⟩:∃ e,L.l[k]?=some e:=⟨L.l[k],List.getElem?_eq_getElem g4⟩;obtain ⟨a,ao,cap,rfl,x,hcell⟩:=ent_cells hG he;have hel:=held_len (hb.ents e (List.mem_of_getElem? he)).1.2.2;refine fin 5 I (th (sq (sq (rg (fin 2 I (th (ifF I ?_)))))));refine sk (th (sq (rg (WL.perm (List.perm_middle (l₁:=[_,_,_,_,_,_])) (ldp 3 1 I I I ?_)))));obtain ⟨xs,hxs⟩:=hG.slS.isS;refine ixs 1 k I I hxs g4 (by decide) fun a35 h35=>?_;cases h35;refine lds 0 (e.v ao cap).toList I qk (.inr ⟨5,I⟩) hcell (cl 0 I (copiedC e ao cap (.inl I) x qo) ?_);rintro v24 K24 hs24 ⟨le,rfl,ao2,c2,rfl,x2⟩;refine stS 0 0 I I qk I I ?_;exact fin 1 I (th (rt (retcP 0 1 I I I I qk ⟨le,I,e,ao2,c2,true,I,x2,I,he⟩)))
theorem hasLC{w0:World}{K hv:PH}{m hs:List PH}(lb db:Nat)(L:Lg)(D:Dk)(c:Nat)(hb:LBd c L)(hc:c<=1000000000)(hm:LgM K lb db L D m)(s:Snp)(hi:s.idx<18446744073709551616)(aV:Option Addr)(cV:Nat)(aD:Option Addr)(cD:Nat):
  Ct Tryz.prog w0 158 [.pointer (some ⟨lb,0,none⟩),.agg (snV s aV cV aD cD)] K (m++hs) (fun v K' hs'=>K'=K/\hs'=m++hs/\v=.bool (lgHas L.sn L.l s)):=by
 have hm0:=hm;obtain ⟨wb,hb',eb,aV',cV',aD',cD',aL,cL,wh,hh,eh,gl,dh,rfl,hW,hH,hE,hG,hD,xV,xD⟩:=hm;refine ent Tryz.func158 ?_;refine sq (rg (bx 0 I fun b3=>?_));refine WL.hs (pt b3 (snV s aV cV aD cD) 48::([_,_,_,_,_,_]++hs)) I (fin 1 I (th (sq (rg (ldp 2 0 I I I ?_)))));refine WL.perm (List.perm_middle (l₁:=[_,_,_,_,_,_])).symm (cl 0 I (termLC lb db L D c hb hc hm0 s.idx hi) ?_);rintro v11 K11 hs11 ⟨rfl,rfl,rfl⟩;refine WL.perm (List.perm_middle (l₁:=[_,_,_,_,_,_])) ?_;unfold lgHas;obtain ⟨T,hT'⟩:∃ T,T=trm L.sn L.l s.idx:=⟨_,rfl⟩;rw[<-hT'];obtain ⟨t,b⟩:=T;refine au ?_;cases b with
 | false=>
  exact fin 8 I<|th (rt<|WQ.drop (ret1 I I ⟨I,I,I⟩))
 | true=>
  refine au ?_;refine cmpS 0 I fun b19 h19=>fin 2 I (th (rt (WQ.drop (ret1 I I ⟨I,I,?_⟩))));have:b19=decide (t=s.term):=by rw[Bool.eq_iff_iff,h19];simp;omega
  rw[this]
  rfl
theorem backLC{w0:World}{K:PH}{m hs:List PH}(lb db:Nat)(L:Lg)(D:Dk)(c:Nat)(hb:LBd c L)(hc:c<=1000000000)(hm:LgM K lb db L D m)(i:Nat)(hi:i<18446744073709551616):
  Ct Tryz.prog w0 196 [.pointer (some ⟨lb,0,none⟩),.int .u64 (i:Nat)] K (m++hs) (fun v K' hs'=>K'=K/\hs'=m++hs/\v=.int .u64 (bck L.sn L.l i:Nat)):=by
 have hm0:=hm;obtain ⟨wb,hb',eb,aV,cV,aD,cD,aL,cL,wh,hh,eh,gl,dh,rfl,hW,hH,hE,hG,hD,xV,xD⟩:=hm;have h2:=hb.len;unfold bck;refine enter Tryz.func196 qk I I I (sq (rg (fin 1 I (th (sq (sq (rg (cl 2 I (lastLC lb db L D c hb hc hm0) ?_))))))));rintro v11 K11 hs11 ⟨rfl,rfl,rfl⟩;refine cmpS 0 I fun b12 h12=>fin 0 I (th (ifP h12 I (fun e2=>?_) (fun e2=>?_)))
 ·rw[if_pos qo];refine sq (rg (cl 1 I (lastLC lb db L D c hb hc hm0) ?_));rintro v14 K14 hs14 ⟨rfl,rfl,rfl⟩;exact fin 1 I (th (rt (rT (ret1 I I ⟨I,I,I⟩))))
 ·rw[if_neg qo];refine sk (th (sq (rg (cl 2 I (termLC lb db L D c hb hc hm0 i hi) ?_))));rintro v18 K18 hs18 ⟨rfl,rfl,rfl⟩;obtain ⟨T,hT'⟩:∃ T,T=trm L.sn L.l i:=⟨_,rfl⟩;rw[<-hT'];obtain ⟨t,b⟩:=T;obtain ⟨R,hR⟩:∃ R,R=bckL L.sn L.l t i:=⟨_,rfl⟩;dsimp only;rw[<-hR];refine fin 5 I (th (sq (bk ?_)))
  refine loop (σ:=Nat) (fun j=>[(0,.pointer (some ⟨lb,0,none⟩)),(1,.int .u64 (j:Nat)),(5,.int .u64 (t:Nat))]) (fun _=>K18)
   (fun _=>[pt lb (lgA wb db hb' eb L (.slice aV L.sn.vot.length cV) (.slice aD L.sn.data.length cD) (.slice aL L.l.length cL)) 119,wh,hh,eh,gl,dh]++hs) (fun j=>j<=i/\bckL L.sn L.l t j=R) (fun j=>j) i ⟨Nat.le_refl _,hR.symm⟩ ⟨rfl,rfl,rfl,trivial⟩ rfl rfl ?_
  rintro j ⟨hj,hw⟩;refine sq (sq (rg (ldp 5 0 I I I (cmpS 0 I fun b27 h27=>fin 0 I (th (ifP h27 I (fun e4=>?_) (fun e4=>?_)))))))
  ·obtain ⟨j,rfl⟩:∃ k,j=k+1:=⟨j-1,by omega⟩;have hw0:bckL L.sn L.l t (j+1)=if (trm L.sn L.l j).1≠t then j else bckL L.sn L.l t j:=by rw[bckL,if_pos qo]
   rw[hw0] at hw;refine sk (th (bk (sq (rg (ar 1 I (u64s1 (a:=j+1) qo qo) ?_)))));rw[show j+1-1=j from rfl];refine fin 1 I (th (sq (rg (cl 2 I (termLC lb db L D c hb hc hm0 j qo) ?_))));rintro v33 K33 hs33 ⟨rfl,rfl,rfl⟩;obtain ⟨U,hU⟩:∃ U,U=trm L.sn L.l j:=⟨_,rfl⟩;rw[<-hU] at hw ⊢;obtain ⟨u,b'⟩:=U;dsimp only at hw;refine fin 5 I (th (sq (rg (cmpS 2 I fun b38 h38=>fin 0 I (th (ifP h38 I (fun e6=>?_) (fun e6=>?_)))))))
   ·rw[if_pos qo] at hw;subst hw;exact ex (xn I (xt (xb (th (sq (rg (fin 2 I (th (rt (ret1 I I ⟨I,I,I⟩))))))))))
   ·rw[if_neg qo] at hw;exact sk (bl (again (x:=j+1) j ⟨I,I,I,trivial⟩ I I ⟨by omega,hw⟩ qo))
  ·have hw0:bckL L.sn L.l t j=j:=by
    cases j with
    | zero=>rfl
    | succ j=>rw[bckL,if_neg qo]
   rw[hw0] at hw;subst hw;exact ex (xt (xt (xb (th (sq (rg (fin 2 I (th (rt (ret1 I I ⟨I,I,I⟩))))))))))
end
section
def entB(e:Ent):Prop:=e.idx<=mxU/\e.term<=mxU/\e.data.length<1099511627776
theorem putEnt_ok{e:Ent}:(putEnt e).isSome=true↔e.ok:=by unfold putEnt;split <;> simp_all
theorem LBd.setHard{c:Nat}{L:Lg}(o:LBd c L)(D:Dk)(t:Nat)(v:Int)(ht:t<=mxU):LBd c (L.setHard D t v).1:=by
 unfold Lg.setHard
 split
 ·exact o
 ·split
  ·exact o
  ·split
   ·exact o
   ·have hs:=Slt.save_bd o.hard 0 D (uint t++uint (v+1).toNat)
    split
    ·exact ⟨o.w,hs,o.head,ht,by dsimp only;omega,o.idx,o.st,o.vot,o.data,o.place,o.fr,o.len,o.ents⟩
    ·exact ⟨o.w,hs,o.head,o.kt,o.kv,o.idx,o.st,o.vot,o.data,o.place,o.fr,o.len,o.ents⟩
theorem LBd.sync{c:Nat}{L:Lg}(o:LBd c L)(D:Dk):LBd c (L.sync D).1:=by
 unfold Lg.sync
 split
 ·exact o
 ·exact ⟨o.w.sync D,o.hard,o.head,o.kt,o.kv,o.idx,o.st,o.vot,o.data,o.place,o.fr,o.len,o.ents⟩
attribute [local irreducible] Code.wp wpList Calls
theorem entriesLC{w0:World}{K:PH}{m hs:List PH}(lb db:Nat)(L:Lg)(D:Dk)(c:Nat)(hb:LBd c L)(hc:c<=1000000000)(hm:LgM K lb db L D m)(i:Nat)(hi:i<18446744073709551616)(most:Int)(hmo : -9223372036854775808<=most/\most<=9223372036854775807):
  Ct Tryz.prog w0 16 [.pointer (some ⟨lb,0,none⟩),.int .u64 (i:Nat),.int .i64 most] K (m++hs)
   (fun v K' hs'=>Le K K'/\hs'=m++hs/\∃ ao cap,v=.slice ao (partsL L.sn L.l i most).length cap/\SlS 4 (EntC K') K' ao (partsL L.sn L.l i most).length cap (partsL L.sn L.l i most)):=by
 have hm0:=hm;obtain ⟨wb,hb',eb,aV,cV,aD,cD,aL,cL,wh,hh,eh,gl,dh,rfl,hW,hH,hE,hG,hD,xV,xD⟩:=hm;have h2:=hb.len;refine entA Tryz.func16 ?_;refine cl 2 I (atLC lb db L D c hb hc hm0 i hi) ?_;rintro v13 K13 hs13 ⟨rfl,rfl,rfl⟩;unfold partsL;cases hk:lgAt L.sn L.l i with
 | none=>
  refine au ?_
  refine loop (σ:=Unit) (fun _=>[(0,.pointer (some ⟨lb,0,none⟩)),(2,.int .i64 most),(7,.slice none 0 0),(8,.int .i64 0),(9,.bool false)]) (fun _=>K13)
   (fun _=>[pt lb (lgA wb db hb' eb L (.slice aV L.sn.vot.length cV) (.slice aD L.sn.data.length cD) (.slice aL L.l.length cL)) 119,wh,hh,eh,gl,dh]++hs) (fun _=>True) (fun _=>0) () trivial ⟨rfl,rfl,rfl,rfl,rfl,trivial⟩ rfl rfl ?_
  rintro ⟨⟩ _;refine au ?_;exact ret1 I I ⟨Le.refl _,I,none,0,I,SlS.nil _ _ _ _⟩
 | some k=>
  obtain ⟨g1,g2,g3,g4⟩:=lgAt_some hk;dsimp only;obtain ⟨X,hX⟩:∃ X,X=(L.l.drop k).take most.toNat:=⟨_,rfl⟩;have hXl:X.length=min most.toNat (L.l.length-k):=by rw[hX,List.length_take,List.length_drop]
  rw[<-hX];refine fin 5 I (th (sq (bk (WC.em ?_))))
  refine loop (σ:=Nat×(Option Addr×Nat×PH)×PH) (fun s=>[(0,.pointer (some ⟨lb,0,none⟩)),(2,.int .i64 most),(7,.slice s.2.1.1 s.1 s.2.1.2.1),(8,.int .i64 (k+s.1:Nat)),(9,.bool true)]) (fun s=>s.2.2)
   (fun s=>s.2.1.2.2::([pt lb (lgA wb db hb' eb L (.slice aV L.sn.vot.length cV) (.slice aD L.sn.data.length cD) (.slice aL L.l.length cL)) 119,wh,hh,eh,gl,dh]++hs)) (fun s=>s.1<=X.length/\Le K13 s.2.2/\SlZ 4 51 (EntC s.2.2) s.2.1.2.2 s.2.1.1 s.1 s.2.1.2.1 (X.take s.1)) (fun s=>X.length-s.1)
   (0,(none,0,em),K13) ⟨Nat.zero_le _,Le.refl _,SlZ.nil _ _⟩ ⟨rfl,rfl,rfl,rfl,rfl,trivial⟩ rfl rfl ?_
  rintro ⟨j,⟨ao,cap,g⟩,K1⟩ ⟨hj,le1,oG⟩;dsimp only at *;refine au ?_;refine cmp 1 I (fun e2=>?_) (fun e2=>?_)
  ·refine cmpS 5 I fun b30 h30=>fin 1 I<|th (ifP h30 I (fun e3=>?_) (fun e3=>?_))
   ·have hjX:j<X.length:=by omega
    obtain ⟨e,he⟩:∃ e,X[j]?=some e:=⟨X[j],List.getElem?_eq_getElem hjX⟩
    have hel:L.l[k+j]?=some e:=by
     rw[hX,List.getElem?_take_of_lt qo,List.getElem?_drop] at he;exact he
    have hed:=held_len (hb.ents e (List.mem_of_getElem? hel)).1.2.2;obtain ⟨a,ae,ce,rfl,x,hcell⟩:=ent_cells hG hel;refine au ?_;obtain ⟨xs,hxs⟩:=hG.slS.isS;refine ixs 1 (k+j) I I hxs qo (by decide) fun a38 h38=>?_;cases h38;refine lds 0 (e.v ae ce).toList I qk (.inr ⟨5,I⟩) hcell (cl 0 I (copiedC e ae ce (.inl I) (x.le le1) qo) ?_);rintro v40 K40 hs40 ⟨le2,rfl,ao2,c2,rfl,x2⟩;exact lit 0 (e.v ao2 c2) I (by decide) qk fun b41=>appSq 0 1 (e.v ao2 c2).toList e I I I (oG.imp fun _ _ h=>h.le le2) ⟨ao2,c2,I,x2⟩ I (by simp[Ent.v,Value.oneCell']) I (by decide) (by show (j+1)*48<=_;omega) (by simp only[maxLen];omega) fun ao42 c42 g42 o42=>fin 1 rfl (th (rg (WL.drop (ar 1 rfl (i64w (x:=((k+(j+1):Nat):Int)) qo) (fin 1 rfl (bl (again (x:=(j,(ao,cap,g),K1)) (j+1,(ao42,c42,g42),K40) ⟨rfl,rfl,rfl,rfl,rfl,trivial⟩ rfl rfl ⟨by dsimp only;omega,le1.trans le2,by dsimp only;rw[List.take_add_one,he];exact o42⟩ (by dsimp only;omega))))))))
   ·obtain rfl:j=X.length:=by omega
    rw[List.take_length] at oG;exact ex (xt (xt (xb (th (sq (rg (fin 2 I (th (rt (WQ.frz fun K2 l1 l2=>ret1 I I ⟨le1.trans l1,I,ao,cap,I,oG.slS.le l2 fun _ _ h=>h.le l1⟩))))))))))
  ·refine fin 7 I (th (ifF I ?_));obtain rfl:j=X.length:=by omega
   rw[List.take_length] at oG;exact ex (xt (xt (xb (th (sq (rg (fin 2 I (th (rt (WQ.frz fun K2 l1 l2=>ret1 I I ⟨le1.trans l1,I,ao,cap,I,oG.slS.le l2 fun _ _ h=>h.le l1⟩))))))))))
theorem followLC{w0:World}{K:PH}{hs:List PH}(i t:Nat)(hi:i<=mxU)(ht:t<=mxU)(ao:Option Addr)(cap:Nat)(x:List Ent)(xs:SlS 4 (EntC K) K ao x.length cap x)(hx:∀ e∈x,entB e)(hxl:x.length<=1099511627776):
  Ct Tryz.prog w0 195 [.int .u64 (i:Nat),.int .u64 (t:Nat),.slice ao x.length cap] K hs (fun v K' hs'=>K'=K/\hs'=hs/\v=.int .i64 (fol i t x)):=by
 obtain ⟨ys,hys⟩:=xs.isS;refine entA Tryz.func195 ?_;refine loop (σ:=Nat) (fun j=>[(0,.int .u64 (i:Nat)),(1,.int .u64 (t:Nat)),(2,.slice ao x.length cap),(13,.slice ao x.length cap),(14,.int .i64 x.length),(15,.int .i64 (j:Nat))]) (fun _=>K) (fun _=>hs) (fun j=>j<=x.length/\∀ e∈x.take j,e.ok) (fun j=>x.length-j) 0 ⟨Nat.zero_le _,by simp⟩ ⟨I,I,I,I,I,I,trivial⟩ I I ?_;rintro j ⟨hj,hok⟩;refine sq (rg (cmp 0 I (fun e2=>?_) (fun e2=>?_)))
 ·refine au ?_;have hjx:j<x.length:=by omega
  obtain ⟨e,he⟩:∃ e,x[j]?=some e:=⟨x[j],List.getElem?_eq_getElem hjx⟩;have hem:=List.mem_of_getElem? he;obtain ⟨q1,q2,q3⟩:=hx e hem;obtain ⟨a,rfl⟩:=xs.addr qo (by decide);obtain ⟨c,⟨ae,ce,rfl,xe⟩,_,hcell⟩:=xs.cells he;refine au ?_;refine ixs 0 j I I hys hjx (by decide) fun a17 h17=>?_;cases h17;refine lds 0 (e.v ae ce).toList I qk (.inl I) hcell (al 0 (.agg #[.int .u64 0,.int .u64 0,.int .i64 0,.slice none 0 0]) I qk fun b8=>?_);refine stS 0 0 I I qk I I ?_;refine fin 0 I (th (sq (rg (ldS 0 0 I I qk (cl 0 I (putEntC e ae ce q1 q2 (.inl I) xe q3) ?_)))));rintro v21 K21 hs21 ⟨rfl,h21,ao21,c21,rfl,rfl,o21⟩;refine fin 5 I (th (sq (rg (WL.drop (WL.drop (cmpS 1 I fun b25 h25=>fin 0 I (th (ifP h25 I (fun e4=>?_) (fun e4=>?_)))))))))
  ·have hno:¬e.ok:=fun h=>e4 (ec_zero.2 (putEnt_ok.2 h));refine au ?_;refine ret1 I I ⟨I,I,?_⟩;unfold fol;rw[if_neg];simp only[List.all_eq_true,putEnt_ok];exact fun h=>hno (h e hem)
  ·have hyes:e.ok:=putEnt_ok.1 (ec_zero.1 (Decidable.not_not.1 e4));refine sk (bl (th (rg (ar 0 I (i64w (x:=((j+1:Nat):Int)) qo) (fin 1 I (again (x:=j) (j+1) ⟨I,I,I,I,I,I,trivial⟩ I I ⟨by omega,?_⟩ qo))))));rw[List.take_add_one,he];intro y hy;rcases List.mem_append.1 hy with hy|hy
   ·exact hok y hy
   ·simp at hy;rw[hy];exact hyes
 ·refine au ?_;obtain rfl:j=x.length:=by omega
  rw[List.take_length] at hok;have e0:fol i t x=folR i t x:=by unfold fol;rw[if_pos (by simp only[List.all_eq_true,putEnt_ok];exact hok)]
  rw[e0];refine au ?_;obtain ⟨R,hR⟩:∃ R,R=folR i t x:=⟨_,rfl⟩;rw[<-hR];refine loop (σ:=Nat×Nat×Nat) (fun s=>[(0,.int .u64 s.2.1),(1,.int .u64 s.2.2),(2,.slice ao x.length cap),(27,.slice ao x.length cap),(28,.int .i64 x.length),(29,.int .i64 s.1)]) (fun _=>K) (fun _=>hs) (fun s=>s.1<=x.length/\s.2.1<=mxU/\s.2.2<=mxU/\folR s.2.1 s.2.2 (x.drop s.1)=R) (fun s=>x.length-s.1) (0,i,t) ⟨Nat.zero_le _,hi,ht,hR.symm⟩ ⟨I,I,I,I,I,I,trivial⟩ I I ?_;clear hi ht e0 hR;clear i t;rintro ⟨j,i,t⟩ ⟨hj,hi,ht,hw⟩;dsimp only at *;refine sq (rg (cmp 0 I (fun e6=>?_) (fun e6=>?_)))
  ·refine au ?_;have hjx:j<x.length:=by omega
   obtain ⟨e,he⟩:∃ e,x[j]?=some e:=⟨x[j],List.getElem?_eq_getElem hjx⟩;have hem:=List.mem_of_getElem? he;obtain ⟨q1,q2,q3⟩:=hx e hem;have hne:=(hok e hem).1;obtain ⟨a,rfl⟩:=xs.addr qo (by decide);obtain ⟨c,⟨ae,ce,rfl,xe⟩,_,hcell⟩:=xs.cells he;rw[List.drop_eq_getElem_cons hjx,show x[j]=e from by rw[List.getElem?_eq_getElem hjx] at he;exact Option.some.inj he,folR] at hw;refine au ?_;refine ixs 0 j I I hys hjx (by decide) fun a31 h31=>?_;cases h31;refine lds 0 (e.v ae ce).toList I qk (.inl I) hcell (al 0 (.agg #[.int .u64 0,.int .u64 0,.int .i64 0,.slice none 0 0]) I qk fun b12=>?_);refine stS 0 0 I I qk I I ?_;refine WL.hs (pt b12 (e.v ae ce) 51::hs) I (au ?_);refine ar 1 I (v':=.int .u64 (((i+1) % 18446744073709551616:Nat):Int)) (by rw[<-u64m];rfl) (cmpS 0 rfl fun b37 h37=>?_);unfold mxU at hi ht q1 q2
   refine' bjo (q:=e.term<t) 1 5 43 [37,38] (h37.trans (show _↔e.idx≠i+1 by omega)) I I I I I I I (fun _=>?x8) (fun b43 h43=>?_)
   case x8=>
    refine au ?_;exact cmpS 1 I fun b42 h42=>fin 1 I (bjx (h42.trans qo) I I I)
   refine fin 0 I<|th (ifP h43 I (fun e10=>?_) (fun e10=>?_))
   ·rw[if_pos e10] at hw;refine sq (rg (WL.drop (au ?_)));rw[<-hw];exact ret1 I I ⟨I,I,I⟩
   ·rw[if_neg e10] at hw;refine sk (th (rgm [0] 6 [0,2,4,6,8,10] ?_));exact dldp qk 1 0 I I I (dldp qk 1 0 I I I (dend qk 2 I (bl (th (rg (WL.drop (ar 0 I (i64w (x:=((j+1:Nat):Int)) qo) (fin 1 I (again (x:=(j,i,t)) (j+1,e.idx,e.term) ⟨I,I,I,I,I,I,trivial⟩ I I ⟨by dsimp only;omega,q1,q2,hw⟩ (by dsimp only;omega))))))))))
  ·refine au ?_;obtain rfl:j=x.length:=by omega
   rw[List.drop_length] at hw;refine au ?_;rw[<-hw];exact ret1 I I ⟨I,I,I⟩
end
section
attribute [local irreducible] Code.wp wpList Calls
theorem saveSH{w0:World}{K s h hv:PH}{hs:List PH}(sb b area:Nat)(S:Slt)(hS:SltH K sb b area S s)(hbd:S.bd)(D:Dk)(c:Nat)(o:D.Ok c)(hc:c<=1099511626)(hm:DskH K b D h)(ha:area<=18446744073709551615)
  (v:List UInt8) (ao:Option Addr) (cap:Nat) (hl:v.length<1099511627776) (hin:In K hs hv) (x:IsS hv ao v.length cap 1 (bv v)):
  Ct Tryz.prog w0 194 [.pointer (some ⟨sb,0,none⟩),.slice ao v.length cap] K (s::h::hs)
   (fun u K' hs'=>∃ s' h',hs'=s'::h'::hs/\Le K K'/\SltH K' sb b area (S.save area D v).1 s'/\DskH K' b (S.save area D v).2.1 h'/\u=.int .i64 (S.save area D v).2.2):=
 (saveSC sb b area S hS hbd D c o hc hm ha v ao cap hl hin x).mono fun u K' hs' ⟨le,s',h',e,h1,h2,h3⟩=>⟨s',h',e,le,h1,h2,h3⟩
theorem fitsLC{w0:World}{K hv hd':PH}{m hs:List PH}(lb db:Nat)(L:Lg)(D:Dk)(c:Nat)(hb:LBd c L)(hc:c<=1000000000)(hm:LgM K lb db L D m)(s:Snp)(hi:s.idx<18446744073709551616)(aV:Option Addr)(cV:Nat)(aD:Option Addr)(cD:Nat)(xv:IsS K aV s.vot.length cV 1 (iv s.vot))(hvl:s.vot.length<1099511627776)(hdl:s.data.length<1099511627776):
  Ct Tryz.prog w0 157 [.pointer (some ⟨lb,0,none⟩),.agg (snV s aV cV aD cD)] K (m++hs) (fun v K' hs'=>K'=K/\hs'=m++hs/\v=.int .i64 (L.fits s)):=by
 have hm0:=hm;obtain ⟨wb,hb',eb,aV',cV',aD',cD',aL,cL,wh,hh,eh,gl,dh,rfl,hW,hH,hE,hG,hD,xV,xD⟩:=hm;unfold Lg.fits;refine ent Tryz.func157 ?_;refine sq (rg (bx 0 I fun b3=>?_));refine WL.hs (pt b3 (snV s aV cV aD cD) 48::([_,_,_,_,_,_]++hs)) I (au ?_);refine cmpS 0 I fun b10 h10=>fin 1 I (th (ifP h10 I (fun e2=>?_) (fun e2=>?_)))
 ·rw[if_pos e2];exact sq (rg (ldp 3 1 I I I (fin 1 I (th (rt (rB (rT (WQ.drop (ret1 I I ⟨I,I,I⟩)))))))))
 ·rw[if_neg e2];refine sq (rg (lds 1 [.slice aV s.vot.length cV] I qk (.inr ⟨0,I⟩) (cells_sub _ I) (cl 0 I (rightC aV cV s.vot (.inl I) xv hvl) ?_)));rintro v18 K18 hs18 ⟨rfl,rfl,rfl⟩;refine cbS 0 ((putConf s.vot).isSome=false) I (by cases (putConf s.vot).isSome <;> simp) fun b19 h19=>?_
  refine' bjo (q:=2097152<s.data.length) 1 5 25 [19,20] h19 I I I I I I I (fun _=>?x3) (fun b25 h25=>?_)
  case x3=>
   refine au ?_;exact cmpS 1 I fun b24 h24=>fin 1 I (bjx (h24.trans qo) I I I)
  refine fin 1 I<|th (ifP h25 I (fun e5=>?_) (fun e5=>?_))
  ·rw[if_pos e5];exact sq (rg (fin 1 I (th (rt (rB (rT (WQ.drop (ret1 I I ⟨I,I,I⟩))))))))
  ·rw[if_neg e5];refine sq (rga [pt b3 (snV s aV cV aD cD) 48,pt lb (lgA wb db hb' eb L (.slice aV' L.sn.vot.length cV') (.slice aD' L.sn.data.length cD') (.slice aL L.l.length cL)) 119] 14 [0,2,4,6,8,10,12,14,16,18,20,22,24,26] (by simp) qk qk (au ?_));refine dcmp qk 0 (s.idx<=L.sn.idx) I (by simp) (fun h6=>?_) (fun h6=>?_)
   ·rw[if_pos (.inl h6)];exact dend qk 6 I (th (ifT I (sq (rg (fin 1 I (th (rt (rB (rT (WQ.drop (ret1 I I ⟨I,I,I⟩)))))))))))
   ·refine au ?_;refine dcbS qk 0 (lgTop<=s.idx) I (by unfold lgTop;simp;omega) fun b38 h38=>au ?_;refine ifP h38 I (fun e7=>?_) (fun e7=>?_)
    ·rw[if_pos (.inr e7)];exact sq (rg (fin 1 I (th (rt (rB (rT (WQ.drop (ret1 I I ⟨I,I,I⟩))))))))
    ·rw[if_neg qo];exact sk (bl (th (sq (rg (fin 1 I (th (rt (WQ.drop (ret1 I I ⟨I,I,I⟩)))))))))
theorem syncLC{w0:World}{K:PH}{m hs:List PH}(lb db:Nat)(L:Lg)(D:Dk)(c:Nat)(hb:LBd c L)(hc:c<=1000000000)(oD:DOk c D)(hm:LgM K lb db L D m):
  Ct Tryz.prog w0 144 [.pointer (some ⟨lb,0,none⟩)] K (m++hs) (fun v K' hs'=>K'=K/\∃ m',hs'=m'++hs/\LgM K lb db (L.sync D).1 (L.sync D).2.1 m'/\v=.int .i64 (L.sync D).2.2):=by
 have hm0:=hm;obtain ⟨wb,hb',eb,aV,cV,aD,cD,aL,cL,wh,hh,eh,gl,dh,rfl,hW,hH,hE,hG,hD,xV,xD⟩:=hm;unfold Lg.sync;refine entA Tryz.func144 ?_;refine cmp 0 I (fun e2=>?_) (fun e2=>?_)
 ·refine au ?_;rw[if_pos e2];refine au ?_;exact ret1 I I ⟨I,_,I,hm0,I⟩
 ·refine au ?_;rw[if_neg e2];have e2:=Decidable.not_not.1 e2;refine au ?_;refine cl 0 I (Ct.at2 1 4 I I (syncWH wb db L.w hW D c oD.ok hc hb.w hD)) ?_;rintro v17 K17 hs17 ⟨wh',dh',rfl,rfl,hW',hD',rfl⟩;refine cl 0 I (didLC lb wb db hb' eb L _ _ _ _) ?_;rintro v18 K18 hs18 ⟨_,rfl,rfl,rfl,rfl⟩;have ed:didV L.code (L.w.sync D).1.code=(L.w.sync D).1.code:=by unfold didV;rw[if_pos e2]
  rw[ed];refine au ?_;exact ret1 I I ⟨I,[_,_,_,_,_,_],I,⟨wb,hb',eb,aV,cV,aD,cD,aL,cL,wh',hh,eh,gl,dh',I,hW',hH,hE,hG,hD',xV,xD⟩,I⟩
theorem setHardLC{w0:World}{K:PH}{m hs:List PH}(lb db:Nat)(L:Lg)(D:Dk)(c:Nat)(hb:LBd c L)(hc:c<=1000000000)(oD:DOk c D)(hm:LgM K lb db L D m)(t:Nat)(v:Int)(ht:t<=mxU)(hv : -9223372036854775808<=v/\v<=9223372036854775807):
  Ct Tryz.prog w0 136 [.pointer (some ⟨lb,0,none⟩),.agg #[.int .u64 (t:Nat),.int .i64 v]] K (m++hs) (fun u K' hs'=>Le K K'/\∃ m',hs'=m'++hs/\LgM K' lb db (L.setHard D t v).1 (L.setHard D t v).2.1 m'/\u=.int .i64 (L.setHard D t v).2.2):=by
 have hm0:=hm;obtain ⟨wb,hb',eb,aV,cV,aD,cD,aL,cL,wh,hh,eh,gl,dh,rfl,hW,hH,hE,hG,hD,xV,xD⟩:=hm;unfold Lg.setHard;refine enter Tryz.func136 qk I I I (sq (rg (bx 0 I fun b3=>?_)));refine WL.hs (pt b3 #[.int .u64 (t:Nat),.int .i64 v] 112::([_,_,_,_,_,_]++hs)) I (fin 1 I (th (sq (bk (sq (rg (ldp 3 1 I I I (cmpS 0 I fun b11 h11=>fin 1 I (th (ifP h11 I (fun e2=>?_) (fun e2=>?_)))))))))))
 ·rw[if_pos e2];exact sq (rg (ldp 3 1 I I I (fin 1 I (th (rt (rB (rT (WQ.drop (ret1 I I ⟨Le.refl _,_,I,hm0,I⟩)))))))))
 ·rw[if_neg e2];have e2:=Decidable.not_not.1 e2;refine sq (rg (ldp 1 0 I I I (cmpS 0 I fun b19 h19=>?_)))
  refine' bjo (q:=7<=v) 1 4 24 [19,20] h19 I I I I I I I (fun _=>?x4) (fun b24 h24=>?_)
  case x4=>
   exact ldp 1 0 I I I (cmpS 0 I fun b23 h23=>fin 1 I<|bjx (h23.trans qo) I I I)
  refine fin 1 I<|th (ifP h24 I (fun e6=>?_) (fun e6=>?_))
  ·rw[if_pos e6];exact sq (rg (fin 1 I (th (rt (rB (rT (WQ.drop (ret1 I I ⟨Le.refl _,_,I,hm0,I⟩))))))))
  ·rw[if_neg e6];refine sq (rga [pt b3 #[.int .u64 (t:Nat),.int .i64 v] 112,pt lb (lgA wb db hb' eb L (.slice aV L.sn.vot.length cV) (.slice aD L.sn.data.length cD) (.slice aL L.l.length cL)) 119] 9 [0,2,4,6,8,10,12,14,16] (by simp) qk qk (dldp qk 1 0 I I I (dldp qk 4 1 I I I (dcbS qk 0 (t<L.kt) I (by simp) fun b33 h33=>dend qk 1 I (th (ifP h33 I (fun e7=>?_) (fun e7=>?_)))))))
   ·rw[if_pos e7];exact sq (rg (fin 1 I (th (rt (rB (rT (WQ.drop (ret1 I I ⟨Le.refl _,_,I,hm0,I⟩))))))))
   ·rw[if_neg e7];obtain ⟨u,rfl⟩:∃ u:Nat,v=((u:Nat):Int)-1:=⟨(v+1).toNat,by omega⟩;have eu:(((u:Nat):Int)-1+1).toNat=u:=by omega
    rw[eu]
    have hul:(uint t++uint u).length<=20:=by
     unfold mxU at ht;have h1:=uint_le10 (n:=t) qo;have h2:=uint_le10 (n:=u) qo;rw[List.length_append];omega
    obtain ⟨R,hR⟩:∃ R,R=L.hard.save 0 D (uint t++uint u):=⟨_,rfl⟩;unfold mxU at ht;refine sk (bl (th (WC.em (sq (rga [pt b3 #[.int .u64 (t:Nat),.int .i64 (((u:Nat):Int)-1)] 112] 9 [0,2,6,8,10,12,5,15,16] (by simp) qk qk (dldp qk 1 0 I I I (dldp qk 1 0 I I I (dar qk 0 I (v':=.int .i64 (u:Nat)) (by rw[show ((u:Nat):Int)-1+1=((u:Nat):Int) from by omega];exact i64w qo) (dar qk 0 I (u64w qo) (dact qk 0 I (cl 0 I (putUint none 0 [] t (Own.nil _ _) qo (by decide)) ?_)))))))))));rintro v36 K36 hs36 ⟨h36,rfl,rfl,ao36,c36,rfl,o36⟩;rw[List.nil_append] at o36 ⊢;refine dnx (by simp) I (dact qk 0 I (cl 0 I (putUint ao36 c36 (uint t) u o36 qo (by have:=uint_le10 (n:=t) qo;omega)) ?_));rintro v41 K41 hs41 ⟨h41,rfl,rfl,ao41,c41,rfl,o41⟩;refine dnx (by simp) I (dend qk 1 I (th (sq (sq (rg (ldp 4 2 I I I (cl 1 I (Ct.at2 4 6 I I (saveSH hb' db 0 L.hard hH hb.hard D c oD.ok qo hD qo (uint t++uint u) ao41 c41 qo (.inr ⟨0,I⟩) o41.isS)) ?_)))))))
    rintro v48 K48 hs48 ⟨hh',dh',rfl,le,hH',hD',rfl⟩;rw[<-hR] at hH' hD' ⊢;refine cl 0 I (Ct.at 2 I (didLC lb wb db hb' eb L _ _ _ _)) ?_;rintro v49 K49 hs49 ⟨_,rfl,rfl,rfl,rfl⟩;have ed:didV L.code R.2.2=R.2.2:=by unfold didV;rw[if_pos e2]
    rw[ed];refine cmpS 0 I fun b50 h50=>fin 0 I (th (ifP h50 I (fun e9=>?_) (fun e9=>?_)))
    ·rw[if_pos e9];refine rg (ldS 1 1 I I qk (sts 2 2 I I qk (by simp[lgA]) (fun v hv=>by simp at hv;rcases hv with rfl|rfl <;> rfl) (fin 0 rfl (th (sq (rg (ldp 3 2 rfl rfl rfl (fin 1 rfl (th (rt (WQ.drop (WQ.drop ?_))))))))))));refine ret1 I I ⟨le,[_,_,_,_,_,_],I,⟨wb,hb',eb,aV,cV,aD,cD,aL,cL,wh,hh',eh,gl,dh',?_,hW.le le,hH',hE.le le,hG.imp fun _ _ h=>h.le le,hD',xV.le le,xD.le le⟩,?_⟩
     ·rw[e9,<-e2];rfl
     ·show Value.int .i64 R.2.2=_;rw[e9]
    ·rw[if_neg e9];refine sk (th (sq (rg (ldp 3 2 I I I (fin 1 I (th (rt (WQ.drop (WQ.drop ?_)))))))));exact ret1 I I ⟨le,[_,_,_,_,_,_],I,⟨wb,hb',eb,aV,cV,aD,cD,aL,cL,wh,hh',eh,gl,dh',I,hW.le le,hH',hE.le le,hG.imp fun _ _ h=>h.le le,hD',xV.le le,xD.le le⟩,I⟩
end
section
theorem fld_run{P:Program}{n:Nat}{l:Sl}{o:Oper}{t:Nat}{x:Operand}{i:Nat}{v u:Value}(hop:o.op=.field t x i)(hx:ev l x=some v)(hr:∀ w,(Instr.field t v i).run P w=.ok u w):∀ A w,Ag n l A->(execOp A.eval o).run P w=.ok (.value u) w:=by
 intro A w ha;simp only[execOp,hop,ha.ev hx];rw[Sem.run_bind,hr]
 rfl
section
variable {P:Program} {w0:World} {fn:Func} {R:Value->PH->List PH->Prop} {n:Nat} {l:Sl} {K:PH} {hs:List PH}
theorem res_cc{T:Tab}[hT:TabOK P T](i j:Nat){t ty b ty' u tu b2 ty2:Nat}{k:UK}{x:Value}{c:Array Value}{fr fr2:Nat×Nat}(hr:fn.results=#[.cell t ty,.cell u tu])(hv:look l t=some (.pointer (some ⟨b,0,none⟩)))(hu:look l u=some (.pointer (some ⟨b2,0,none⟩)))(hi:hs[i]?=some (pt b c ty' fr))(hj:hs[j]?=some (pt b2 #[x] ty2 fr2))
  (hm:aggOK P ty c.size=true) (hk:asc T.kinds tu=some k) (h1:k.one=true):∀ a w,Ag n l a->Sat w0 w K hs->(results fn a.tmps).run P w=.ok (.tuple #[.agg c,x]) w:=by
 intro a w ha hw;have h2:=run_loadVarS (P:=P) (w:=w) (t:=ty) (a:=⟨b,0,none⟩) (cs:=c.toList) (by simpa using hm) rfl (fun j v hv=>hw.cell (.inr ⟨i,hi⟩) (cells_pt c.toList (fun j v h=>by simpa using h) j v hv));have e:c.toList.toArray=c:=by simp
 rw[e] at h2
 have h3:(loadVar tu ⟨b2,0,none⟩).run P w=.ok x w:=by
  have:=run_load1 (P:=P) (w:=w) hk h1 (a:=⟨b2,0,none⟩) (v:=x) (hw.cell (.inr ⟨j,hj⟩) (Cell.pt rfl));simpa[Instr.loadAt,Instr.sureAddr] using this
 simp[results,hr,ha.slot t _ hv,ha.slot u _ hu,asAddr,h2,h3]
end
section
variable {P:Program} {w0:World} {fn:Func} {R:Value->PH->List PH->Prop} {n:Nat} {l:Sl} {K:PH} {hs hs':List PH} {v:Value}
theorem retmD{e:Exit}(D m:Nat)(hh:hs=hs'++[dfr D])(he:e=.ret\/e=.normal)(hres:∀ a w,Ag n l a->Sat w0 w K hs'->(results fn a.tmps).run P w=.ok v w)(h:R v K (hs'.drop m)):WQX [mkd D] w0 (bodyPostM (fz none) 0 P fn (endR w0 R)) e n l K hs:=by
 subst hh;intro a w ha hw;have h1:Sat w0 (w.putObj D (.deferred none)) K hs':=(hw.putLast (.deferred none)).dropLast;have h2:=run_takeDeferred (P:=P) (hw.last);rcases he with rfl|rfl <;> exact ⟨by simp,.inl ⟨D,_,rfl,h2,v,hres a _ ha h1,v,K,hs'.drop m,rfl,h,h1.dropN m⟩⟩
end
def backW(l:List (List Value)):List (List Value):=(l.zipIdx.map fun x=>[.int .i64 x.2,.agg x.1.toArray]).reverse
theorem backW_len(l:List (List Value)):(backW l).length=l.length:=by simp[backW]
theorem backW_get{l:List (List Value)}{i:Nat}(h:i<l.length):(backW l)[i]?=some [.int .i64 (l.length-1-i:Nat),.agg (l[l.length-1-i]'qo).toArray]:=by
 unfold backW;rw[List.getElem?_reverse (by simpa using h)];simp only[List.length_map,List.length_zipIdx];rw[List.getElem?_map,List.getElem?_zipIdx,List.getElem?_eq_getElem (show l.length-1-i<l.length by omega)]
 simp
def BackRe(size:Nat)(b:Nat)(ao:Option Addr)(c:Nat)(l:List (List Value))(K:PH)(hs:List PH):Prop:=
 (∃ h,In K hs h/\Cell h ⟨b,0,none⟩ (.slice ao l.length c))/\∃ h,In K hs h/\SlS size (fun c x=>c=x) h ao l.length c l
theorem Al2.refl:∀ l:List (List Value),Al2 (fun c x=>c=x) l l
 | []=>trivial
 | _::r=>⟨rfl,Al2.refl r⟩
theorem find_take{α:Type}{p:α->Bool}{l:List α}{i:Nat}{e:α}(h0:(l.take i).find? p=none)(he:l[i]?=some e)(hp:p e=true):l.find? p=some e:=by
 have hi:=(List.getElem?_eq_some_iff.1 he).1
 have:l=l.take i++(e::l.drop (i+1)):=by
  have h2:l.drop i=e::l.drop (i+1):=by rw[List.drop_eq_getElem_cons hi,show l[i]=e from by rw[List.getElem?_eq_getElem hi] at he;exact Option.some.inj he]
  rw[<-h2,List.take_append_drop]
 rw[this,List.find?_append,h0];simp[hp]
attribute [local irreducible] Code.wp wpList Calls
theorem backEC{w0:World}{K:PH}{hs:List PH}(ao:Option Addr)(n c:Nat):Ct Tryz.prog w0 156 [.slice ao n c] K hs
  (fun v K' hs'=>K'=K/\∃ b,hs'=pt b #[.slice ao n c] 30::hs/\v=.func (.func 205) #[] #[.pointer (some ⟨b,0,none⟩)]):=by
 exact enter Tryz.func156 qk I I I<|sq (rg (bx 0 I fun b1=>fin 1 I<|th (sq<|rg (fin 2 I<|th (rt<|ret1 I I ⟨I,b1,I,I⟩)))))
theorem backEI{w0:World}(b:Nat)(ao:Option Addr)(c:Nat)(l:List (List Value))(hl:l.length<=1099511627776):ItCt Tryz.prog w0 205 [.pointer (some ⟨b,0,none⟩)] (backW l) (BackRe 4 b ao c l):=by
 intro L St Sp hRd hY K hs h0;refine enterX Tryz.func205 qk I I I ?_;obtain ⟨⟨h1,m1,c1⟩,_⟩:=hRd 0 K hs h0;refine sqX (rgX (ld 0 I m1 c1 (ar 1 I (v':=.int .i64 ((l.length:Int)-1-((0:Nat):Int))) (by rw[i64w qo];simp) (fin 1 rfl (nxX (thX (bkX (loopX (σ:=Nat×PH×List PH) (fun s=>[(0,.func (.yield L) #[] #[]),(1,.pointer (some ⟨b,0,none⟩)),(3,.int .i64 ((l.length:Int)-1-((s.1:Nat):Int)))]) (fun s=>s.2.1) (fun s=>s.2.2) (fun s=>s.1<=l.length/\St s.1 s.2.1 s.2.2) (fun s=>l.length-s.1) (0,K,hs) ⟨Nat.zero_le _,h0⟩ ⟨rfl,rfl,rfl,trivial⟩ rfl rfl ?_))))))));rintro ⟨i,K,hs⟩ ⟨hi,hst⟩;dsimp only at *;obtain ⟨⟨h1,m1,c1⟩,h2,m2,c2⟩:=hRd i K hs hst;refine sqX (sqX (rgX (cmpS 1 I fun b8 h8=>fin 0 I (nxX (thX (ifPX h8 I (fun e2=>?_) (fun e2=>?_)))))))
 ·have hil:i<l.length:=by omega
  obtain ⟨a,rfl⟩:=c2.addr qo (by decide);obtain ⟨vs,xs⟩:=c2.isS;obtain ⟨cs,hc,hcl,hcell⟩:=c2.cells (i:=l.length-1-i) (x:=l[l.length-1-i]'qo) (List.getElem?_eq_getElem _);refine skX (thX (sqX (bkX (sqX (rgI (WLI.cut 6 (ld 2 I m1 c1 (ixs 1 (l.length-1-i) I (show _=((l.length-1-i:Nat):Int) by omega) xs qo (by decide) fun a15 ha=>?_))))))));cases ha;refine lds 0 cs I (by rw[hcl];kernel_rfl) m2 hcell (fin 0 rfl (cutX ?_))
  have hv:(backW l)[i]?=some [.int .i64 ((l.length:Int)-1-((i:Nat):Int)),.agg cs.toArray]:=by
   rw[backW_get hil,hc,show ((l.length-1-i:Nat):Int)=(l.length:Int)-1-((i:Nat):Int) from by omega]
  refine yld I (hY i _ K hs hv hst) ?_;rintro v17 K17 hs17 (⟨rfl,hn⟩|⟨rfl,hp⟩)
  ·exact WLI.fin (fin 1 I (nxX (thX (ifFX I (skX (blX (thX (rgX (ar 1 I (v':=.int .i64 ((l.length:Int)-1-((i+1:Nat):Int))) (by rw[i64w qo];congr 1;omega) (fin 1 rfl (nxX (againX (x:=(i,K,hs)) (i+1,K17,hs17) ⟨rfl,rfl,rfl,trivial⟩ rfl rfl ⟨by dsimp only;omega,hn⟩ (by dsimp only;omega)))))))))))))
  ·exact WLI.fin<|fin 1 I (nxX<|thX (ifTX I<|rtX (rBX<|rTX (rTX<|rBX (ret0X I (.inr hp))))))
 ·refine exX (xtX (xtX (xbX ?_)));obtain rfl:i=l.length:=by omega
  exact end0X I (.inl (by rw[backW_len];exact hst))
def cfgP(up:Nat)(e:Ent):Bool:=decide (e.kind=2/\e.idx<=up)
theorem configLC{w0:World}{K:PH}{m hs:List PH}(lb db:Nat)(L:Lg)(D:Dk)(c:Nat)(hb:LBd c L)(hc:c<=1000000000)(hm:LgM K lb db L D m)(up:Nat)(hup:up<=mxU):
  Ct Tryz.prog w0 90 [.pointer (some ⟨lb,0,none⟩),.int .u64 (up:Nat)] K (m++hs)
   (fun v K' hs'=>Le K K'/\hs'=m++hs/\∃ ao cap,v=.tuple #[.agg #[.slice ao (cfgAt L.sn L.l up).1.length cap],.int .u64 (((cfgAt L.sn L.l up).2:Nat):Int)]/\IsS K' ao (cfgAt L.sn L.l up).1.length cap 1 (iv (cfgAt L.sn L.l up).1)):=by
 have hm0:=hm;obtain ⟨wb,hb',eb,aV,cV,aD,cD,aL,cL,wh,hh,eh,gl,dh,rfl,hW,hH,hE,hG,hD,xV,xD⟩:=hm;have h2:=hb.len;have hG0:=hG;obtain ⟨css,hn,oz,hal,hlen⟩:=hG;have hcl:css.length=L.l.length:=hal.len;have hSl:SlS 4 (fun c x=>c=x) gl aL css.length cL css:=⟨css,rfl,by rw[hcl];exact oz.isS,Al2.refl css,hlen⟩;obtain ⟨A,hA⟩:∃ A,A=lgA wb db hb' eb L (.slice aV L.sn.vot.length cV) (.slice aD L.sn.data.length cD) (.slice aL L.l.length cL):=⟨_,rfl⟩;have hA8:A[12]?=some (.slice aL css.length cL):=by rw[hA,hcl];rfl
 have hA6:A[6]?=some (.int .u64 L.sn.idx):=by rw[hA];rfl
 rw[<-hA] at hm0 ⊢;refine enterX Tryz.func90 qk I I I (sqX (rgX (bx 0 I fun b3=>al 0 (.agg #[.slice none 0 0]) I qk fun b4=>al 0 (.int .u64 0) I qk fun b5=>fin 0 I (nxX (thX (sqX (sqX (rgX (ldp 3 3 I I hA8 (cl 0 I (backEC aL css.length cL) ?_))))))))));rintro v14 K14 hs14 ⟨rfl,b1,rfl,rfl⟩;refine fin 0 I (nxX (thX (bkX (WX.frz fun K1 le1 l1=>WX.perm (hs':=(pt b5 #[.int .u64 0] 29::pt b4 #[.slice none 0 0] 46::pt b3 #[.int .u64 (up:Nat)] 29::pt lb A 119::wh::hh::eh::gl::dh::hs)) (List.Perm.refl _) ?_))))
 refine rgf [.pointer (some ⟨b1,0,none⟩)] (backW css) (BackRe 4 b1 aL cL css) I (backEI b1 aL cL css qo) qk (fun vs hv=>?_) I
  (fun i K' hs'=>K'=K1/\hs'=pt b5 #[.int .u64 0] 29::pt b4 #[.slice none 0 0] 46::pt b3 #[.int .u64 (up:Nat)] 29::pt lb A 119::wh::hh::eh::gl::dh::hs/\(L.l.reverse.take i).find? (cfgP up)=none)
  (fun c K' hs'=>c=.ret/\Le K1 K'/\∃ ao cap x,hs'=pt b5 #[.int .u64 (((cfgAt L.sn L.l up).2:Nat):Int)] 29::pt b4 #[.slice ao (cfgAt L.sn L.l up).1.length cap] 46::x::pt lb A 119::wh::hh::eh::gl::dh::hs/\IsS K' ao (cfgAt L.sn L.l up).1.length cap 1 (iv (cfgAt L.sn L.l up).1))
  ⟨rfl,rfl,by simp⟩ (fun i K' hs' t u h=>by obtain ⟨rfl,rfl,_⟩:=h;exact ⟨⟨K',.inl I,(Cell.pt I).le l1⟩,gl,.inr ⟨7,I⟩,hSl⟩) ?_ ?_ ?_
 ·obtain ⟨y,_,rfl⟩:=List.mem_map.1 (List.mem_reverse.1 hv)
  rfl
 ·rintro LL i vs K' hs' t u hvs ⟨rfl,rfl,hno⟩;have hi:i<css.length:=by have:=(List.getElem?_eq_some_iff.1 hvs).1;rw[backW_len] at this;exact this
  rw[backW_get hi] at hvs;cases hvs;have hi2:css.length-1-i<L.l.length:=by omega
  obtain ⟨e,he⟩:∃ e,L.l[css.length-1-i]?=some e:=⟨L.l[css.length-1-i],List.getElem?_eq_getElem hi2⟩;obtain ⟨d,hd,ao,cap,hdv,xe⟩:=hal.get he
  have hcs:css[css.length-1-i]'qo=(e.v ao cap).toList:=by
   rw[List.getElem?_eq_getElem qo] at hd;rw[<-hdv];exact Option.some.inj hd
  rw[hcs,Array.toArray_toList]
  have her:L.l.reverse[i]?=some e:=by
   rw[List.getElem?_reverse qo,<-hcl];exact he
  have hem:=hb.ents e (List.mem_of_getElem? he);have hel:=held_len hem.1.2.2;refine rgX (al 0 (.agg #[.int .u64 0,.int .u64 0,.int .i64 0,.slice none 0 0]) I qk fun b7=>?_);refine stS 0 0 I I qk I I ?_;refine fin 0 I (nxX (asgX (hs':=pt b7 (e.v ao cap) 51::pt b5 #[.int .u64 0] 29::pt b4 #[.slice none 0 0] 46::pt b3 #[.int .u64 (up:Nat)] 29::pt lb A 119::wh::hh::eh::gl::dh::hs) I fun u=>bkX (sqX (rgX (ldp 1 0 I I I (cmpS 0 I fun b19 h19=>?_))))))
  refine' bja (q:=e.idx<=up) 1 5 25 [19,20] h19 I I I I I I I (fun _=>?x2) (fun b25 h25=>?_)
  case x2=>
   exact ldp 1 0 I I I<|ldp 0 3 I I I (cmpS 0 I fun b24 h24=>fin 1 I<|bjx (h24.trans qo) I I I)
  refine fin 0 I<|nxX (thX<|ifPX h25 I (fun e4=>?_) (fun e4=>?_))
  ·have hcfg:cfgAt L.sn L.l up=((getConf e.data).getD [],e.idx):=by
    unfold cfgAt;have:L.l.reverse.find? (fun e=>decide (e.kind=2/\e.idx<=up))=some e:=find_take hno her (by simp[cfgP,e4.1,e4.2]);rw[this]
   refine sqX (rgX (ldp 1 0 I I I (cl 0 I (getConfC ao cap e.data (.inl I) (xe.le le1) qo) ?_)));rintro v29 K29 hs29 ⟨rfl,h29,ao29,c29,rfl,rfl,o29⟩;refine WL.frz fun K2 le2 l2=>al 3 (.agg #[.slice none 0 0]) I qk fun b8=>?_;refine stS 0 0 I I qk I I ?_;refine WL.hs (pt b8 #[.slice ao29 ((getConf e.data).getD []).length c29] 46::pt b7 (e.v ao cap) 51::pt b5 #[.int .u64 0] 29::pt b4 #[.slice none 0 0] 46::pt b3 #[.int .u64 (up:Nat)] 29::pt lb A 119::wh::hh::eh::gl::dh::(hs++[t,u])) I (fin 1 I (nxX (thX (sqX (rgaX [pt b8 #[.slice ao29 ((getConf e.data).getD []).length c29] 46,pt b7 (e.v ao cap) 51] 5 [0,2,4,7,9] (by simp) qk qk (dldS qk 0 0 I qk I qk (dldp qk 1 1 I I I (dact qk 0 I ?_))))))));refine stS 0 3 I I qk I I ?_;refine dnx (by simp) I (dact qk 0 I (stp 0 2 I I I I (dnx (by simp) I (dend qk 0 I (nxX (thX (rtX (rBX (WQX.drop (WQX.drop (jmpR (hs':=pt b5 #[.int .u64 e.idx] 29::pt b4 #[.slice ao29 ((getConf e.data).getD []).length c29] 46::pt b3 #[.int .u64 (up:Nat)] 29::pt lb A 119::wh::hh::eh::gl::dh::hs) I ?_)))))))))))
   rw[hcfg];exact ⟨I,le2,ao29,c29,_,I,o29.isS.le l2⟩
  ·refine skX (blX (WQX.drop (rndX (hs':=pt b5 #[.int .u64 0] 29::pt b4 #[.slice none 0 0] 46::pt b3 #[.int .u64 (up:Nat)] 29::pt lb A 119::wh::hh::eh::gl::dh::hs) I (⟨I,I,?_⟩))));rw[List.take_add_one,her,List.find?_append,hno];simp only[Option.toList_some,List.find?_cons,List.find?_nil,Option.none_or];rw[show cfgP up e=false from by unfold cfgP;simp only[decide_eq_false_iff_not];omega]
 ·rintro DD K' hs' ⟨rfl,rfl,hno⟩;rw[backW_len,List.take_of_length_le (by simp;omega)] at hno
  have hcfg:cfgAt L.sn L.l up=(L.sn.vot,L.sn.idx):=by
   unfold cfgAt;have:L.l.reverse.find? (fun e=>decide (e.kind=2/\e.idx<=up))=none:=hno;rw[this]
  refine blX (thX (sqX (rgaX [pt lb A 119] 10 [0,6,8,10,12,14,3,4,17,19] (by simp) qk qk (dldp qk 5 0 I I hA6 (dact qk 0 I ?_)))));refine WL.perm (hs':=[pt lb A 119,wh,hh,eh,gl,dh]++(pt b5 #[.int .u64 0] 29::pt b4 #[.slice none 0 0] 46::pt b3 #[.int .u64 (up:Nat)] 29::(hs++[dfr DD]))) (List.perm_append_comm_assoc [_,_,_] [_,_,_,_,_,_] _) (cl 0 I (snapLC lb db L D c hb (hm0.le le1)) ?_);rintro v36 K36 hs36 ⟨le3,rfl,aV2,cV2,aD2,cD2,rfl,xV2,xD2⟩;refine WL.perm (hs':=pt b5 #[.int .u64 0] 29::pt b4 #[.slice none 0 0] 46::pt b3 #[.int .u64 (up:Nat)] 29::pt lb A 119::wh::hh::eh::gl::dh::(hs++[dfr DD])) (List.perm_append_comm_assoc [_,_,_,_,_,_] [_,_,_] _) (dnxL (by simp) le3 (dopr qk 0 (v:=.agg #[.slice aV2 L.sn.vot.length cV2]) I (fun A' w ha _=>?_) ?_))
  ·exact fld_run (t:=48) (x:=.tmp 36) (i:=2) (v:=.agg (snV L.sn aV2 cV2 aD2 cD2)) I I (fun w=>by kernel_rfl) A' w ha
  refine dact qk 0 I ?_;refine stS 0 1 I I qk I I ?_;refine dnx (by simp) I (dact qk 0 I (stp 0 0 I I I I (dnx (by simp) I (dend qk 0 I (nxX (thX (rtX (retmD DD 3 (hs':=pt b5 #[.int .u64 L.sn.idx] 29::pt b4 #[.slice aV2 L.sn.vot.length cV2] 46::pt b3 #[.int .u64 (up:Nat)] 29::pt lb A 119::wh::hh::eh::gl::dh::hs) I (.inl I) (res_cc 1 0 I I I I I qk I I) ?_))))))));rw[hcfg];exact ⟨le1.trans le3,I,aV2,cV2,I,xV2⟩
 ·rintro DD c' K' hs' ⟨rfl,le2,ao,cap,x,rfl,xs⟩;exact rtX (retmD DD 3 (hs':=pt b5 #[.int .u64 (((cfgAt L.sn L.l up).2:Nat):Int)] 29::pt b4 #[.slice ao (cfgAt L.sn L.l up).1.length cap] 46::x::pt lb A 119::wh::hh::eh::gl::dh::hs) I (.inl I) (res_cc 1 0 I I I I I qk I I) (⟨le1.trans le2,I,ao,cap,I,xs⟩))
end
section
theorem app1_step(e:Ent)(r:List Ent)(L:Lg)(D:Dk):Lg.app1 (e::r) L D =
  if (L.w.append e.bytes D).2.2≠0 then ({ L with w:=(L.w.append e.bytes D).1,code:=(L.w.append e.bytes D).2.2 },(L.w.append e.bytes D).2.1,(L.w.append e.bytes D).2.2)
  else Lg.app1 r { L with w:=(L.w.append e.bytes D).1,l:=L.l++[e] } (L.w.append e.bytes D).2.1:=rfl
def entG(e:Ent):Prop:=e.ok/\e.idx<=mxU/\e.term<=mxU
theorem LBd.w1{c:Nat}{L:Lg}(o:LBd c L)(b:List UInt8)(D:Dk)(k:Int):LBd (c+12) { L with w:=(L.w.append b D).1,code:=k }:=
 ⟨o.w.append b D,o.hard,o.head,o.kt,o.kv,o.idx,o.st,o.vot,o.data,by have:=o.place;dsimp only;omega,by have:=o.fr;dsimp only;omega,by have:=o.len;dsimp only;omega,o.ents⟩
theorem LBd.w2{c:Nat}{L:Lg}(o:LBd c L)(b:List UInt8)(D:Dk)(e:Ent)(he:entG e):LBd (c+12) { L with w:=(L.w.append b D).1,l:=L.l++[e] }:=
 ⟨o.w.append b D,o.hard,o.head,o.kt,o.kv,o.idx,o.st,o.vot,o.data,by have:=o.place;dsimp only;omega,by have:=o.fr;dsimp only;omega,by have:=o.len;dsimp only;rw[List.length_append];simp only[List.length_cons,List.length_nil];omega,fun y hy=>by
  rcases List.mem_append.1 hy with hy|hy
  ·exact o.ents y hy
  ·simp at hy;rw[hy];exact he⟩
theorem LBd.app1:∀ (x:List Ent) (L:Lg) (D:Dk) (c:Nat),LBd c L->DOk c D->(∀ e∈x,entG e)->c+12*x.length<=999999990->LBd (c+12*x.length) (Lg.app1 x L D).1/\DOk (c+12*x.length) (Lg.app1 x L D).2.1
 | [],L,D,c,o,d,_,_=>⟨o,d⟩
 | e::r,L,D,c,o,d,hx,hc=>by
  simp only[List.length_cons] at hc;rw[app1_step]
  split
  ·exact ⟨(o.w1 e.bytes D _).up (by simp only[List.length_cons];omega),(d.append o.w qo _).up (by simp only[List.length_cons];omega)⟩
  ·have:=LBd.app1 r _ _ (c+12) (o.w2 e.bytes D e (hx e (by simp))) (d.append o.w qo e.bytes) (fun y hy=>hx y (by simp[hy])) qo;rw[show c+12+12*r.length=c+12*(e::r).length from by simp only[List.length_cons];omega] at this;exact this
theorem fol_ok{i t:Nat}{x:List Ent}(h:fol i t x=0):∀ e∈x,e.ok:=by
 unfold fol at h
 split at h
 ·rename_i h1;simp only[List.all_eq_true,putEnt_ok] at h1;exact h1
 ·cases h
theorem putEnt_eq{e:Ent}(h:e.ok):putEnt e=some e.bytes:=if_pos h
attribute [local irreducible] Code.wp wpList Calls
theorem appendLC{w0:World}{K:PH}{m hs:List PH}(lb db:Nat)(L:Lg)(D:Dk)(c:Nat)(hb:LBd c L)(oD:DOk c D)(hm:LgM K lb db L D m)(ao:Option Addr)(cap:Nat)(x:List Ent)(xs:SlS 4 (EntC K) K ao x.length cap x)(hx:∀ e∈x,entB e)(hc:c+12*x.length<=999999000):
  Ct Tryz.prog w0 153 [.pointer (some ⟨lb,0,none⟩),.slice ao x.length cap] K (m++hs) (fun u K' hs'=>Le K K'/\∃ m',hs'=m'++hs/\LgM K' lb db (L.append x D).1 (L.append x D).2.1 m'/\u=.int .i64 (L.append x D).2.2):=by
 have hm0:=hm;obtain ⟨wb,hb',eb,aV,cV,aD,cD,aL,cL,wh,hh,eh,gl,dh,rfl,hW,hH,hE,hG,hD,xV,xD⟩:=hm;unfold Lg.append;have hidx:=hb.idx;have hlen:=hb.len;unfold lgTop at hidx;refine entA Tryz.func153 ?_;refine cmpS 0 I fun b16 h16=>fin 0 I (th (ifP h16 I (fun e2=>?_) (fun e2=>?_)))
 ·rw[if_pos e2];refine au ?_;exact ret1 I I ⟨Le.refl _,_,I,hm0,I⟩
 ·rw[if_neg e2];have hcode:=Decidable.not_not.1 e2;refine sk (th (sq (rg (cl 2 I (lastLC lb db L D c hb qo hm0) ?_))));rintro v24 K24 hs24 ⟨rfl,rfl,rfl⟩;refine cl 0 I (termLC lb db L D c hb qo hm0 _ qo) ?_;rintro v25 K25 hs25 ⟨rfl,rfl,rfl⟩
  have ht:(trm L.sn L.l (L.sn.idx+L.l.length)).1<=mxU:=by
   unfold trm
   split
   ·exact hb.st
   ·split
    ·exact Nat.zero_le _
    ·cases hg:L.l[L.sn.idx+L.l.length-L.sn.idx-1]? with
     | none=>exact Nat.zero_le _
     | some e=>exact (hb.ents e (List.mem_of_getElem? hg)).2.2
  refine au ?_;refine cl 1 I (lastLC lb db L D c hb qo hm0) ?_;rintro v29 K29 hs29 ⟨rfl,rfl,rfl⟩;refine cl 2 I (followLC _ _ (by unfold mxU;omega) ht ao cap x xs hx qo) ?_;rintro v32 K32 hs32 ⟨rfl,rfl,rfl⟩;have el:L.last=L.sn.idx+L.l.length:=rfl;rw[el];refine au ?_;refine cmpS 1 I fun b34 h34=>fin 0 I (th (ifP h34 I (fun e4=>?_) (fun e4=>?_)))
  ·rw[if_pos e4];refine au ?_;exact ret1 I I ⟨Le.refl _,_,I,hm0,I⟩
  ·rw[if_neg e4];have hok:=fol_ok (Decidable.not_not.1 e4);obtain ⟨R,hR⟩:∃ R,R=Lg.app1 x L D:=⟨_,rfl⟩;rw[<-hR];obtain ⟨ys,hys⟩:=xs.isS;refine au ?_
   refine loop (σ:=(Nat×Lg×Dk)×List PH×PH) (fun s=>[(0,.pointer (some ⟨lb,0,none⟩)),(36,.slice ao x.length cap),(37,.int .i64 x.length),(38,.int .i64 s.1.1)]) (fun s=>s.2.2) (fun s=>s.2.1++hs)
    (fun s=>s.1.1<=x.length/\Lg.app1 (x.drop s.1.1) s.1.2.1 s.1.2.2=R/\LBd (c+12*s.1.1) s.1.2.1/\DOk (c+12*s.1.1) s.1.2.2/\s.1.2.1.code=0/\Le K32 s.2.2/\LgM s.2.2 lb db s.1.2.1 s.1.2.2 s.2.1) (fun s=>x.length-s.1.1)
    ((0,L,D),[_,_,_,_,_,_],K32) ⟨Nat.zero_le _,hR.symm,hb,oD,hcode,Le.refl _,hm0⟩ ⟨rfl,rfl,rfl,rfl,trivial⟩ rfl rfl ?_
   clear hm0 hW hH hE hG hD xV xD hR hcode h16 h34 e4 e2 ht;clear hidx hlen hb oD;clear el L D;clear wh hh eh gl dh;rintro ⟨⟨j,L,D⟩,m,K1⟩ ⟨hj,hw,hb,oD,hcode,le1,hm⟩;dsimp only at *;obtain ⟨wb,hb',eb,aV,cV,aD,cD,aL,cL,wh,hh,eh,gl,dh,rfl,hW,hH,hE,hG,hD,xV,xD⟩:=id hm;refine sq (rg (cmp 0 I (fun e6=>?_) (fun e6=>?_)))
   ·refine au ?_;have hjx:j<x.length:=by omega
    obtain ⟨e,he⟩:∃ e,x[j]?=some e:=⟨x[j],List.getElem?_eq_getElem hjx⟩;have hem:=List.mem_of_getElem? he;obtain ⟨q1,q2,q3⟩:=hx e hem;have hoke:=hok e hem;obtain ⟨a,rfl⟩:=xs.addr qo (by decide);obtain ⟨cc,⟨ae,ce,rfl,xe⟩,_,hcell⟩:=xs.cells he;rw[List.drop_eq_getElem_cons hjx,show x[j]=e from by rw[List.getElem?_eq_getElem hjx] at he;exact Option.some.inj he,app1_step] at hw;obtain ⟨V,hV⟩:∃ V,V=L.w.append e.bytes D:=⟨_,rfl⟩;have hb1:=hb.w1 e.bytes D V.2.2;have hb2:=hb.w2 e.bytes D e ⟨hoke,q1,q2⟩;have oD1:=oD.append hb.w qo e.bytes;have hll:=hb.len;rw[<-hV] at hb1 hb2 oD1 hw;refine au ?_;refine ixs 0 j I I (hys.le le1) hjx (by decide) fun a40 h40=>?_;cases h40;refine lds 0 (e.v ae ce).toList I qk (.inl I) (fun j v hv=>(hcell j v hv).le le1) (al 0 (.agg #[.int .u64 0,.int .u64 0,.int .i64 0,.slice none 0 0]) I qk fun b9=>?_);refine stS 0 0 I I qk I I ?_;refine fin 0 I (th (sq (rg (ldS 0 0 I I qk (cl 0 I (putEntC e ae ce q1 q2 (.inl I) (xe.le le1) q3) ?_)))))
    rintro v44 K44 hs44 ⟨rfl,h44,ao44,c44,rfl,rfl,o44⟩;rw[putEnt_eq hoke] at o44 ⊢;have o44:Own h44 ao44 e.bytes.length c44 5 1 (bv e.bytes):=o44;have hel:=e.bytes_length hoke q1 q2;refine au ?_;refine cl 1 I (Ct.at2 3 6 I I (appendWH wb db L.w hW D (c+12*j) oD qo hb.w hD ao44 c44 e.bytes qo (.inr ⟨0,I⟩) o44.isS)) ?_;rintro v53 K53 hs53 ⟨wh',dh',rfl,le2,hW',hD',rfl⟩;rw[<-hV] at hW' hD' ⊢;refine cl 0 I (Ct.at 2 I (didLC lb wb db hb' eb L _ _ _ _)) ?_;rintro v54 K54 hs54 ⟨_,rfl,rfl,rfl,rfl⟩;have ed:didV L.code V.2.2=V.2.2:=by unfold didV;rw[if_pos hcode]
    rw[ed];refine cmpS 0 I fun b55 h55=>fin 0 I (th (ifP h55 I (fun e8=>?_) (fun e8=>?_)))
    ·rw[if_pos e8] at hw;refine sq (rg (ldp 3 2 I I I (fin 1 I (th (rt (rT (rB (rT (rT (rB (rT (WQ.drop (WQ.drop ?_)))))))))))));rw[<-hw];exact ret1 I I ⟨le1.trans le2,[_,_,_,_,_,_],I,⟨wb,hb',eb,aV,cV,aD,cD,aL,cL,wh',hh,eh,gl,dh',I,hW',hH.le le2,hE.le le2,hG.imp fun _ _ h=>h.le le2,hD',xV.le le2,xD.le le2⟩,I⟩
    ·have e8:=Decidable.not_not.1 e8;rw[if_neg (by rw[e8];simp)] at hw;have eL:({ L with code:=V.2.2 }:Lg)=L:=by rw[e8,<-hcode]
     rw[eL];refine sk (th (rga [pt lb (lgA wb db hb' eb L (.slice aV L.sn.vot.length cV) (.slice aD L.sn.data.length cD) (.slice aL L.l.length cL)) 119,pt b9 (e.v ae ce) 51] 11 [0,2,4,6,8,10,13,15,17,18,20,23] (by simp) qk qk (dldpw qk 4 0 I qk I I (dldS qk 0 1 I qk I qk (dact qk 0 I (cl 0 I (copiedC e ae ce (.inl I) (xe.le (le1.trans le2)) q3) ?_))))));rintro v66 K66 hs66 ⟨le3,rfl,ao2,c2,rfl,x2⟩;refine dnxL (by simp) le3 (au ?_);refine lit 0 (e.v ao2 c2) I (by decide) qk fun b67=>dnx (by simp) I (dact qk 0 I (appSq 0 7 (e.v ao2 c2).toList e I I I (hG.imp fun _ _ h=>h.le (le2.trans le3)) ⟨ao2,c2,I,x2⟩ I (by simp[Ent.v,Value.oneCell']) I (by decide) (by show (L.l.length+1)*48<=_;omega) (by simp only[maxLen];omega) fun ao68 c68 g68 o68=>dnx (by simp) rfl (dact qk 2 rfl (stp 0 3 rfl rfl rfl rfl (dnext (.inl qk) (dend qk 0 rfl (bl (th (rg (WL.drop (WL.drop (WL.drop (ar 0 rfl (i64w (x:=((j+1:Nat):Int)) qo) (fin 1 rfl ?_))))))))))))))
     have le23:=le2.trans le3;exact again (x:=((j,L,D),[],em)) ((j+1,{ L with w:=V.1,l:=L.l++[e] },V.2.1),[_,_,_,_,_,_],K66) ⟨I,I,I,I,trivial⟩ I I ⟨by dsimp only;omega,hw,hb2.up (by dsimp only;omega),oD1.up (by dsimp only;omega),hcode,le1.trans le23,⟨wb,hb',eb,aV,cV,aD,cD,ao68,c68,wh',hh,eh,g68,dh',by rw[List.length_append];rfl,hW'.le le3,hH.le le23,hE.le le23,by rw[List.length_append];exact o68,hD'.le le3,xV.le le23,xD.le le23⟩⟩ (by dsimp only;omega)
   ·refine au ?_;obtain rfl:j=x.length:=by omega
    rw[List.drop_length] at hw;have hw:(L,D,(0:Int))=R:=hw;refine au ?_;rw[<-hw];exact ret1 I I ⟨le1,[_,_,_,_,_,_],I,hm,I⟩
end
section
theorem folR_idx:∀ (x:List Ent) (i t:Nat),folR i t x=0->∀ j e,x[j]?=some e->e.idx=i+j+1
 | [],_,_,_,j,e,h=>by simp at h
 | a::r,i,t,h,j,e,he=>by
  rw[folR] at h
  split at h
  ·cases h
  ·rename_i h1;have ha:a.idx=i+1:=by omega
   cases j with
   | zero=>simp at he;subst he;omega
   | succ j=>
    have:=folR_idx r _ _ h j e (by simpa using he);omega
theorem fol_folR{i t:Nat}{x:List Ent}(h:fol i t x=0):folR i t x=0:=by
 grind [fol]
theorem skp_suf(s:Snp)(l:List Ent):∀ (x:List Ent) (b:Bool),(skp s l x b).1 <:+ x
 | [],b=>List.suffix_refl _
 | e::r,b=>by
  unfold skp
  split
  ·exact List.suffix_refl _
  ·exact (skp_suf s l r true).trans<|List.suffix_cons e r
theorem skp_cons(s:Snp)(l:List Ent)(e:Ent)(r:List Ent)(b:Bool):skp s l (e::r) b=if (trm s l e.idx).2=false\/(trm s l e.idx).1≠e.term then (e::r,(trm s l e.idx).2) else skp s l r true:=rfl
theorem lgAt_le(s:Snp)(l:List Ent)(i:Nat):(lgAt s l i).getD 0<=l.length:=by
 grind [lgAt]
theorem LBd.wc{c d:Nat}{L:Lg}(o:LBd c L){W:Wl}(h:WBd d W)(hcd:c<=d)(k:Int):LBd d { L with w:=W,code:=k }:=
 ⟨h,o.hard,o.head,o.kt,o.kv,o.idx,o.st,o.vot,o.data,by have:=o.place;dsimp only;omega,by have:=o.fr;dsimp only;omega,by have:=o.len;dsimp only;omega,o.ents⟩
theorem LBd.cutAt{c:Nat}{L:Lg}(o:LBd c L)(i:Nat)(D:Dk):LBd (c+1) (L.cutAt i (L.w.truncate i D).1):=
 ⟨o.w.truncate i D,o.hard,o.head,o.kt,o.kv,o.idx,o.st,o.vot,o.data,by have:=o.place;unfold Lg.cutAt;dsimp only;omega,by have:=o.fr;unfold Lg.cutAt;dsimp only;omega,by have:=o.len;grind [Lg.cutAt],fun y hy=>o.ents y (List.mem_of_mem_take hy)⟩
theorem LBd.append{c:Nat}{L:Lg}(o:LBd c L){D:Dk}(d:DOk c D)(x:List Ent)(hx:∀ e∈x,e.idx<=mxU/\e.term<=mxU)(hc:c+12*x.length<=999999990):LBd (c+12*x.length) (L.append x D).1/\DOk (c+12*x.length) (L.append x D).2.1:=by
 unfold Lg.append
 split
 ·exact ⟨o.up qo,d.up qo⟩
 ·split
  ·exact ⟨o.up qo,d.up qo⟩
  ·rename_i h;have hok:=fol_ok (Decidable.not_not.1 h);exact LBd.app1 x L D c o d (fun e he=>⟨hok e he,hx e he⟩) hc
theorem LBd.merge3{c:Nat}{L:Lg}(o:LBd c L){D:Dk}(d:DOk c D)(x:List Ent)(last:Nat)(hx:∀ e∈x,e.idx<=mxU/\e.term<=mxU)(hc:c+12*x.length<=999999990):LBd (c+12*x.length) (L.merge3 x last D).1/\DOk (c+12*x.length) (L.merge3 x last D).2.1:=by
 have:=o.append d x hx hc;unfold Lg.merge3
 split <;> exact this
theorem LBd.merge2{c:Nat}{L:Lg}(o:LBd c L){D:Dk}(d:DOk c D)(x:List Ent)(last:Nat)(hx:∀ e∈x,e.idx<=mxU/\e.term<=mxU)(hc:c+2+12*x.length<=999999990):LBd (c+2+12*x.length) (L.merge2 x last D).1/\DOk (c+2+12*x.length) (L.merge2 x last D).2.1:=by
 have hsuf:=skp_suf L.sn L.l x true;have hmem:∀ e∈(skp L.sn L.l x true).1,e.idx<=mxU/\e.term<=mxU:=fun e he=>hx e (hsuf.subset he);have hlen:=hsuf.length_le;unfold Lg.merge2
 split
 ·have:=o.merge3 d [] last (by simp) (by simp;omega);exact ⟨this.1.up (by simp;omega),this.2.up (by simp;omega)⟩
 ·rename_i e r h;rw[h] at hmem hlen;have hie:e.idx<18446744073709551616:=by grind [mxU]
  have hd2:=d.truncate o.w qo e.idx hie
  split
  ·split
   ·exact ⟨(o.wc (o.w.truncate e.idx D) qo _).up qo,hd2.up qo⟩
   ·have:=((o.cutAt e.idx D).up (show c+1<=c+2 by omega)).merge3 hd2 (e::r) last hmem qo;exact ⟨this.1.up qo,this.2.up qo⟩
  ·have:=o.merge3 d (e::r) last hmem qo;exact ⟨this.1.up qo,this.2.up qo⟩
theorem LBd.merge1{c:Nat}{L:Lg}(o:LBd c L){D:Dk}(d:DOk c D)(i t:Nat)(x:List Ent)(last:Nat)(hx:∀ e∈x,e.idx<=mxU/\e.term<=mxU)(hc:c+2+12*x.length<=999999990):LBd (c+2+12*x.length) (L.merge1 i t x last D).1/\DOk (c+2+12*x.length) (L.merge1 i t x last D).2.1:=by
 unfold Lg.merge1
 split
 ·exact ⟨o.up qo,d.up qo⟩
 ·exact o.merge2 d x last hx hc
theorem LBd.merge{c:Nat}{L:Lg}(o:LBd c L){D:Dk}(d:DOk c D)(i t:Nat)(x:List Ent)(hx:∀ e∈x,e.idx<=mxU/\e.term<=mxU)(hc:c+2+12*x.length<=999999990):LBd (c+2+12*x.length) (L.merge i t x D).1/\DOk (c+2+12*x.length) (L.merge i t x D).2.1:=by
 have h0:LBd (c+2+12*x.length) L/\DOk (c+2+12*x.length) D:=⟨o.up qo,d.up qo⟩;unfold Lg.merge
 split
 ·exact h0
 ·split
  ·exact h0
  ·split
   ·split
    ·exact h0
    ·split
     ·exact h0
     ·have:=o.merge1 d L.sn.idx L.sn.term (x.drop (L.sn.idx-i)) (i+x.length) (fun e he=>hx e (List.mem_of_mem_drop he)) (by rw[List.length_drop];omega);exact ⟨this.1.up (by rw[List.length_drop];omega),this.2.up (by rw[List.length_drop];omega)⟩
   ·exact o.merge1 d i t x _ hx hc
theorem trm_le{c:Nat}{L:Lg}(hb:LBd c L)(i:Nat):(trm L.sn L.l i).1<=mxU:=by
 unfold trm
 split
 ·exact hb.st
 ·split
  ·omega
  ·cases hg:L.l[i-L.sn.idx-1]? with
   | none=>exact Nat.zero_le _
   | some e=>exact (hb.ents e (List.mem_of_getElem? hg)).2.2
end
section
def okM(r:Nat×Bool×Int):Value:=.tuple #[.int .u64 r.1,.bool r.2.1,.int .i64 r.2.2]
theorem merge2_nil{L:Lg}{x:List Ent}{B:Bool}{last:Nat}{D:Dk}(h:skp L.sn L.l x true=([],B)):L.merge2 x last D=L.merge3 [] last D:=by
 unfold Lg.merge2
 split
 ·rfl
 ·rename_i h2;rw[h] at h2;cases h2
theorem merge2_cons{L:Lg}{x:List Ent}{e:Ent}{r:List Ent}{B:Bool}{last:Nat}{D:Dk}(h:skp L.sn L.l x true=(e::r,B)):L.merge2 x last D=if B=true then
    (if (L.w.truncate e.idx D).2.2≠0 then ({ L with w:=(L.w.truncate e.idx D).1,code:=(L.w.truncate e.idx D).2.2 },(L.w.truncate e.idx D).2.1,0,false,(L.w.truncate e.idx D).2.2)
     else (L.cutAt e.idx (L.w.truncate e.idx D).1).merge3 (e::r) last (L.w.truncate e.idx D).2.1)
   else L.merge3 (e::r) last D:=by
 unfold Lg.merge2
 split
 ·rename_i h2;rw[h] at h2;cases h2
 ·rename_i e' r' h2;rw[h] at h2 ⊢;cases h2
  rfl
attribute [local irreducible] Code.wp wpList Calls
theorem mergeLC{w0:World}{K:PH}{m hs:List PH}(lb db:Nat)(L:Lg)(D:Dk)(c:Nat)(hb:LBd c L)(oD:DOk c D)(hm:LgM K lb db L D m)(i t:Nat)(hi:i<=mxU)(ht:t<=mxU)(ao:Option Addr)(cap:Nat)(x:List Ent)(xs:SlS 4 (EntC K) K ao x.length cap x)(hx:∀ e∈x,entB e)(hc:c+2+12*x.length<=999999000):
  Ct Tryz.prog w0 143 [.pointer (some ⟨lb,0,none⟩),.int .u64 (i:Nat),.int .u64 (t:Nat),.slice ao x.length cap] K (m++hs)
   (fun u K' hs'=>Le K K'/\∃ m',hs'=m'++hs/\LgM K' lb db (L.merge i t x D).1 (L.merge i t x D).2.1 m'/\u=okM (L.merge i t x D).2.2):=by
 have hm0:=hm;obtain ⟨wb,hb',eb,aV,cV,aD,cD,aL,cL,wh,hh,eh,gl,dh,rfl,hW,hH,hE,hG,hD,xV,xD⟩:=hm;have hidx:=hb.idx;have hlen:=hb.len;unfold lgTop at hidx;obtain ⟨R,hR⟩:∃ R,R=L.merge i t x D:=⟨_,rfl⟩;rw[<-hR];unfold Lg.merge at hR;refine enter Tryz.func143 qk I I I (sq (rg (fin 3 I (th (sq (sq (rg (ldp 3 0 I I I (cmpS 0 I fun b21 h21=>fin 0 I (th (ifP h21 I (fun e2=>?_) (fun e2=>?_))))))))))))
 ·rw[if_pos e2] at hR;refine sq (rga [pt lb (lgA wb db hb' eb L (.slice aV L.sn.vot.length cV) (.slice aD L.sn.data.length cD) (.slice aL L.l.length cL)) 119] 7 [0,2,4,6,8,10,12] (by simp) qk qk (dldp qk 3 0 I I I (dend qk 3 I (th (rt (rT ?_))))));rw[hR];exact ret3 I I I I ⟨Le.refl _,[_,_,_,_,_,_],I,hm0,I⟩
 ·rw[if_neg e2] at hR;have hcode:=Decidable.not_not.1 e2;refine sk (th (sq (rg (cl 3 I (followLC i t hi ht ao cap x xs hx qo) ?_))));rintro v29 K29 hs29 ⟨rfl,rfl,rfl⟩;refine fin 1 I (th (sq (sq (rg (cmpS 1 I fun b31 h31=>fin 0 I (th (ifP h31 I (fun e4=>?_) (fun e4=>?_))))))))
  ·rw[if_pos e4] at hR;refine sq (rg (fin 4 I (th (rt (rT ?_)))));rw[hR];exact ret3 I I I I ⟨Le.refl _,[_,_,_,_,_,_],I,hm0,I⟩
  ·rw[if_neg e4] at hR;have hfol:=fol_folR (Decidable.not_not.1 e4)
   have hlast:i+x.length<=mxU:=by
    rcases Nat.eq_zero_or_pos x.length with h|h
    ·omega
    ·obtain ⟨e,he⟩:∃ e,x[x.length-1]?=some e:=⟨x[x.length-1],List.getElem?_eq_getElem qo⟩;have h1:=folR_idx x i t hfol _ e he;have h2:=(hx e (List.mem_of_getElem? he)).1;omega
   obtain ⟨last,hla⟩:∃ last,last=i+x.length:=⟨_,rfl⟩;rw[<-hla] at hR hlast;unfold mxU at hi ht hlast;refine sk (th (sq (rg (ar 3 I (u64w (x:=((x.length:Nat):Int)) qo) (ar 0 I (v':=.int .u64 (last:Nat)) (by rw[show ((i:Nat):Int)+((x.length:Nat):Int)=((last:Nat):Int) from by omega];exact u64w qo) ?_)))))
   refine fin 1 I (th (jn (σ:=(Nat×Nat×List Ent)×(Option Addr×Nat)) (fun s=>[(0,.pointer (some ⟨lb,0,none⟩)),(1,.int .u64 s.1.1),(2,.int .u64 s.1.2.1),(3,.slice s.2.1 s.1.2.2.length s.2.2),(12,.int .u64 (last:Nat))])
    (fun _=>[pt lb (lgA wb db hb' eb L (.slice aV L.sn.vot.length cV) (.slice aD L.sn.data.length cD) (.slice aL L.l.length cL)) 119,wh,hh,eh,gl,dh]++hs)
    (fun s=>L.merge1 s.1.1 s.1.2.1 s.1.2.2 last D=R/\s.1.1<=18446744073709551615/\SlS 4 (EntC K29) K29 s.2.1 s.1.2.2.length s.2.2 s.1.2.2/\(∀ e∈s.1.2.2,entB e)/\s.1.2.2.length<=x.length) ?_ ?_))
   ·refine sq<|rg (ldp 5 0 I I I (cmpS 0 I fun b44 h44=>fin 0 I<|th (ifP h44 I (fun e6=>?_) (fun e6=>?_))))
    ·rw[if_pos qo] at hR;refine sq (sq (rg (ldp 5 0 I I I (cmpS 0 I fun b51 h51=>fin 0 I (th (ifP h51 I (fun e8=>?_) (fun e8=>?_)))))))
     ·rw[if_pos qo] at hR;refine sq (rg (fin 4 I (th (rt (rT (jr ?_))))));rw[hR];exact ret3 I I I I ⟨Le.refl _,[_,_,_,_,_,_],I,hm0,I⟩
     ·rw[if_neg qo] at hR;obtain ⟨y,hy⟩:∃ y,y=x.drop (L.sn.idx-i):=⟨_,rfl⟩;have hyl:y.length=x.length-(L.sn.idx-i):=by rw[hy,List.length_drop]
      have ysl:=xs.cut (L.sn.idx-i) qo;rw[<-hyl,<-hy] at ysl;rw[<-hy] at hR;have hyx:∀ e∈y,entB e:=fun e he=>hx e (by rw[hy] at he;exact List.mem_of_mem_drop he);have hcap:x.length<=cap:=by obtain ⟨_,hh⟩:=xs.isS;exact hh.2.1
      refine sk (th (sq (rg (ldp 5 0 I I I (ar 1 I (u64s qo qo) (slx 0 (L.sn.idx-i) y.length I I (by show ((x.length:Nat):Int)=_;omega) qo (fin 1 rfl (th (sq (rga [pt lb (lgA wb db hb' eb L (.slice aV L.sn.vot.length cV) (.slice aD L.sn.data.length cD) (.slice aL L.l.length cL)) 119] 12 [0,2,4,6,8,10,12,14,16,18,20,22] (by simp) qk qk (dldp qk 4 0 rfl rfl rfl (dldp qk 4 0 rfl rfl rfl (dend qk 2 rfl (th (sq (rg ?_))))))))))))))));cases y with
      | nil=>
       rw[if_neg (by simp)] at hR;exact cmp 2 I (fun h=>absurd h (by simp)) (fun _=>fin 8 I (th (ifF I (sk (jx ((L.sn.idx,L.sn.term,[]),(_,_)) ⟨hR.symm,by dsimp only;omega,ysl,by simp,Nat.zero_le _⟩ ⟨rfl,rfl,rfl,rfl,rfl,trivial⟩ rfl rfl)))))
      | cons e r=>
       obtain ⟨zs,hzs⟩:=ysl.isS;obtain ⟨a,ha⟩:=ysl.addr (by simp) (by decide);have ysl2:=ysl;rw[ha] at ysl2 hzs ⊢;obtain ⟨cc,⟨ae,ce,rfl,xe⟩,_,hcell⟩:=ysl2.cells (i:=0) (x:=e) rfl;refine cmp 2 I (fun _=>ixs 2 0 I I hzs (by simp) (by decide) fun a77 h77=>?_) (fun h=>absurd (show ((0:Int)<(((e::r).length:Nat):Int)) by simp) h);cases h77;refine ld 1 I (.inl I) (hcell 1 _ I) (cmpS 1 I fun b81 h81=>fin 1 I (th (ifP h81 I (fun e12=>?_) (fun e12=>?_))))
       ·rw[if_pos (by simp;omega)] at hR;refine sq (rg (fin 3 I (th (rt (jr ?_)))));rw[hR];exact ret3 I I I I ⟨Le.refl _,[_,_,_,_,_,_],I,hm0,I⟩
       ·rw[if_neg (by simp;omega)] at hR;exact sk (jx ((L.sn.idx,L.sn.term,e::r),(_,_)) ⟨hR.symm,by dsimp only;omega,ysl2,hyx,by dsimp only;omega⟩ ⟨rfl,rfl,rfl,rfl,rfl,trivial⟩ rfl rfl)
    ·rw[if_neg qo] at hR;exact sk (jx ((i,t,x),(ao,cap)) ⟨hR.symm,hi,xs,hx,Nat.le_refl _⟩ ⟨I,I,I,I,I,trivial⟩ I I)
   ·clear hR hfol hla hi ht xs hx e4;clear h31;rintro ⟨⟨i,t,y⟩,⟨ao,cap⟩⟩ ⟨hR,hi,xs,hx,hyl⟩;dsimp only at *;unfold Lg.merge1 at hR;refine sq (rg (cl 2 I (termLC lb db L D c hb qo hm0 i qo) ?_));rintro v86 K86 hs86 ⟨rfl,rfl,rfl⟩;obtain ⟨T,hTT⟩:∃ T,T=trm L.sn L.l i:=⟨_,rfl⟩;rw[<-hTT] at hR ⊢;obtain ⟨u,b⟩:=T;dsimp only at hR;refine fin 5 I (th (sq (sq (rg (cbS 1 (b=false) I (by cases b <;> simp) fun b90 h90=>?_)))))
    refine' bjo (q:=u≠t) 1 4 95 [90,91] h90 I I I I I I I (fun _=>?x13) (fun b95 h95=>?_)
    case x13=>
     exact cmpS 2 I fun b94 h94=>fin 1 I<|bjx (h94.trans qo) I I I
    refine fin 0 I<|th (ifP h95 I (fun e15=>?_) (fun e15=>?_))
    ·rw[if_pos e15] at hR;refine sq (rg (cl 2 I (backLC lb db L D c hb qo hm0 i qo) ?_));rintro v98 K98 hs98 ⟨rfl,rfl,rfl⟩;refine fin 3 I (th (rt (rT ?_)));rw[<-hR];exact ret3 I I I I ⟨Le.refl _,[_,_,_,_,_,_],I,hm0,I⟩
    ·rw[if_neg e15] at hR;obtain ⟨X,B,hXB⟩:∃ X B,skp L.sn L.l y true=(X,B):=⟨_,_,rfl⟩;have hXs:X <:+ y:=by have:=skp_suf L.sn L.l y true;rw[hXB] at this;exact this
     have hXl:=hXs.length_le;have hXe:∀ e∈X,entB e:=fun e he=>hx e (hXs.subset he);obtain rfl:b=true:=by cases b with|true=>rfl|false=>exact absurd (.inl rfl) e15
     refine sk (th (jn (σ:=Option Addr×Nat) (fun s=>[(0,.pointer (some ⟨lb,0,none⟩)),(3,.slice s.1 X.length s.2),(12,.int .u64 (last:Nat)),(14,.bool B)])
      (fun _=>[pt lb (lgA wb db hb' eb L (.slice aV L.sn.vot.length cV) (.slice aD L.sn.data.length cD) (.slice aL L.l.length cL)) 119,wh,hh,eh,gl,dh]++hs)
      (fun s=>SlS 4 (EntC K86) K86 s.1 X.length s.2 X) ?_ ?_))
     ·refine bk ?_
      refine loop (σ:=(List Ent×Bool)×(Option Addr×Nat)) (fun s=>[(0,.pointer (some ⟨lb,0,none⟩)),(3,.slice s.2.1 s.1.1.length s.2.2),(12,.int .u64 (last:Nat)),(14,.bool s.1.2)]) (fun _=>K86)
       (fun _=>[pt lb (lgA wb db hb' eb L (.slice aV L.sn.vot.length cV) (.slice aD L.sn.data.length cD) (.slice aL L.l.length cL)) 119,wh,hh,eh,gl,dh]++hs)
       (fun s=>skp L.sn L.l s.1.1 s.1.2=(X,B)/\SlS 4 (EntC K86) K86 s.2.1 s.1.1.length s.2.2 s.1.1/\(∀ e∈s.1.1,entB e)/\s.1.1.length<=y.length) (fun s=>s.1.1.length)
       ((y,true),(ao,cap)) ⟨hXB,xs,hx,Nat.le_refl _⟩ ⟨rfl,rfl,rfl,rfl,trivial⟩ rfl rfl ?_
      rintro ⟨⟨z,B0⟩,⟨az,cz⟩⟩ ⟨hz,zs,hze,hzl⟩;dsimp only at *;refine sq (sq (rg ?_));cases z with
      | nil=>
       have hz:(([],B0):List Ent×Bool)=(X,B):=hz;cases hz;exact cmp 2 I (fun h=>absurd h (by simp)) (fun _=>fin 0 I (th (ifF I (ex (xt (xt (xb (jx (az,cz) zs ⟨I,I,I,I,trivial⟩ I I))))))))
      | cons e r=>
       rw[skp_cons] at hz;obtain ⟨ws,hws⟩:=zs.isS;obtain ⟨a,rfl⟩:=zs.addr (by simp) (by decide);obtain ⟨cc,⟨ae,ce,rfl,xe⟩,_,hcell⟩:=zs.cells (i:=0) (x:=e) rfl;obtain ⟨q1,q2,q3⟩:=hze e (by simp);unfold mxU at q1 q2;refine cmp 2 I (fun _=>fin 0 I (th (ifT I (sk (th (bk (sq (rg (ixs 2 0 I I hws (by simp) (by decide) fun a105 h105=>?_))))))))) (fun h=>absurd (show ((0:Int)<(((e::r).length:Nat):Int)) by simp) h);cases h105;refine ld 1 I (.inl I) (hcell 0 _ I) (cl 0 I (termLC lb db L D c hb qo hm0 e.idx qo) ?_);rintro v108 K108 hs108 ⟨rfl,rfl,rfl⟩;obtain ⟨V,hV⟩:∃ V,V=trm L.sn L.l e.idx:=⟨_,rfl⟩;rw[<-hV] at hz ⊢;obtain ⟨v,b'⟩:=V;dsimp only at hz;refine fin 5 I (th (sq (sq (rg (cbS 1 (b'=false) I (by cases b' <;> simp) fun b112 h112=>?_)))))
       refine' bjo (q:=v≠e.term) 1 7 120 [112,113] h112 I I I I I I I (fun _=>?x18) (fun b120 h120=>?_)
       case x18=>
        refine ixs 2 0 I I hws (by simp) (by decide) fun a116 h116=>?_;cases h116;exact ld 1 I (.inl I) (hcell 1 _ I) (cmpS 0 I fun b119 h119=>fin 1 I (bjx (h119.trans qo) I I I))
       refine fin 0 I<|th (ifP h120 I (fun e20=>?_) (fun e20=>?_))
       ·rw[if_pos e20] at hz;cases hz;exact ex (xt (xn I (xt (xb (jx (_,cz) zs ⟨I,I,I,I,trivial⟩ I I)))))
       ·rw[if_neg e20] at hz;obtain rfl:b'=true:=by cases b' with|true=>rfl|false=>exact absurd (.inl rfl) e20
        refine sk (th (rg ?_));have hcz:(e::r).length<=cz:=hws.2.1;refine slx 1 1 r.length I I (by show (((e::r).length:Nat):Int)=_;simp;omega) (by simp at hcz;omega) (fin 1 rfl (bl ?_));have zs2:=zs.cut 1 (by simp);exact again (x:=((e::r,B0),(none,0))) ((r,true),(_,_)) ⟨I,I,I,I,trivial⟩ I I ⟨hz,zs2,fun y hy=>hze y (by simp[hy]),by dsimp only;simp only[List.length_cons] at hzl;omega⟩ (by simp)
     ·clear xs;rintro ⟨az,cz⟩ zs;dsimp only at *;have hR3:∀ (L':Lg) (D':Dk),LBd (c+2) L'->DOk (c+2) D'->True:=fun _ _ _ _=>trivial
      refine jnK (σ:=(Lg×Dk)×List PH×PH) (fun _=>[(0,.pointer (some ⟨lb,0,none⟩)),(3,.slice az X.length cz),(12,.int .u64 (last:Nat))]) (fun s=>s.2.2) (fun s=>s.2.1++hs)
       (fun s=>s.1.1.merge3 X last s.1.2=R/\LBd (c+2) s.1.1/\DOk (c+2) s.1.2/\Le K86 s.2.2/\LgM s.2.2 lb db s.1.1 s.1.2 s.2.1) ?_ ?_
      ·refine sq (rg ?_);cases X with
       | nil=>
        rw[merge2_nil hXB] at hR;refine cmp 2 I (fun h=>absurd h (by simp)) (fun _=>fin 3 I (th (ifF I (sk ?_))));exact jxK ((L,D),[_,_,_,_,_,_],_) ⟨hR,hb.up qo,oD.up qo,Le.refl _,hm0⟩ ⟨I,I,I,trivial⟩ I I
       | cons e r=>
        rw[merge2_cons hXB] at hR;obtain ⟨q1,q2,q3⟩:=hXe e (by simp);have q1':=q1;unfold mxU at q1 q2;refine cmp 2 I (fun _=>?_) (fun h=>absurd (show ((0:Int)<(((e::r).length:Nat):Int)) by simp) h);cases B with
        | false=>
         rw[if_neg (by simp)] at hR;refine fin 3 I (th (ifF I (sk ?_)));exact jxK ((L,D),[_,_,_,_,_,_],_) ⟨hR,hb.up qo,oD.up qo,Le.refl _,hm0⟩ ⟨I,I,I,trivial⟩ I I
        | true=>
         rw[if_pos rfl] at hR;obtain ⟨ws,hws⟩:=zs.isS;obtain ⟨a,rfl⟩:=zs.addr (by simp) (by decide);obtain ⟨cc,⟨ae,ce,rfl,xe⟩,_,hcell⟩:=zs.cells (i:=0) (x:=e) rfl;obtain ⟨V,hV⟩:∃ V,V=L.w.truncate e.idx D:=⟨_,rfl⟩;have hbc:=hb.cutAt e.idx D;have hdc:=oD.truncate hb.w qo e.idx qo;rw[<-hV] at hR hbc hdc;refine fin 3 I (th (ifT I (sq (sq (rga [pt lb (lgA wb db hb' eb L (.slice aV L.sn.vot.length cV) (.slice aD L.sn.data.length cD) (.slice aL L.l.length cL)) 119] 9 [0,2,4,6,8,10,12,14,16,19,21,22] (by simp) qk qk (dldpw qk 4 0 I qk I I (dixs qk 1 0 I I (by simp) (dldw qk 1 I qk (.inl I) (hcell 0 _ I) (dact qk 0 I (cl 0 I (Ct.at2 1 4 I I (truncWH wb db L.w hW D c oD qo hb.w hD e.idx qo)) ?_))))))))));rintro v138 K138 hs138 ⟨wh',dh',rfl,le2,hW',hD',rfl⟩;rw[<-hV] at hW' hD' ⊢;refine dnext (.inl qk) (dact qk 0 I (cl 0 I (didLC lb wb db hb' eb L _ _ _ _) ?_))
         rintro v139 K139 hs139 ⟨_,rfl,rfl,rfl,rfl⟩;have ed:didV L.code V.2.2=V.2.2:=by unfold didV;rw[if_pos hcode]
         rw[ed];refine dnext (.inl qk) (dcbS qk 0 (V.2.2≠0) I (by simp) fun b140 h140=>dend qk 0 I (th (ifP h140 I (fun e24=>?_) (fun e24=>?_))))
         ·rw[if_pos e24] at hR;refine sq (rga [pt lb (lgA wb db hb' eb { L with code:=V.2.2 } (.slice aV L.sn.vot.length cV) (.slice aD L.sn.data.length cD) (.slice aL L.l.length cL)) 119] 7 [0,2,4,6,8,10,12] (by simp) qk qk (dldp qk 3 0 I I I (dend qk 3 I (th (rt (rT (jrK ?_)))))));rw[<-hR];exact ret3 I I I I ⟨le2,[_,_,_,_,_,_],I,⟨wb,hb',eb,aV,cV,aD,cD,aL,cL,wh',hh,eh,gl,dh',I,hW',hH.le le2,hE.le le2,hG.imp fun _ _ h=>h.le le2,hD',xV.le le2,xD.le le2⟩,I⟩
         ·have e24:=Decidable.not_not.1 e24;rw[if_neg (by rw[e24];simp)] at hR;have eL:({ L with code:=V.2.2 }:Lg)=L:=by rw[e24,<-hcode]
          rw[eL]
          have hm2:LgM K139 lb db { L with w:=V.1 } V.2.1 [pt lb (lgA wb db hb' eb L (.slice aV L.sn.vot.length cV) (.slice aD L.sn.data.length cD) (.slice aL L.l.length cL)) 119,wh',hh,eh,gl,dh']:=
           ⟨wb,hb',eb,aV,cV,aD,cD,aL,cL,wh',hh,eh,gl,dh',rfl,hW',hH.le le2,hE.le le2,hG.imp fun _ _ h=>h.le le2,hD',xV.le le2,xD.le le2⟩
          have hbw:LBd (c+1) { L with w:=V.1 }:=by have:=hb.wc (hb.w.truncate e.idx D) (Nat.le_succ c) L.code;rw[<-hV] at this;exact this
          refine sk (th (sq (rg (ixs 2 0 I I (hws.le le2) (by simp) (by decide) fun a148 h148=>?_))));cases h148;refine ld 1 I (.inl I) ((hcell 0 _ I).le le2) (cl 0 I (atLC lb db { L with w:=V.1 } V.2.1 (c+1) hbw qo hm2 e.idx qo) ?_);rintro v151 K151 hs151 ⟨rfl,rfl,rfl⟩;have hkl:=lgAt_le L.sn L.l e.idx;obtain ⟨k,hk⟩:∃ k,k=(lgAt L.sn L.l e.idx).getD 0:=⟨_,rfl⟩;have hcG:=hG.caps;refine fin 5 I (th (rg (ldp 4 0 I I I ?_)));rw[<-hk] at hkl;refine slx 1 0 k I I (by show (((lgAt L.sn L.l e.idx).getD 0:Nat):Int)=_;rw[<-hk];simp) qo (stp 2 0 rfl rfl rfl rfl ?_);obtain ⟨gl3,hg3,hG3⟩:=hG.cut 0 k qo;refine fin 0 I (WQ.loss 4 gl3 I hg3 ?_);have hln:(L.l.take k).length=k:=by rw[List.length_take];omega
          refine jxK ((L.cutAt e.idx V.1,V.2.1),[_,_,_,_,_,_],_) ⟨hR,hbc.up qo,hdc,le2,⟨wb,hb',eb,aV,cV,aD,cD,cutA aL cL 0 4,cL-0,wh',hh,eh,gl3,dh',?_,hW',hH.le le2,hE.le le2,?_,hD',xV.le le2,xD.le le2⟩⟩ ⟨I,I,I,trivial⟩ I I
          ·unfold Lg.cutAt;dsimp only;rw[<-hk,hln];rfl
          ·unfold Lg.cutAt;dsimp only;rw[<-hk,hln];have:=hG3.imp (R':=EntC K151) fun _ _ h=>h.le le2
           rwa [List.drop_zero] at this
      ·clear hR;rintro ⟨⟨L',D'⟩,m',K'⟩ ⟨hR,hb2,oD2,le2,hm2⟩;dsimp only at *;unfold Lg.merge3 at hR;refine sq (rg (cl 2 I (appendLC lb db L' D' (c+2) hb2 oD2 hm2 az cz X (zs.le le2 fun _ _ h=>h.le le2) hXe qo) ?_));rintro v165 K165 hs165 ⟨le3,m3,rfl,hm3,rfl⟩;refine fin 1 I (th (sq (sq (rg (cmpS 1 I fun b167 h167=>fin 0 I (th (ifP h167 I (fun e26=>?_) (fun e26=>?_))))))))
       ·rw[if_pos e26] at hR;refine sq (rg (fin 4 I (th (rt (rT ?_)))));rw[<-hR];exact ret3 I I I I ⟨le2.trans le3,m3,I,hm3,I⟩
       ·rw[if_neg e26] at hR;refine sk (th (sq (rg (fin 4 I (th (rt ?_))))));rw[<-hR];exact ret3 I I I I ⟨le2.trans le3,m3,I,hm3,I⟩
end
section
def chk1(ao:Option Addr)(n i:Nat):List Value:=[.slice (cutA ao (64*i+min 64 (n-64*i)) (64*i) 1) (min 64 (n-64*i)) (min 64 (n-64*i))]
def chk(ao:Option Addr)(n:Nat):List (List Value):=(List.range ((n+63) / 64)).map (chk1 ao n)
theorem chk_len(ao:Option Addr)(n:Nat):(chk ao n).length=(n+63) / 64:=by simp[chk]
theorem chk_get(ao:Option Addr){n i:Nat}(h:i<(n+63) / 64):(chk ao n)[i]?=some (chk1 ao n i):=by simp[chk,h]
theorem IsS.sub3{h:PH}{ao:Option Addr}{n cap:Nat}{xs:List Value}(x:IsS h ao n cap 1 xs)(L N:Nat)(hN:L+N<=n):IsS h (cutA ao (L+N) L 1) N N 1 ((xs.drop L).take N):=by
 have hl:xs.length=n:=by have:=x.1;omega
 rcases Nat.eq_zero_or_pos N with h0|h0
 ·subst h0;rw[List.take_zero];exact IsS.nil _ _ _ _
 ·refine ⟨by rw[List.length_take,List.length_drop];omega,Nat.le_refl _,fun j v hv=>?_⟩;have hj:j<N:=by have:=(List.getElem?_eq_some_iff.1 hv).1;rw[List.length_take] at this;omega
  rw[List.getElem?_take_of_lt hj,List.getElem?_drop] at hv;obtain ⟨a,rfl,hc⟩:=x.2.2 _ v hv;refine ⟨a.add (L*1),by rw[cutA,if_neg qo];rfl,?_⟩;rw[Deep.add_add,Nat.mul_one];exact hc
attribute [local irreducible] Code.wp wpList Calls
section joinx
variable {P:Program} {w0:World} {Q:Exit->Act->World->Prop} {n:Nat} {l:Sl} {K:PH} {hs:List PH} {r:Option Nat} {ds:List Deferred}
def JZ(ds:List Deferred)(w0:World){σ:Type}(F:σ->Sl)(HK:σ->PH)(H:σ->List PH)(J:σ->Prop)(n:Nat)(Q:Exit->Act->World->Prop):Exit->Act->World->Prop
 | .normal,a',w=>∃ s a,J s/\a'=wd ds a/\Ag n (F s) a/\Sat w0 w (HK s) (H s)
 | e,a,w=>Q e a w
theorem jnZ{σ:Type}{x y:Code}(F:σ->Sl)(HK:σ->PH)(H:σ->List PH)(J:σ->Prop)(h1:WX P w0 r ds x (JZ ds w0 F HK H J n Q) n l K hs)(h2:∀ s,J s->WX P w0 r ds y Q n (F s) (HK s) (H s)):WX P w0 r ds (.seq x y) Q n l K hs:=
 sqX fun a w ha hw=>wpIn_mono (h1 a w ha hw) (fun e a w h=>by
  cases e with
  | normal=>obtain ⟨s,a1,hJ,rfl,ha,hw⟩:=h;exact h2 s hJ a1 w ha hw
  | _=>exact h)
theorem jxZ{σ:Type}{F:σ->Sl}{HK:σ->PH}{H:σ->List PH}{J:σ->Prop}(s:σ)(hJ:J s)(hF:Sub l (F s))(hK:K=HK s)(hH:hs=H s):WQX ds w0 (JZ ds w0 F HK H J n Q) .normal n l K hs:=
 fun a w ha hw=>⟨s,a,hJ,rfl,ha.sub hF,by rw[<-hK,<-hH];exact hw⟩
end joinx
theorem ents_one{K:PH}:∀ {css:List (List Value)} {l:List Ent},Al2 (EntC K) css l->∀ u∈css.flatten,u.oneCell'=true
 | [],[],_,u,hu=>by simp at hu
 | c::css,x::l,h,u,hu=>by
  rw[List.flatten_cons,List.mem_append] at hu;rcases hu with hu|hu
  ·obtain ⟨ao,cap,rfl,_⟩:=h.1;simp[Ent.v] at hu;rcases hu with rfl|rfl|rfl|rfl <;> rfl
  ·exact ents_one h.2 u hu
 | _::_,[],h,_,_=>h.elim
 | [],_::_,h,_,_=>h.elim
theorem chunkC{w0:World}{K:PH}{hs:List PH}(ao:Option Addr)(n c:Nat):Ct Tryz.prog w0 206 [.slice ao n c,.int .i64 64] K hs
  (fun v K' hs'=>Le K K'/\hs'=hs/\∃ b2 b3,v=.func (.func 248) #[] #[.pointer (some ⟨b2,0,none⟩),.pointer (some ⟨b3,0,none⟩)]/\Cell K' ⟨b2,0,none⟩ (.slice ao n c)/\Cell K' ⟨b3,0,none⟩ (.int .i64 64)):=by
 refine ent Tryz.func206 ?_;refine sq (rg (bx 0 I fun b2=>bx 0 I fun b3=>au ?_));exact cmp 0 I (fun h=>absurd h (by decide)) (fun _=>fin 0 I (th (ifF I (sk (th (sq (rg (fin 2 I (th (rt (WQ.frz fun K1 l1 l2=>WQ.frz fun K2 l3 l4=>ret1 I I ⟨l1.trans l3,I,b2,b3,I,(Cell.pt I).le l4,((Cell.pt I).le l2).le l3⟩)))))))))))
theorem chunkI{w0:World}(b2 b3:Nat)(ao:Option Addr)(n c:Nat)(hn:n<=1099511627776)(hnc:n<=c):ItCt Tryz.prog w0 248 [.pointer (some ⟨b2,0,none⟩),.pointer (some ⟨b3,0,none⟩)] (chk ao n)
  (fun K _=>Cell K ⟨b2,0,none⟩ (.slice ao n c)/\Cell K ⟨b3,0,none⟩ (.int .i64 64)):=by
 intro L St Sp hRd hY K hs h0;refine entX Tryz.func248 ?_;refine au ?_;refine loopX (σ:=Nat×PH×List PH) (fun s=>[(0,.func (.yield L) #[] #[]),(1,.pointer (some ⟨b2,0,none⟩)),(2,.pointer (some ⟨b3,0,none⟩)),(4,.int .i64 (64*s.1:Nat))]) (fun s=>s.2.1) (fun s=>s.2.2) (fun s=>s.1<=(n+63) / 64/\St s.1 s.2.1 s.2.2) (fun s=>(n+63) / 64-s.1) (0,K,hs) ⟨Nat.zero_le _,h0⟩ ⟨I,I,I,I,trivial⟩ I I ?_;rintro ⟨i,K,hs⟩ ⟨hi,hst⟩;dsimp only at *;obtain ⟨c1,c2⟩:=hRd i K hs hst;refine sqX (sqX (rgX (ld 1 I (.inl I) c1 (cmp 1 I (fun e2=>?_) (fun e2=>?_)))))
 ·refine au ?_;have hil:i<(n+63) / 64:=by omega
  obtain ⟨N,hN⟩:∃ N,N=min 64 (n-64*i):=⟨_,rfl⟩;refine au ?_;refine rgaX [] 7 [0,2,4,6,8,10,12] (by simp) qk qk (dld qk 0 I (.inl I) c2 (dld qk 0 I (.inl I) c1 (dslx qk 1 (64*i) (n-64*i) I I I (by show ((n:Nat):Int)=_;omega) qo ?_)))
  refine dar qk 1 I (v':=.int .i64 (N:Nat)) (by
   congr 1
   rw[hN]
   split <;> omega) ?_
  refine dend qk 1 I<|nxX (thX<|sqX (rgI<|WLI.cut 10 (ld 1 I (.inl I) c1<|ar 3 I (i64w (x:=((64*i+N:Nat):Int)) qo) (ar 2 I (i64w (x:=((64*i+N:Nat):Int)) qo)<|sl3g 0 (64*i) N (64*i+N) I I I I (Nat.le_refl _) qo (fin 0 I<|cutX ?_)))))
  have hv:(chk ao n)[i]?=some [.slice (cutA ao (64*i+N) (64*i) 1) N (64*i+N-64*i)]:=by
   rw[chk_get ao hil,chk1,<-hN,Nat.add_sub_cancel_left]
  refine yld I (hY i _ K hs hv hst) ?_;rintro v17 K17 hs17 (⟨rfl,hn'⟩|⟨rfl,hp⟩)
  ·refine WLI.fin (au ?_);obtain ⟨c1',c2'⟩:=hRd (i+1) K17 hs17 hn';exact ld 1 I (.inl I) c2' (ar 0 I (v':=.int .i64 ((64*(i+1):Nat):Int)) (by rw[i64w qo];congr 1) (fin 1 rfl (nxX (againX (x:=(i,K,hs)) (i+1,K17,hs17) ⟨rfl,rfl,rfl,rfl,trivial⟩ rfl rfl ⟨by dsimp only;omega,hn'⟩ (by dsimp only;omega)))))
  ·refine WLI.fin (au ?_);exact ret0X I (.inr hp)
 ·refine au ?_;obtain rfl:i=(n+63) / 64:=by omega
  exact end0X I (.inl (by rw[chk_len];exact hst))
theorem cloneEC{w0:World}{K hv:PH}{hs:List PH}(ao:Option Addr)(n c:Nat)(l:List Ent)(hm:In K hs hv)(x:SlS 4 (EntC K) hv ao n c l)(hl:n<=1000000000000):Ct Tryz.prog w0 208 [.slice ao n c] K hs
  (fun v K' hs'=>K'=K/\∃ h' ao' c',hs'=h'::hs/\v=.slice ao' n c'/\SlZ 4 51 (EntC K) h' ao' n c' l):=by
 cases ao with
 | none=>
  obtain rfl:n=0:=by
   rcases Nat.eq_zero_or_pos n with h|h
   ·exact h
   ·obtain ⟨a,ha⟩:=x.addr h (by decide);cases ha
  have hl0:l=[]:=List.eq_nil_of_length_eq_zero x.len.symm;subst hl0;refine entA Tryz.func208 ?_;exact cbS 1 True I (by simp) fun b4 h4=>fin 0 I (th (ifP h4 I (fun e2=>sq (rg (fin 1 I (th (rt (rT (WQ.em (ret1 I I ⟨I,em,none,0,I,I,SlZ.nil _ _⟩)))))))) (fun e2=>absurd trivial e2)))
 | some a=>
  obtain rfl:=x.len;obtain ⟨css,hn,hS,hal,hcl⟩:=x;refine entA Tryz.func208 ?_;refine cbS 1 False I (by simp) fun b4 h4=>fin 0 I (th (ifP h4 I (fun e2=>e2.elim) (fun e2=>sk (th (sq (rg (lit 0 #[] I (by decide) qk fun b5=>app 1 0 I I (Own.ofPt (c:=#[]) (n:=0) (by simp) (by simp[maxLen])) (In.cons hm) hS I (by decide) (ents_one hal) (by show (0+l.length)*48<=_;omega) (by simp[maxLen];omega) fun ao7 c7 g7 o7=>au ?_)))))));have e:0+l.length=l.length:=Nat.zero_add _;rw[e] at o7;exact ret1 I (by rw[e];rfl) ⟨rfl,g7,ao7,c7,rfl,rfl,css,rfl,.inl (by simpa using o7),hal,hcl⟩
end
section
theorem res_c1{P:Program}{w0:World}{fn:Func}{n:Nat}{l:Sl}{K:PH}{hs:List PH}{T:Tab}[hT:TabOK P T](j:Nat){u tu b2 ty2:Nat}{k:UK}{x:Value}{fr2:Nat×Nat}(hr:fn.results=#[.cell u tu])(hu:look l u=some (.pointer (some ⟨b2,0,none⟩)))(hj:hs[j]?=some (pt b2 #[x] ty2 fr2))
  (hk:asc T.kinds tu=some k) (h1:k.one=true):∀ a w,Ag n l a->Sat w0 w K hs->(results fn a.tmps).run P w=.ok x w:=by
 intro a w ha hw
 have h3:(loadVar tu ⟨b2,0,none⟩).run P w=.ok x w:=by
  have:=run_load1 (P:=P) (w:=w) hk h1 (a:=⟨b2,0,none⟩) (v:=x) (hw.cell (.inr ⟨j,hj⟩) (Cell.pt rfl))
  simp_all [Instr.loadAt,Instr.sureAddr]
 simp[results,hr,ha.slot u _ hu,asAddr,h3]
theorem lgW_step(place f n:Nat)(b:List UInt8)(D:Dk):lgW place (f+1) n b D=if b=[] then (D,0)
  else if (D.write (lgA4 place) n (b.take 64)).2≠0 then D.write (lgA4 place) n (b.take 64)
  else lgW place f (n+1) (b.drop 64) (D.write (lgA4 place) n (b.take 64)).1:=rfl
attribute [local irreducible] Code.wp wpList Calls
theorem layLC{w0:World}{K:PH}{m hs:List PH}(lb db:Nat)(L:Lg)(D:Dk)(c:Nat)(hb:LBd c L)(hc:c<=999000000)(oD:DOk c D)(hm:LgM K lb db L D m)(hcode:L.code=0)(s:Snp)(hsi:s.idx<=lgTop)(hlt:L.sn.idx<s.idx)(hst:s.term<=mxU)(hsd:s.data.length<=2097152)(hsv:s.vot.length<=1000)
  (aS:Option Addr) (cS:Nat) (aT:Option Addr) (cT:Nat) (xS:IsS K aS s.vot.length cS 1 (iv s.vot)) (xT:IsS K aT s.data.length cT 1 (bv s.data)) (fr:Nat) (hfr:fr<18446744073709551616):
  Ct Tryz.prog w0 159 [.pointer (some ⟨lb,0,none⟩),.agg (snV s aS cS aT cT),.int .u64 (fr:Nat)] K (m++hs)
   (fun u K' hs'=>Le K K'/\∃ m',hs'=m'++hs/\LgM K' lb db (L.lay s fr D).1 (L.lay s fr D).2.1 m'/\u=.int .i64 (L.lay s fr D).2.2):=by
 have hm0:=hm;obtain ⟨wb,hb',eb,aV,cV,aD,cD,aL,cL,wh,hh,eh,gl,dh,rfl,hW,hH,hE,hG,hD,xV,xD⟩:=hm;have hpl:=hb.place;have hlen:=hb.len;have hidx:=hb.idx;unfold lgTop at hpl hidx hsi;obtain ⟨pl,hplE⟩:∃ pl,pl=L.place+1:=⟨_,rfl⟩;obtain ⟨R0,hR0⟩:∃ R0,R0=lgW pl (s.data.length+1) 0 s.data D:=⟨_,rfl⟩;obtain ⟨R,hR⟩:∃ R,R=L.lay s fr D:=⟨_,rfl⟩;rw[<-hR];unfold Lg.lay at hR;rw[<-hplE,<-hR0] at hR;have hcapT:s.data.length<=cT:=xT.2.1;refine entX Tryz.func159 ?_;refine sqX (rgX (bx 0 I fun b3=>bx 0 I fun b4=>al 0 (.int .i64 0) I qk fun b6=>au ?_));refine ar 1 I (v':=.int .u64 (pl:Nat)) (by grind [u64w]) (al 0 (.int .u64 0) I qk fun b8=>au ?_);refine al 0 (.int .i64 0) I qk fun b9=>stp 0 0 I I I I (WL.h 0 (pt b9 #[.int .i64 0] 3) ?_);refine WL.h 1 (pt b8 #[.int .u64 (pl:Nat)] 29) ?_;refine WL.h 2 (pt b6 #[.int .i64 0] 37) ?_;refine WL.h 3 (pt b4 (snV s aS cS aT cT) 48) ?_
 refine WL.h 4 (pt b3 #[.pointer (some ⟨lb,0,none⟩)] 24) ?_;refine au ?_;refine cl 0 I (chunkC aT s.data.length cT) ?_;rintro v26 K1 hs26 ⟨le1,rfl,d2,d3,rfl,k2,k3⟩;refine au ?_
 refine rgf [.pointer (some ⟨d2,0,none⟩),.pointer (some ⟨d3,0,none⟩)] (chk aT s.data.length) (fun K _=>Cell K ⟨d2,0,none⟩ (.slice aT s.data.length cT)/\Cell K ⟨d3,0,none⟩ (.int .i64 64)) I (chunkI d2 d3 aT s.data.length cT qo hcapT) qk (fun vs hv=>?_) I
  (fun i K' hs'=>Le K1 K'/\∃ D' dh',hs'=pt b9 #[.int .i64 (i:Nat)] 3::pt b8 #[.int .u64 (pl:Nat)] 29::pt b6 #[.int .i64 0] 37::pt b4 (snV s aS cS aT cT) 48::pt b3 #[.pointer (some ⟨lb,0,none⟩)] 24::pt lb (lgA wb db hb' eb L (.slice aV L.sn.vot.length cV) (.slice aD L.sn.data.length cD) (.slice aL L.l.length cL)) 119::wh::hh::eh::gl::dh'::hs /\
   lgW pl (s.data.length+1-i) i (s.data.drop (64*i)) D'=R0/\DOk (c+i) D'/\DskH K' db D' dh')
  (fun cc K' hs'=>cc=.ret/\Le K1 K'/\R0.2≠0/\∃ x dh',hs'=x::pt b8 #[.int .u64 (pl:Nat)] 29::pt b6 #[.int .i64 R0.2] 37::pt b4 (snV s aS cS aT cT) 48::pt b3 #[.pointer (some ⟨lb,0,none⟩)] 24::pt lb (lgA wb db hb' eb { L with code:=R0.2 } (.slice aV L.sn.vot.length cV) (.slice aD L.sn.data.length cD) (.slice aL L.l.length cL)) 119::wh::hh::eh::gl::dh'::hs/\DskH K' db R0.1 dh')
  ⟨Le.refl _,D,dh,rfl,hR0.symm,oD,hD.le le1⟩ (fun i K' hs' t u h=>⟨k2.le h.1,k3.le h.1⟩) ?_ ?_ ?_
 ·obtain ⟨y,_,rfl⟩:=List.mem_map.1 hv
  rfl
 ·rintro LL i vs K' hs' t u hvs ⟨le2,D',dh',rfl,hw,oD',hD'⟩;have hi:i<(s.data.length+63) / 64:=by grind [chk_len]
  rw[chk_get aT hi] at hvs;cases hvs;obtain ⟨b,hbE⟩:∃ b,b=(s.data.drop (64*i)).take 64:=⟨_,rfl⟩;have hbl:b.length=min 64 (s.data.length-64*i):=by rw[hbE,List.length_take,List.length_drop]
  have hb0:s.data.drop (64*i)≠[]:=fun h=>by grind
  have xb:IsS K' (cutA aT (64*i+b.length) (64*i) 1) b.length b.length 1 (bv b):=by
   have:=(xT.le (le1.trans le2)).sub3 (64*i) b.length qo
   have e:((bv s.data).drop (64*i)).take b.length=bv b:=by
    rw[hbE];simp[bv]
   rwa [e] at this
  obtain ⟨f,hf⟩:∃ f,s.data.length+1-i=f+1:=⟨s.data.length-i,by omega⟩;obtain ⟨E,hE'⟩:∃ E,E=D'.write (lgA4 pl) i b:=⟨_,rfl⟩;have oE:=oD'.write (lgA4 pl) i b (by unfold lgA4;omega);rw[hf,lgW_step,if_neg hb0,<-hbE,<-hE'] at hw;rw[<-hE'] at oE;rw[chk1,<-hbl];refine au ?_;refine asgX (hs':=pt b9 #[.int .i64 (i:Nat)] 3::pt b8 #[.int .u64 (pl:Nat)] 29::pt b6 #[.int .i64 0] 37::pt b4 (snV s aS cS aT cT) 48::pt b3 #[.pointer (some ⟨lb,0,none⟩)] 24::pt lb (lgA wb db hb' eb L (.slice aV L.sn.vot.length cV) (.slice aD L.sn.data.length cD) (.slice aL L.l.length cL)) 119::wh::hh::eh::gl::dh'::hs) I fun u=>bkX (sqX (sqX (rgmX [4,5,1,0] 10 [0,2,4,6,8,10,14,16,13,19,21,22] ?_)));refine dldtp [] qk 0 0 I qk I I (dldtp [9,4,3,2] qk 0 0 I qk I I (dldtp [9] qk 2 1 I qk I I (dldtp [9,6] qk 0 2 I qk I I (dldtp [9] qk 0 3 I qk I I (dact qk 1 I (cl 0 I (areaLC pl qo) ?_))))))
  rintro v34 K34 hs34 ⟨rfl,rfl,rfl⟩;refine dnx (by simp) I (dact qk 0 I (cl 0 I (Ct.at 10 I (writeH db D' (c+i) oD'.ok qo hD' (lgA4 pl) i (by unfold lgA4;omega) _ b.length b (.inl rfl) xb)) ?_));rintro v37 K37 hs37 ⟨dh2,rfl,le3,hD2,rfl⟩;rw[<-hE'] at hD2 ⊢;refine dnxL (by simp) le3 (au ?_);refine cl 0 I (Ct.at 5 I (didLC lb wb db hb' eb L _ _ _ _)) ?_;rintro v38 K38 hs38 ⟨_,rfl,rfl,rfl,rfl⟩;have ed:didV L.code E.2=E.2:=by unfold didV;omega
  rw[ed];refine au ?_;refine dcbS qk 0 (E.2≠0) I (by simp) fun b39 h39=>au ?_;refine ifPX h39 I (fun e1=>?_) (fun e1=>?_)
  ·rw[if_pos e1] at hw;refine au ?_;refine jmpR (hs':=pt b9 #[.int .i64 (i:Nat)] 3::pt b8 #[.int .u64 (pl:Nat)] 29::pt b6 #[.int .i64 E.2] 37::pt b4 (snV s aS cS aT cT) 48::pt b3 #[.pointer (some ⟨lb,0,none⟩)] 24::pt lb (lgA wb db hb' eb { L with code:=E.2 } (.slice aV L.sn.vot.length cV) (.slice aD L.sn.data.length cD) (.slice aL L.l.length cL)) 119::wh::hh::eh::gl::dh2::hs) I ?_;rw[<-hw];exact ⟨I,le2.trans le3,e1,_,dh2,I,hD2⟩
  ·have e1:=Decidable.not_not.1 e1;rw[if_neg (by rw[e1];simp)] at hw;have eL:({ L with code:=E.2 }:Lg)=L:=by rw[e1,<-hcode]
   rw[eL];refine au ?_;refine ar 0 I (i64w (x:=((i+1:Nat):Int)) qo) (stp 0 0 I I I I (fin 0 I (nxX (blX (rndX (hs':=pt b9 #[.int .i64 (i+1:Nat)] 3::pt b8 #[.int .u64 (pl:Nat)] 29::pt b6 #[.int .i64 0] 37::pt b4 (snV s aS cS aT cT) 48::pt b3 #[.pointer (some ⟨lb,0,none⟩)] 24::pt lb (lgA wb db hb' eb L (.slice aV L.sn.vot.length cV) (.slice aD L.sn.data.length cD) (.slice aL L.l.length cL)) 119::wh::hh::eh::gl::dh2::hs) I (⟨le2.trans le3,E.1,dh2,I,?_,oE,hD2⟩))))))
   grind [List.drop_drop]
 ·rintro DD K2 hs' ⟨le2,D',dh',rfl,hw,oD1,hD'⟩;rw[chk_len] at hw oD1;have hdr:s.data.drop (64*((s.data.length+63) / 64))=[]:=List.drop_eq_nil_of_le qo;obtain ⟨f,hf⟩:∃ f,s.data.length+1-(s.data.length+63) / 64=f+1:=⟨s.data.length-(s.data.length+63) / 64,by omega⟩;rw[hdr,hf,lgW_step,if_pos rfl] at hw;rw[<-hw] at hR;rw[if_neg (by simp)] at hR;dsimp only at hR;unfold Lg.lay1 at hR;rw[<-hplE] at hR;have le12:=le1.trans le2;obtain ⟨c1,hc1⟩:∃ c1,c1=c+(s.data.length+63) / 64:=⟨_,rfl⟩;rw[<-hc1] at oD1;have hc1b:c1<=c+32768:=by omega
  obtain ⟨E,hEE⟩:∃ E,E=D'.sync (lgA4 pl):=⟨_,rfl⟩;have oE:=oD1.sync (lgA4 pl);rw[<-hEE] at hR oE;refine blX (thX (WX.perm (hs':=pt b9 #[.int .i64 (((chk aT s.data.length).length:Nat):Int)] 3::pt b8 #[.int .u64 (pl:Nat)] 29::pt b6 #[.int .i64 0] 37::pt b4 (snV s aS cS aT cT) 48::pt b3 #[.pointer (some ⟨lb,0,none⟩)] 24::pt lb (lgA wb db hb' eb L (.slice aV L.sn.vot.length cV) (.slice aD L.sn.data.length cD) (.slice aL L.l.length cL)) 119::wh::hh::eh::gl::dh'::(hs++[dfr DD])) (List.Perm.refl _) (WX.drop (sqX (sqX (rgmX [3,4,0] 8 [0,2,4,6,8,10,13,15,17,18] ?_))))));refine dldtp [] qk 0 0 I qk I I (dldtp [7,4,3,2] qk 0 0 I qk I I (dldtp [7] qk 2 1 I qk I I (dldtp [7,6] qk 0 2 I qk I I (dact qk 0 I (cl 0 I (areaLC pl qo) ?_)))));rintro v52 K52 hs52 ⟨rfl,rfl,rfl⟩;refine dnx (by simp) I (dact qk 0 I (cl 0 I (Ct.at 9 I (syncH db D' c1 oD1.ok qo hD' (lgA4 pl))) ?_))
  rintro v53 K53 hs53 ⟨dh2,rfl,rfl,hD2,rfl⟩;rw[<-hEE] at hD2 ⊢;refine dnx (by simp) I (dact qk 0 I (cl 0 I (Ct.at 4 I (didLC lb wb db hb' eb L _ _ _ _)) ?_));rintro v54 K54 hs54 ⟨_,rfl,rfl,rfl,rfl⟩;have ed:didV L.code E.2=E.2:=by unfold didV;omega
  rw[ed];refine dnext (.inl qk) (dcbS qk 0 (E.2≠0) I (by simp) fun b55 h55=>dend qk 0 I (nxX (thX (ifPX h55 I (fun e2=>?_) (fun e2=>?_)))))
  ·rw[if_pos e2] at hR;refine sqX (rgX (ldp 0 3 I I I (ldp 2 4 I I I (stp 0 1 I I I I (fin 0 I (nxX (thX (rtX (rTX (retmD DD 4 (hs':=pt b8 #[.int .u64 (pl:Nat)] 29::pt b6 #[.int .i64 E.2] 37::pt b4 (snV s aS cS aT cT) 48::pt b3 #[.pointer (some ⟨lb,0,none⟩)] 24::pt lb (lgA wb db hb' eb { L with code:=E.2 } (.slice aV L.sn.vot.length cV) (.slice aD L.sn.data.length cD) (.slice aL L.l.length cL)) 119::wh::hh::eh::gl::dh2::hs) I (.inl I) (res_c1 1 I I I I I) ?_))))))))));rw[hR];exact ⟨le12,[_,_,_,_,_,_],I,⟨wb,hb',eb,aV,cV,aD,cD,aL,cL,wh,hh,eh,gl,dh2,I,hW.le le12,hH.le le12,hE.le le12,hG.imp fun _ _ h=>h.le le12,hD2,xV.le le12,xD.le le12⟩,I⟩
  ·have e2:=Decidable.not_not.1 e2;rw[if_neg (by rw[e2];simp)] at hR;have eL:({ L with code:=E.2 }:Lg)=L:=by rw[e2,<-hcode]
   rw[eL];clear eL;obtain ⟨E,Ee⟩:=E;dsimp only at hR hD2 oE;clear ed h55;clear hw;refine skX (thX (sqX (rgX (lds 1 [.slice aS s.vot.length cS] I qk (.inr ⟨2,I⟩) (cells_sub _ I) (cl 0 I (putConfC aS cS s.vot (.inl I) (xS.le le12) qo) ?_)))));rintro v63 K63 hs63 ⟨rfl,h63,ao63,c63,rfl,rfl,o63⟩;unfold Lg.lay2 at hR;rw[<-hplE] at hR;obtain ⟨ns,hns⟩:∃ ns:List Nat,ns=[s.idx,s.term,pl,s.data.length,fr]:=⟨_,rfl⟩;have hnsl:ns.length=5:=by rw[hns];rfl
   have hnsb:∀ n∈ns,n<18446744073709551616:=by
    grind [mxU]
   have hfl:∀ j,((ns.take j).flatMap uint).length<=10*5:=fun j=>by
    have:∀ l:List Nat,(∀ n∈l,n<18446744073709551616)->(l.flatMap uint).length<=10*l.length:=fun l=>by
     induction l with
     | nil=>simp
     | cons a l ih=>
      intro h;have h1:=uint_le10 (h a (by simp))
      grind
    grind
   refine fin 5 I<|nxX (thX<|sqX (rgX<|fin 1 I (nxX<|thX (sqX<|sqX (rgX<|ldp 1 3 I I I (ldp 1 3 I I I<|ldp 0 1 I I I (ldp 1 3 I I I<|ar 1 I (u64w (x:=((s.data.length:Nat):Int)) qo) (lit 1 #[.int .u64 s.idx,.int .u64 s.term,.int .u64 (pl:Nat),.int .u64 s.data.length,.int .u64 (fr:Nat)] I (by decide) qk fun b76=>fin 2 I<|nxX (thX<|bkX (WX.em ?_))))))))))
   refine loopX (σ:=Nat×(Option Addr×Nat×PH)) (fun x=>[(2,.int .u64 (fr:Nat)),(3,.pointer (some ⟨b3,0,none⟩)),(4,.pointer (some ⟨b4,0,none⟩)),(6,.pointer (some ⟨b6,0,none⟩)),(7,.int .u64 L.place),(8,.pointer (some ⟨b8,0,none⟩)),(11,.slice ao63 (ob (putConf s.vot)).length c63),(13,.slice x.2.1 ((ns.take x.1).flatMap uint).length x.2.2.1),(76,.slice (some ⟨b76,0,none⟩) 5 5),(77,.int .i64 5),(78,.int .i64 x.1)]) (fun _=>K63)
    (fun x=>x.2.2.2::pt b76 #[.int .u64 s.idx,.int .u64 s.term,.int .u64 (pl:Nat),.int .u64 s.data.length,.int .u64 (fr:Nat)] 29::h63::pt b8 #[.int .u64 (pl:Nat)] 29::pt b6 #[.int .i64 0] 37::pt b4 (snV s aS cS aT cT) 48::pt b3 #[.pointer (some ⟨lb,0,none⟩)] 24::pt lb (lgA wb db hb' eb L (.slice aV L.sn.vot.length cV) (.slice aD L.sn.data.length cD) (.slice aL L.l.length cL)) 119::wh::hh::eh::gl::dh2::(hs++[dfr DD]))
    (fun x=>x.1<=5/\Own x.2.2.2 x.2.1 ((ns.take x.1).flatMap uint).length x.2.2.1 5 1 (bv ((ns.take x.1).flatMap uint))) (fun x=>5-x.1) (0,(none,0,em)) ⟨by omega,Own.nil _ _⟩ ⟨rfl,rfl,rfl,rfl,rfl,rfl,rfl,rfl,rfl,rfl,rfl,trivial⟩ rfl rfl ?_
   rintro ⟨j,⟨ag,cg,g⟩⟩ ⟨hj,og⟩;dsimp only at *;have hflj:=hfl j;refine sqX (rgX (cmpS 0 I fun b79 h79=>fin 0 I (nxX (thX (sqX (ifPX h79 I (fun e4=>?_) (fun e4=>?_)))))))
   ·have hj5:j<5:=by omega
    obtain ⟨n,hn⟩:∃ n,ns[j]?=some n:=⟨ns[j],List.getElem?_eq_getElem qo⟩;have hnb:=hnsb n (List.mem_of_getElem? hn);have x76:IsS (pt b76 #[.int .u64 s.idx,.int .u64 s.term,.int .u64 (pl:Nat),.int .u64 s.data.length,.int .u64 (fr:Nat)] 29) (some ⟨b76,0,none⟩) 5 5 1 (uvv ns):=by rw[hns];exact (Own.ofPt (n:=5) (size:=1) I (by decide)).isS
    refine skX (thX (sqX (bkX (sqX (rgX (ix1 0 j I I I x76 (uvv_get hn) fun a80 hc80=>ld 0 I (.inr ⟨1,I⟩) hc80 (fin 1 I (nxX (thX (rgX (cl 2 I (putUint ag cg _ n og hnb qo) ?_)))))))))));rintro v84 K84 hs84 ⟨h84,rfl,rfl,ao84,c84,rfl,o84⟩;have etk:(ns.take (j+1)).flatMap uint=(ns.take j).flatMap uint++uint n:=by rw[List.take_add_one,hn];simp
    rw[<-etk] at o84 ⊢;exact fin 1 I (nxX (blX (thX (rgX (ar 0 I (i64w (x:=((j+1:Nat):Int)) qo) (fin 1 I (nxX (againX (x:=(j,(ag,cg,g))) (j+1,(ao84,c84,h84)) ⟨I,I,I,I,I,I,I,I,I,I,I,trivial⟩ I I ⟨by omega,o84⟩ (by dsimp only;omega)))))))))
   ·obtain rfl:j=5:=by omega
    have ens:(ns.take 5).flatMap uint=uint s.idx++(uint s.term++(uint pl++(uint s.data.length++uint fr))):=by rw[hns];simp
    obtain ⟨bb,hbb⟩:∃ bb,bb=(ns.take 5).flatMap uint:=⟨_,rfl⟩;have esay:bb++ob (putConf s.vot)=Lg.say s pl fr:=by simp_all [Lg.say]
    rw[<-hbb] at og hflj ⊢
    have hcl:(ob (putConf s.vot)).length<=1:=by
     unfold putConf
     split
     all_goals simp[ob]
    obtain ⟨F,hF⟩:∃ F,F=L.head.save 4 E (Lg.say s pl fr):=⟨_,rfl⟩;have oF:=oE.save L.head 4 qo (Lg.say s pl fr);have hsl:(Lg.say s pl fr).length<=51:=by rw[<-esay,List.length_append];omega
    have hHb:=Slt.save_bd hb.head 4 E (Lg.say s pl fr);rw[<-hF] at oF hR hHb;refine exX (xtX (xtX (xbX (thX (sqX (sqX (rgaX [pt b3 #[.pointer (some ⟨lb,0,none⟩)] 24,pt lb (lgA wb db hb' eb L (.slice aV L.sn.vot.length cV) (.slice aD L.sn.data.length cD) (.slice aL L.l.length cL)) 119] 9 [0,2,4,6,8,10,12,15,17,19,20] (by simp) qk qk (dldtp [] qk 0 0 I qk I I (dldtp [8,4,3,2] qk 0 0 I qk I I (dldtp [8] qk 2 1 I qk I I (dact qk 2 I (app 0 0 I I og (.inr ⟨2,I⟩) o63.isS I (by decide) (bv_one _) (by grind) (by simp only[maxLen];omega) fun ao93 c93 g93 o93=>?_))))))))))));have o93':Own g93 ao93 (Lg.say s pl fr).length c93 5 1 (bv (Lg.say s pl fr)):=own_of o93 (by rw[<-esay,List.length_append]) (by rw[<-esay,bv_append]);have elen:bb.length+(ob (putConf s.vot)).length=(Lg.say s pl fr).length:=by rw[<-esay,List.length_append]
    rw[elen];refine dnx (by simp) I (dact qk 0 I (cl 0 I (Ct.at2 10 11 I I (saveSH eb db 4 L.head (hE.le le12) hb.head E (c1+1) oE.ok qo hD2 qo (Lg.say s pl fr) ao93 c93 qo (.inr ⟨0,I⟩) o93'.isS)) ?_));rintro v94 K3 hs94 ⟨eh3,dh3,rfl,le3,hE3,hD3,rfl⟩;rw[<-hF] at hE3 hD3 ⊢;have le13:=le12.trans le3;refine dnxL (by simp) le3 (dact qk 0 I (cl 0 I (Ct.at 7 I (didLC lb wb db hb' eb L _ _ _ _)) ?_));rintro v95 K95 hs95 ⟨_,rfl,rfl,rfl,rfl⟩;have ed:didV L.code F.2.2=F.2.2:=by unfold didV;omega
    rw[ed];refine dnext (.inl qk) (dcbS qk 0 (F.2.2≠0) I (by simp) fun b96 h96=>dend qk 0 I (nxX (thX (WX.drop (WX.drop (WX.drop (ifPX h96 I (fun e5=>?_) (fun e5=>?_))))))))
    ·rw[if_pos e5] at hR;refine sqX (rgX (ldp 0 3 I I I (ldp 2 4 I I I (stp 0 1 I I I I (fin 0 I (nxX (thX (rtX (rTX (retmD DD 4 (hs':=pt b8 #[.int .u64 (pl:Nat)] 29::pt b6 #[.int .i64 F.2.2] 37::pt b4 (snV s aS cS aT cT) 48::pt b3 #[.pointer (some ⟨lb,0,none⟩)] 24::pt lb (lgA wb db hb' eb { L with code:=F.2.2 } (.slice aV L.sn.vot.length cV) (.slice aD L.sn.data.length cD) (.slice aL L.l.length cL)) 119::wh::hh::eh3::gl::dh3::hs) I (.inl I) (res_c1 1 I I I I I) ?_))))))))));rw[hR];exact ⟨le13,[_,_,_,_,_,_],I,⟨wb,hb',eb,aV,cV,aD,cD,aL,cL,wh,hh,eh3,gl,dh3,I,hW.le le13,hH.le le13,hE3,hG.imp fun _ _ h=>h.le le13,hD3,xV.le le13,xD.le le13⟩,I⟩
    ·have e5:=Decidable.not_not.1 e5;rw[if_neg (by rw[e5];simp)] at hR;have eL:({ L with code:=F.2.2 }:Lg)=L:=by rw[e5,<-hcode]
     rw[eL];clear eL ed h96;obtain ⟨H,D3,F2⟩:=F;dsimp only at hR oF hHb hE3 hD3 e5;subst e5;unfold Lg.lay3 at hR;have hbH:LBd c { L with head:=H }:=⟨hb.w,hb.hard,hHb,hb.kt,hb.kv,hb.idx,hb.st,hb.vot,hb.data,hb.place,hb.fr,hb.len,hb.ents⟩
     have hmH:LgM K95 lb db { L with head:=H } D3 [pt lb (lgA wb db hb' eb L (.slice aV L.sn.vot.length cV) (.slice aD L.sn.data.length cD) (.slice aL L.l.length cL)) 119,wh,hh,eh3,gl,dh3]:=
      ⟨wb,hb',eb,aV,cV,aD,cD,aL,cL,wh,hh,eh3,gl,dh3,rfl,hW.le le13,hH.le le13,hE3,hG.imp fun _ _ h=>h.le le13,hD3,xV.le le13,xD.le le13⟩
     have hG3:=hG.imp (R':=EntC K95) fun _ _ h=>h.le le13;refine skX (thX (WX.perm (hs':=[pt lb (lgA wb db hb' eb L (.slice aV L.sn.vot.length cV) (.slice aD L.sn.data.length cD) (.slice aL L.l.length cL)) 119,wh,hh,eh3,gl,dh3]++(pt b8 #[.int .u64 (pl:Nat)] 29::pt b6 #[.int .i64 0] 37::pt b4 (snV s aS cS aT cT) 48::pt b3 #[.pointer (some ⟨lb,0,none⟩)] 24::(hs++[dfr DD]))) (List.perm_append_comm_assoc [_,_,_,_] [_,_,_,_,_,_] (hs++[dfr DD])) (sqX (rgX (ldp 0 9 I I I (ldp 1 8 I I I (cl 0 I (atLC lb db { L with head:=H } D3 c hbH qo hmH s.idx qo) ?_)))))));rintro v105 K105 hs105 ⟨rfl,rfl,rfl⟩;obtain ⟨NL,hNL⟩:∃ NL,NL=if lgHas L.sn L.l s=true then L.l.drop ((lgAt L.sn L.l s.idx).getD 0+1) else []:=⟨_,rfl⟩;have hNl:NL.length<=L.l.length:=by rw[hNL];split <;> simp
     refine fin 5 I (nxX (thX (jnZ (σ:=Option Addr×Nat×PH) (fun _=>[(2,.int .u64 (fr:Nat)),(3,.pointer (some ⟨b3,0,none⟩)),(4,.pointer (some ⟨b4,0,none⟩)),(6,.pointer (some ⟨b6,0,none⟩)),(7,.int .u64 L.place),(8,.pointer (some ⟨b8,0,none⟩))]) (fun _=>K105)
      (fun x=>pt lb (lgA wb db hb' eb L (.slice aV L.sn.vot.length cV) (.slice aD L.sn.data.length cD) (.slice x.1 NL.length x.2.1)) 119::wh::hh::eh3::x.2.2::dh3::pt b8 #[.int .u64 (pl:Nat)] 29::pt b6 #[.int .i64 0] 37::pt b4 (snV s aS cS aT cT) 48::pt b3 #[.pointer (some ⟨lb,0,none⟩)] 24::(hs++[dfr DD])) (fun x=>SlZ 4 51 (EntC K105) x.2.2 x.1 NL.length x.2.1 NL) ?_ ?_)))
     ·refine sqX (rgX (ldp 0 9 I I I (ldS 0 8 I I qk (cl 0 I (hasLC (hv:=K105) lb db { L with head:=H } D3 c hbH qo hmH s qo aS cS aT cT) ?_))));rintro v110 K110 hs110 ⟨rfl,rfl,rfl⟩;refine fin 0 I (nxX (thX ?_));cases hhas:lgHas L.sn L.l s with
      | true=>
       rw[if_pos hhas] at hNL
       obtain ⟨k,hk,hkl⟩:∃ k,lgAt L.sn L.l s.idx=some k/\k<L.l.length:=by
        unfold lgHas at hhas;rw[trm_at,if_neg qo] at hhas;cases h:lgAt L.sn L.l s.idx with
        | none=>rw[h] at hhas;simp at hhas
        | some k=>exact ⟨k,rfl,(lgAt_some h).2.2.2⟩
       have hk0:(lgAt L.sn L.l s.idx).getD 0=k:=by rw[hk];rfl
       rw[hk0] at hNL;have hNL2:NL.length=L.l.length-(k+1):=by rw[hNL,List.length_drop]
       have hcap:=hG3.caps;have xcut:=hG3.slS.cut (k+1) qo;rw[<-hNL,<-hNL2] at xcut;refine ifTX I (rgmX [9,0] 11 [0,2,4,6,8,10,12,14,17,18,20,23] ?_);refine dldpw qk 0 0 I qk I I (dldpw qk 0 0 I qk I I (dldpw qk 2 1 I qk I I (dar qk 1 I (v':=.int .i64 (k+1:Nat)) (by grind [i64w]) (dslx qk 0 (k+1) NL.length I I I (by show ((L.l.length:Nat):Int)=_;omega) qo (dact qk 0 rfl (cl 0 rfl (cloneEC _ NL.length _ NL (.inr ⟨4,rfl⟩) xcut qo) ?_))))));rintro v119 K119 hs119 ⟨rfl,h119,ao119,c119,rfl,rfl,o119⟩;refine dnx (by simp) I (dact qk 2 I (stp 0 1 I I I I ?_));exact WL.perm (hs':=[_,_,_,_]++(h119::_)) (List.perm_middle (l₁:=[_,_,_,_])).symm (dnext (.inl qk) (dend qk 0 I (nxX (WQX.perm (perm_front _ 5 gl I) (WQX.drop (jxZ (ao119,c119,h119) o119 ⟨I,I,I,I,I,I,trivial⟩ I I))))))
      | false=>
       rw[if_neg (by rw[hhas];simp)] at hNL;refine ifFX I (rgX (ldp 0 9 I I I (stp 2 0 I I I I (WL.loss 4 em I (.inr I) (fin 0 I (nxX ?_))))));exact jxZ (none,0,em) (by rw[hNL];exact SlZ.nil _ _) ⟨I,I,I,I,I,I,trivial⟩ I (by rw[hNL];rfl)
     ·rintro ⟨aN,cN,gN⟩ oN;dsimp only at *;have eLd:L.laid s fr H={ L with head:=H,l:=NL,place:=pl,fr:=fr,sn:=s }:=by unfold Lg.laid;rw[<-hNL,<-hplE]
      obtain ⟨G,hGE⟩:∃ G,G=D3.free (lgA4 L.place):=⟨_,rfl⟩;rw[eLd,<-hGE] at hR;refine sqX (rgaX [pt b3 #[.pointer (some ⟨lb,0,none⟩)] 24,pt b8 #[.int .u64 (pl:Nat)] 29] 10 [0,2,4,6,8,10,13,14,16,19] (by simp) qk qk (dldpw qk 0 0 I qk I I (dldpw qk 0 0 I qk I I (dldpw qk 0 1 I qk I I (dact qk 3 I (stp 0 0 I I I I (dnx (by simp) I (dact qk 2 I (stp 0 0 I I I I (dnx (by simp) I (dend qk 0 I (nxX (thX (sqX (rgX (ldp 0 9 I I I (ldS 0 8 I I qk (sts 2 0 I I qk (by simp[lgA,snV]) (fun v hv=>by simp[snV] at hv;rcases hv with rfl|rfl|rfl|rfl <;> rfl) (WL.h 0 (pt lb (lgA wb db hb' eb { L with head:=H,l:=NL,place:=pl,fr:=fr,sn:=s } (.slice aS s.vot.length cS) (.slice aT s.data.length cT) (.slice aN NL.length cN)) 119) ?_)))))))))))))))))))
      refine fin 0 I (nxX (thX (sqX (rgmX [9,8] 9 [0,2,4,6,9,10,12,14,16,19] ?_))));refine dldpw qk 0 0 I qk I I (dldpw qk 2 1 I qk I I (dact qk 0 I (cl 0 I (cloneIC aS cS s.vot (.inl I) (xS.le le13) qo) ?_)));rintro v141 K4 hs141 ⟨le4,rfl,aV2,cV2,rfl,xV2⟩;refine dnxL (by simp) le4 (dact qk 4 I (stp 0 0 I I I I (dnx (by simp) I (dend qk 0 I (nxX (thX (sqX (rgmX [9,8] 7 [0,2,4,7,8,10,12,15] ?_))))))));refine dldpw qk 0 0 I qk I I (dldpw qk 1 1 I qk I I (dact qk 0 I ?_));have le14:=le13.trans le4;refine cl 0 I (cloneB aT cT s.data (.inl I) (xT.le le14) qo) ?_;rintro v149 K149 hs149 ⟨rfl,h149,aD2,cD2,rfl,rfl,oD2⟩;refine WL.frz fun K5 le5 l5=>?_;have xD2:=oD2.isS.le l5;refine dnxL (by simp) le5 (dact qk 3 I (stp 0 0 I I I I (dnx (by simp) I (dend qk 0 I (nxX (thX (WX.perm (hs':=pt lb (lgA wb db hb' eb { L with head:=H,l:=NL,place:=pl,fr:=fr,sn:=s } (.slice aV2 s.vot.length cV2) (.slice aD2 s.data.length cD2) (.slice aN NL.length cN)) 119::wh::hh::eh3::gN::dh3::pt b8 #[.int .u64 (pl:Nat)] 29::pt b6 #[.int .i64 0] 37::pt b4 (snV s aS cS aT cT) 48::pt b3 #[.pointer (some ⟨lb,0,none⟩)] 24::(hs++[dfr DD])) (List.Perm.refl _) (sqX (rgmX [9,0] 8 [0,2,4,6,8,10,13,15,17,19] ?_)))))))))
      refine dldtp [] qk 0 0 I qk I I (dldtp [7,4,3,2] qk 0 0 I qk I I (dldtp [7] qk 2 1 I qk I I (dact qk 1 I (cl 0 I (areaLC L.place qo) ?_))));rintro v159 K159 hs159 ⟨rfl,rfl,rfl⟩;refine dnx (by simp) I (dact qk 0 I ?_);have le45:=le4.trans le5;refine cl 0 I (Ct.at 5 I (freeH db D3 (c1+1+2) oF.ok qo (hD3.le le45) (lgA4 L.place))) ?_;rintro v160 K160 hs160 ⟨dh4,rfl,rfl,hD4,rfl⟩;rw[<-hGE] at hD4 ⊢;refine dnx (by simp) I (dact qk 0 I (cl 0 I (didLC lb wb db hb' eb { L with head:=H,l:=NL,place:=pl,fr:=fr,sn:=s } _ _ _ _) ?_));rintro v161 K161 hs161 ⟨_,rfl,rfl,rfl,rfl⟩;have ed:didV L.code G.2=G.2:=by unfold didV;omega
      rw[ed];refine dnext (.inl qk) (dact qk 0 I (stp 0 7 I I I I (dnext (.inl qk) (dend qk 0 I (nxX (thX (rtX ?_)))))));refine WQX.perm (hs':=[pt b8 #[.int .u64 (pl:Nat)] 29,pt b6 #[.int .i64 G.2] 37,pt b4 (snV s aS cS aT cT) 48,pt b3 #[.pointer (some ⟨lb,0,none⟩)] 24]++([pt lb (lgA wb db hb' eb { L with head:=H,l:=NL,place:=pl,fr:=fr,sn:=s,code:=G.2 } (.slice aV2 s.vot.length cV2) (.slice aD2 s.data.length cD2) (.slice aN NL.length cN)) 119,wh,hh,eh3,gN,dh4]++(hs++[dfr DD]))) (List.perm_append_comm_assoc [_,_,_,_,_,_] [_,_,_,_] (hs++[dfr DD])) (retmD DD 4 (hs':=pt b8 #[.int .u64 (pl:Nat)] 29::pt b6 #[.int .i64 G.2] 37::pt b4 (snV s aS cS aT cT) 48::pt b3 #[.pointer (some ⟨lb,0,none⟩)] 24::pt lb (lgA wb db hb' eb { L with head:=H,l:=NL,place:=pl,fr:=fr,sn:=s,code:=G.2 } (.slice aV2 s.vot.length cV2) (.slice aD2 s.data.length cD2) (.slice aN NL.length cN)) 119::wh::hh::eh3::gN::dh4::hs) I (.inl I) (res_c1 1 I I I I I) ?_)
      rw[hR];exact ⟨le13.trans le45,[_,_,_,_,_,_],I,⟨wb,hb',eb,aV2,cV2,aD2,cD2,aN,cN,wh,hh,eh3,gN,dh4,I,(hW.le le13).le le45,(hH.le le13).le le45,hE3.le le45,oN.imp fun _ _ h=>h.le le45,hD4,xV2.le le5,xD2⟩,I⟩
 ·rintro DD c' K' hs' ⟨rfl,le2,e0,x,dh',rfl,hD'⟩;rw[if_pos e0] at hR;refine rtX (retmD DD 5 (hs':=x::pt b8 #[.int .u64 (pl:Nat)] 29::pt b6 #[.int .i64 R0.2] 37::pt b4 (snV s aS cS aT cT) 48::pt b3 #[.pointer (some ⟨lb,0,none⟩)] 24::pt lb (lgA wb db hb' eb { L with code:=R0.2 } (.slice aV L.sn.vot.length cV) (.slice aD L.sn.data.length cD) (.slice aL L.l.length cL)) 119::wh::hh::eh::gl::dh'::hs) I (.inl I) (res_c1 2 I I I I I) ?_);have le:=le1.trans le2;rw[hR];exact ⟨le,[_,_,_,_,_,_],I,⟨wb,hb',eb,aV,cV,aD,cD,aL,cL,wh,hh,eh,gl,dh',I,hW.le le,hH.le le,hE.le le,hG.imp fun _ _ h=>h.le le,hD',xV.le le,xD.le le⟩,I⟩
end
section
theorem putConf_len{l:List Int}(h:(putConf l).isSome=true):l.length<=7:=by
 unfold putConf at h
 split at h
 ·rename_i h1;have:=confOK_len l (-1) h1.2 qo qo;omega
 ·simp at h
theorem DOk.lgW(place:Nat)(hp:lgA4 place<=18446744073709551615):∀ (f n:Nat) (b:List UInt8) (D:Dk) (c:Nat),DOk c D->DOk (c+(b.length+63) / 64) (lgW place f n b D).1
 | 0,_,_,D,c,o=>o.up qo
 | f+1,n,b,D,c,o=>by
  rw[lgW_step]
  split
  ·exact o.up qo
  ·rename_i hb;have hbl:0<b.length:=by grind
   have h1:=o.write (lgA4 place) n (b.take 64) qo
   split
   ·exact h1.up qo
   ·have:=DOk.lgW place hp f (n+1) (b.drop 64) _ _ h1
    grind
theorem lay_code(L:Lg)(s:Snp)(fr:Nat)(D:Dk):(L.lay s fr D).1.code=(L.lay s fr D).2.2:=by
 unfold Lg.lay
 split
 ·rfl
 ·unfold Lg.lay1
  split
  ·rfl
  ·unfold Lg.lay2
   split
   all_goals rfl
structure SBd (s:Snp):Prop where
 idx:s.idx<=lgTop
 term:s.term<=mxU
 vot:s.vot.length<=7
 data:s.data.length<=2097152
theorem LBd.lay{c:Nat}{L:Lg}(o:LBd c L)(s:Snp)(hs:SBd s)(fr:Nat)(hfr:fr<=wMany+(c+1))(D:Dk):LBd (c+1) (L.lay s fr D).1:=by
 have hc:∀ k,LBd (c+1) { L with code:=k }:=fun k=>o.wc (W:=L.w) (o.w.up (Nat.le_succ c)) (Nat.le_succ c) k;unfold Lg.lay
 split
 ·exact hc _
 ·unfold Lg.lay1
  split
  ·exact hc _
  ·unfold Lg.lay2;have hH:=Slt.save_bd o.head 4 ((lgW (L.place+1) (s.data.length+1) 0 s.data D).1.sync (lgA4 (L.place+1))).1 (Lg.say s (L.place+1) fr)
   split
   ·exact ⟨o.w.up (Nat.le_succ c),o.hard,hH,o.kt,o.kv,o.idx,o.st,o.vot,o.data,by have:=o.place;dsimp only;omega,by have:=o.fr;dsimp only;omega,by have:=o.len;dsimp only;omega,o.ents⟩
   ·unfold Lg.lay3 Lg.laid;refine ⟨o.w.up (Nat.le_succ c),o.hard,hH,o.kt,o.kv,hs.idx,hs.term,hs.vot,hs.data,by have:=o.place;dsimp only;omega,hfr,?_,?_⟩
    ·have:=o.len
     grind
    ·dsimp only
     split
     ·exact fun e he=>o.ents e<|List.mem_of_mem_drop he
     simp
theorem DOk.layL{c:Nat}{D:Dk}(d:DOk c D){L:Lg}(o:LBd c L)(hc:c<=999000000)(s:Snp)(hs:SBd s)(fr:Nat):DOk (c+((s.data.length+63) / 64+4)) (L.lay s fr D).2.1:=by
 have hp:=o.place;unfold lgTop at hp;have h1:=DOk.lgW (L.place+1) (by unfold lgA4;omega) (s.data.length+1) 0 s.data D c d;unfold Lg.lay
 split
 ·exact h1.up qo
 ·unfold Lg.lay1;have h2:=h1.sync (lgA4 (L.place+1))
  split
  ·exact h2.up qo
  ·unfold Lg.lay2;have h3:=h2.save L.head 4 qo (Lg.say s (L.place+1) fr)
   split
   ·exact h3.up qo
   ·unfold Lg.lay3;exact (h3.free (lgA4 L.place)).up qo
theorem DOk.syncL{c:Nat}{D:Dk}(d:DOk c D)(L:Lg):DOk (c+1) (L.sync D).2.1:=by
 unfold Lg.sync
 split
 ·exact d.up qo
 ·exact d.syncW L.w
theorem sync_code(L:Lg)(D:Dk):(L.sync D).1.code=(L.sync D).2.2:=by
 unfold Lg.sync
 split <;> rfl
theorem sync_sn(L:Lg)(D:Dk):(L.sync D).1.sn=L.sn/\(L.sync D).1.l=L.l/\(L.sync D).1.fr=L.fr:=by
 unfold Lg.sync
 split <;> exact ⟨rfl,rfl,rfl⟩
attribute [local irreducible] Code.wp wpList Calls
theorem saveLC{w0:World}{K:PH}{m hs:List PH}(lb db:Nat)(L:Lg)(D:Dk)(c:Nat)(hb:LBd c L)(hc:c<=499900000)(oD:DOk c D)(hm:LgM K lb db L D m)(s:Snp)(hsi:s.idx<18446744073709551616)(hst:s.term<=mxU)(hvl:s.vot.length<1099511627776)(hdl:s.data.length<1099511627776)
  (aS:Option Addr) (cS:Nat) (aT:Option Addr) (cT:Nat) (xS:IsS K aS s.vot.length cS 1 (iv s.vot)) (xT:IsS K aT s.data.length cT 1 (bv s.data)):
  Ct Tryz.prog w0 91 [.pointer (some ⟨lb,0,none⟩),.agg (snV s aS cS aT cT)] K (m++hs)
   (fun u K' hs'=>Le K K'/\∃ m',hs'=m'++hs/\LgM K' lb db (L.save s D).1 (L.save s D).2.1 m'/\u=.int .i64 (L.save s D).2.2):=by
 have hm0:=hm;obtain ⟨wb,hb',eb,aV,cV,aD,cD,aL,cL,wh,hh,eh,gl,dh,rfl,hW,hH,hE,hG,hD,xV,xD⟩:=hm;obtain ⟨R,hR⟩:∃ R,R=L.save s D:=⟨_,rfl⟩;rw[<-hR];unfold Lg.save at hR;refine ent Tryz.func91 ?_;refine sq (rg (bx 0 I fun b3=>?_));refine WL.hs (pt b3 (snV s aS cS aT cT) 48::([_,_,_,_,_,_]++hs)) I ?_;refine WL.perm (List.perm_middle (l₁:=[_,_,_,_,_,_])).symm (fin 1 I (th (sq (rg (ldS 1 6 I I qk (cl 0 I (fitsLC (hv:=K) (hd':=K) lb db L D c hb qo hm0 s hsi aS cS aT cT xS hvl hdl) ?_))))));rintro v8 K8 hs8 ⟨rfl,rfl,rfl⟩;refine fin 1 I (th ?_)
 by_cases hf:L.fits s=0
 ·rw[if_neg (by rw[hf];simp)] at hR;have hfit:=hf;unfold Lg.fits at hfit
  have hcode:L.code=0:=by
   omega
  rw[if_neg qo] at hfit
  have hps:(putConf s.vot).isSome=true/\s.data.length<=2097152:=by
   grind
  rw[if_neg (by rw[hps.1];simp;exact hps.2)] at hfit
  have hix:L.sn.idx<s.idx/\s.idx<lgTop:=by
   omega
  have hsB:SBd s:=⟨by omega,hst,putConf_len hps.1,hps.2⟩;rw[hf];refine sq (sq (rg (cmp 1 I (fun _=>ldS 2 6 I I qk (cl 0 I (hasLC (hv:=K8) lb db L D c hb qo hm0 s hsi aS cS aT cT) ?_)) (fun h=>absurd I h))));rintro v14 K14 hs14 ⟨rfl,rfl,rfl⟩;cases hhas:lgHas L.sn L.l s with
  | false=>
   rw[if_pos hhas] at hR;refine fin 2 I (th (ifT I (rg (fin 1 I (th (sq (sq (rg (fin 2 I (th (ifT I (sq (rg (fin 2 I (th (rt (rT (WQ.del 6 I ?_))))))))))))))))));rw[hR];exact ret1 I I ⟨Le.refl _,[_,_,_,_,_,_],I,hm0,I⟩
  | true=>
   rw[if_neg (by rw[hhas];simp)] at hR;refine fin 2 I (th (ifF I (sk (th (sq (sq (rg (fin 2 I (th (ifF I (sk (th ?_))))))))))));unfold Lg.save1 at hR;obtain ⟨Y,hY⟩:∃ Y,Y=L.sync D:=⟨_,rfl⟩;have hYb:=hb.sync D;have hYd:=oD.syncL L;have hYc:=sync_code L D;obtain ⟨hYs,hYl,hYf⟩:=sync_sn L D;rw[<-hY] at hR hYb hYd hYc hYs hYl hYf;refine sq (sq (rga [pt b3 (snV s aS cS aT cT) 48] 10 [0,3,4,6,8,10,12,14,16,18,21,22,24] (by simp) qk qk (au ?_)));refine cl 0 I (syncLC lb db L D c hb qo oD hm0) ?_;rintro v21 K21 hs21 ⟨rfl,m2,rfl,hm2,rfl⟩;rw[<-hY] at hm2 ⊢;obtain ⟨L2,D2,C2⟩:=Y;dsimp only at hm2 hR hYb hYd hYc hYs hYl hYf;obtain ⟨wb2,hb2',eb2,aV2,cV2,aD2,cD2,aL2,cL2,wh2,hh2,eh2,gl2,dh2,rfl,hW2,hH2,hE2,hG2,hD2,xV2,xD2⟩:=id hm2;refine dnex [pt b3 (snV s aS cS aT cT) 48,pt lb (lgA wb2 db hb2' eb2 L2 (.slice aV2 L2.sn.vot.length cV2) (.slice aD2 L2.sn.data.length cD2) (.slice aL2 L2.l.length cL2)) 119] (by simp) (by simp) I (dcmp qk 0 (C2≠0) I (by simp) (fun h6=>?_) (fun h6=>?_))
   ·rw[if_pos h6] at hR;refine dact qk 7 I (WL.pures 1 I (dnext (.inl qk) (dend qk 2 I (th (ifT I (sq (rg (ldp 3 0 I I I (fin 1 I (th (rt (rT (WQ.del 6 I ?_)))))))))))));rw[hR];exact ret1 I I ⟨Le.refl _,[_,_,_,_,_,_],I,hm2,by rw[<-hYc];rfl⟩
   ·have h6:=Decidable.not_not.1 h6;subst h6;rw[if_neg (by simp)] at hR;unfold Lg.save2 at hR;have hfr:=hYb.fr;obtain ⟨Z,hZ⟩:∃ Z,Z=L2.lay s L2.fr D2:=⟨_,rfl⟩;have hZb:=hYb.lay s hsB L2.fr qo D2;have hZd:=hYd.layL (hYb.up (Nat.le_succ c)) qo s hsB L2.fr;have hZc:=lay_code L2 s L2.fr D2;have hdl2:=hsB.data;rw[<-hZ] at hR hZb hZd hZc;refine dldS qk 2 0 I qk I qk (dldpw qk 3 1 I qk I I (dact qk 0 I ?_));unfold wMany at hfr;refine cl 0 I (layLC lb db L2 D2 (c+1) (hYb.up (Nat.le_succ c)) qo hYd hm2 hYc s qo (by rw[hYs];exact hix.1) hst hps.2 (by have:=hsB.vot;omega) aS cS aT cT xS xT L2.fr qo) ?_;rintro v30 K30 hs30 ⟨le,m3,rfl,hm3,rfl⟩;rw[<-hZ] at hm3 ⊢;obtain ⟨L3,D3,C3⟩:=Z;dsimp only at hm3 hR hZb hZd hZc;obtain ⟨wb3,hb3',eb3,aV3,cV3,aD3,cD3,aL3,cL3,wh3,hh3,eh3,gl3,dh3,rfl,hW3,hH3,hE3,hG3,hD3,xV3,xD3⟩:=id hm3
    refine au ?_;refine dcbS qk 0 (C3≠0) I (by simp) fun b31 h31=>au ?_;refine ifP h31 I (fun e7=>?_) (fun e7=>?_)
    ·rw[if_pos e7] at hR;refine sq (rg (ldp 3 0 I I I (fin 1 I (th (rt (rT (WQ.del 6 I ?_)))))));rw[hR];exact ret1 I I ⟨le,[_,_,_,_,_,_],I,hm3,by rw[<-hZc];rfl⟩
    ·have e7:=Decidable.not_not.1 e7;subst e7;rw[if_neg (by simp)] at hR;obtain ⟨V,hV⟩:∃ V,V=L3.w.compact (s.idx+1) D3:=⟨_,rfl⟩;rw[<-hV] at hR;unfold lgTop at hix;refine sk (th (sq (rga [pt b3 (snV s aS cS aT cT) 48,pt lb (lgA wb3 db hb3' eb3 L3 (.slice aV3 L3.sn.vot.length cV3) (.slice aD3 L3.sn.data.length cD3) (.slice aL3 L3.l.length cL3)) 119] 9 [0,2,4,6,8,10,12,14,17,19,20] (by simp) qk qk (dldtp [8] qk 4 1 I qk I I (dldtp [8,7] qk 1 0 I qk I I (dar qk 0 I (u64w (x:=((s.idx+1:Nat):Int)) qo) (au ?_)))))));refine cl 0 I (Ct.at2 1 4 I I (compactWH wb3 db L3.w hW3 D3 (c+1+((s.data.length+63) / 64+4)) hZd qo (hZb.w.up qo) (by have:=hZb.w.old;omega) hD3 (s.idx+1) qo)) ?_;rintro v45 K45 hs45 ⟨wh4,dh4,rfl,le4,hW4,hD4,rfl⟩;rw[<-hV] at hW4 hD4 ⊢;refine dnexL [pt b3 (snV s aS cS aT cT) 48,pt lb (lgA wb3 db hb3' eb3 L3 (.slice aV3 L3.sn.vot.length cV3) (.slice aD3 L3.sn.data.length cD3) (.slice aL3 L3.l.length cL3)) 119] (by simp) (by simp) le4 (au ?_)
     refine cl 0 I (didLC lb wb3 db hb3' eb3 L3 _ _ _ _) ?_;rintro v46 K46 hs46 ⟨_,rfl,rfl,rfl,rfl⟩;have ed:didV L3.code V.2.2=V.2.2:=by unfold didV;omega
     rw[ed];refine dnext (.inl qk) (dend qk 1 I (th (rt (WQ.del 6 I ?_))));rw[hR];exact ret1 I I ⟨le.trans le4,[_,_,_,_,_,_],I,⟨wb3,hb3',eb3,aV3,cV3,aD3,cD3,aL3,cL3,wh4,hh3,eh3,gl3,dh4,I,hW4,hH3.le le4,hE3.le le4,hG3.imp fun _ _ h=>h.le le4,hD4,xV3.le le4,xD3.le le4⟩,I⟩
 ·rw[if_pos hf] at hR;refine sq (sq (rg (cmp 1 I (fun h=>absurd h hf) (fun _=>au ?_))));refine cmp 1 I (fun _=>fin 0 I (th (ifT I (sq (rg (fin 2 I (th (rt (rT (WQ.del 6 I ?_)))))))))) (fun h=>absurd hf h);rw[hR];exact ret1 I I ⟨Le.refl _,[_,_,_,_,_,_],I,hm0,I⟩
theorem installLC{w0:World}{K:PH}{m hs:List PH}(lb db:Nat)(L:Lg)(D:Dk)(c:Nat)(hb:LBd c L)(hc:c<=499900000)(oD:DOk c D)(hm:LgM K lb db L D m)(s:Snp)(hsi:s.idx<18446744073709551616)(hst:s.term<=mxU)(hvl:s.vot.length<1099511627776)(hdl:s.data.length<1099511627776)
  (aS:Option Addr) (cS:Nat) (aT:Option Addr) (cT:Nat) (xS:IsS K aS s.vot.length cS 1 (iv s.vot)) (xT:IsS K aT s.data.length cT 1 (bv s.data)):
  Ct Tryz.prog w0 149 [.pointer (some ⟨lb,0,none⟩),.agg (snV s aS cS aT cT)] K (m++hs)
   (fun u K' hs'=>Le K K'/\∃ m',hs'=m'++hs/\LgM K' lb db (L.install s D).1 (L.install s D).2.1 m'/\u=.int .i64 (L.install s D).2.2):=by
 have hm0:=hm;obtain ⟨wb,hb',eb,aV,cV,aD,cD,aL,cL,wh,hh,eh,gl,dh,rfl,hW,hH,hE,hG,hD,xV,xD⟩:=hm;obtain ⟨R,hR⟩:∃ R,R=L.install s D:=⟨_,rfl⟩;rw[<-hR];unfold Lg.install at hR;refine enter Tryz.func149 qk I I I (sq (rg (bx 0 I fun b3=>?_)));refine WL.hs (pt b3 (snV s aS cS aT cT) 48::([_,_,_,_,_,_]++hs)) I ?_;refine WL.perm (List.perm_middle (l₁:=[_,_,_,_,_,_])).symm (fin 1 I (th (sq (rg (ldS 1 6 I I qk (cl 0 I (fitsLC (hv:=K) (hd':=K) lb db L D c hb qo hm0 s hsi aS cS aT cT xS hvl hdl) ?_))))));rintro v8 K8 hs8 ⟨rfl,rfl,rfl⟩;refine fin 1 I (th (sq (sq (rg (cmpS 1 I fun b10 h10=>fin 0 I (th (ifP h10 I (fun e2=>?_) (fun e2=>?_))))))))
 ·rw[if_pos e2] at hR;refine sq (rg (fin 2 I (th (rt (rT (WQ.del 6 I ?_))))));rw[hR];exact ret1 I I ⟨Le.refl _,[_,_,_,_,_,_],I,hm0,I⟩
 ·rw[if_neg e2] at hR;have hf:=Decidable.not_not.1 e2;have hfit:=hf;unfold Lg.fits at hfit
  have hcode:L.code=0:=by
   by_cases h:L.code=0
   ·exact h
   ·rw[if_pos h] at hfit;exact absurd hfit h
  rw[if_neg (by rw[hcode];simp)] at hfit
  have hps:(putConf s.vot).isSome=true/\s.data.length<=2097152:=by
   by_cases h:(putConf s.vot).isSome=false\/2097152<s.data.length
   ·rw[if_pos h] at hfit;cases hfit
   ·have h1:=not_or.1 h;exact ⟨by cases h2:(putConf s.vot).isSome with|true=>rfl|false=>exact absurd h2 h1.1,by omega⟩
  rw[if_neg (by rw[hps.1];simp;exact hps.2)] at hfit
  have hix:L.sn.idx<s.idx/\s.idx<lgTop:=by
   by_cases h:s.idx<=L.sn.idx\/lgTop<=s.idx
   ·rw[if_pos h] at hfit;cases hfit
   ·omega
  have hsB:SBd s:=⟨by omega,hst,putConf_len hps.1,hps.2⟩;refine sk (th (sq (sq (rg (ldS 1 6 I I qk (cl 0 I (hasLC (hv:=K8) lb db L D c hb qo hm0 s hsi aS cS aT cT) ?_))))));rintro v14 K14 hs14 ⟨rfl,rfl,rfl⟩;cases hhas:lgHas L.sn L.l s with
  | true=>
   rw[if_pos hhas] at hR;refine fin 0 I (th (ifT I (sq (rg (ldS 1 6 I I qk (cl 0 I (saveLC lb db L D c hb hc oD hm0 s hsi hst hvl hdl aS cS aT cT xS xT) ?_))))));rintro v17 K17 hs17 ⟨le,m2,rfl,hm2,rfl⟩;rw[<-hR] at hm2 ⊢;obtain ⟨wb2,hb2',eb2,aV2,cV2,aD2,cD2,aL2,cL2,wh2,hh2,eh2,gl2,dh2,rfl,_⟩:=id hm2;refine fin 1 I (th (rt (rT (WQ.del 6 I ?_))));exact ret1 I I ⟨le,[_,_,_,_,_,_],I,hm2,I⟩
  | false=>
   rw[if_neg (by rw[hhas];simp)] at hR;refine fin 0 I (th (ifF I (sk (th ?_))));unfold Lg.inst1 at hR;have hnx:=hb.w.next;obtain ⟨Z,hZ⟩:∃ Z,Z=L.lay s L.w.next D:=⟨_,rfl⟩;have hZb:=hb.lay s hsB L.w.next qo D;have hZd:=oD.layL hb qo s hsB L.w.next;have hZc:=lay_code L s L.w.next D;have hdl2:=hsB.data;rw[<-hZ] at hR hZb hZd hZc;unfold wMany at hnx;refine sq (sq (rga [pt b3 (snV s aS cS aT cT) 48,pt lb (lgA wb db hb' eb L (.slice aV L.sn.vot.length cV) (.slice aD L.sn.data.length cD) (.slice aL L.l.length cL)) 119] 7 [0,2,4,6,8,10,13,15,16] (by simp) qk qk (dldS qk 1 0 I qk I qk (dldtp [6] qk 3 1 I qk I I (dact qk 0 I (cl 0 I (Ct.keep 1 I (nextWH wb db L.w hW)) ?_))))));rintro v24 K24 hs24 ⟨rfl,rfl,rfl⟩;refine dnex [pt b3 (snV s aS cS aT cT) 48,pt lb (lgA wb db hb' eb L (.slice aV L.sn.vot.length cV) (.slice aD L.sn.data.length cD) (.slice aL L.l.length cL)) 119] (by simp) (by simp) I (dact qk 0 I (cl 0 I (layLC lb db L D c hb qo oD hm0 hcode s qo hix.1 hst hps.2 (by have:=hsB.vot;omega) aS cS aT cT xS xT L.w.next qo) ?_))
   rintro v25 K25 hs25 ⟨le,m3,rfl,hm3,rfl⟩;rw[<-hZ] at hm3 ⊢;obtain ⟨L3,D3,C3⟩:=Z;dsimp only at hm3 hR hZb hZd hZc;obtain ⟨wb3,hb3',eb3,aV3,cV3,aD3,cD3,aL3,cL3,wh3,hh3,eh3,gl3,dh3,rfl,hW3,hH3,hE3,hG3,hD3,xV3,xD3⟩:=id hm3;refine dnext (.inl qk) (dcbS qk 0 (C3≠0) I (by simp) fun b26 h26=>dend qk 0 I (th (ifP h26 I (fun e4=>?_) (fun e4=>?_))))
   ·rw[if_pos e4] at hR;refine sq (rg (ldp 3 0 I I I (fin 1 I (th (rt (rT (WQ.del 6 I ?_)))))));rw[hR];exact ret1 I I ⟨le,[_,_,_,_,_,_],I,hm3,by rw[<-hZc];rfl⟩
   ·have e4:=Decidable.not_not.1 e4;subst e4;rw[if_neg (by simp)] at hR;obtain ⟨V,hV⟩:∃ V,V=L3.w.reset (s.idx+1) D3:=⟨_,rfl⟩;rw[<-hV] at hR;unfold lgTop at hix;refine sk (th (sq (rga [pt b3 (snV s aS cS aT cT) 48,pt lb (lgA wb3 db hb3' eb3 L3 (.slice aV3 L3.sn.vot.length cV3) (.slice aD3 L3.sn.data.length cD3) (.slice aL3 L3.l.length cL3)) 119] 9 [0,2,4,6,8,10,12,14,17,19,20] (by simp) qk qk (dldtp [8] qk 4 1 I qk I I (dldtp [8,7] qk 1 0 I qk I I (dar qk 0 I (u64w (x:=((s.idx+1:Nat):Int)) qo) (dact qk 0 I (cl 0 I (Ct.at2 1 4 I I (resetWH wb3 db L3.w hW3 D3 (c+((s.data.length+63) / 64+4)) hZd qo (hZb.w.up qo) hD3 (s.idx+1) qo)) ?_))))))));rintro v39 K39 hs39 ⟨wh4,dh4,rfl,le4,hW4,hD4,rfl⟩;rw[<-hV] at hW4 hD4 ⊢;refine dnexL [pt b3 (snV s aS cS aT cT) 48,pt lb (lgA wb3 db hb3' eb3 L3 (.slice aV3 L3.sn.vot.length cV3) (.slice aD3 L3.sn.data.length cD3) (.slice aL3 L3.l.length cL3)) 119] (by simp) (by simp) le4 (dact qk 0 I (cl 0 I (didLC lb wb3 db hb3' eb3 L3 _ _ _ _) ?_))
    rintro v40 K40 hs40 ⟨_,rfl,rfl,rfl,rfl⟩;have ed:didV L3.code V.2.2=V.2.2:=by unfold didV;rw[if_pos hZc]
    rw[ed];refine dnext (.inl qk) (dend qk 1 I (th (rt (WQ.del 6 I ?_))));rw[hR];exact ret1 I I ⟨le.trans le4,[_,_,_,_,_,_],I,⟨wb3,hb3',eb3,aV3,cV3,aD3,cD3,aL3,cL3,wh4,hh3,eh3,gl3,dh4,I,hW4,hH3.le le4,hE3.le le4,hG3.imp fun _ _ h=>h.le le4,hD4,xV3.le le4,xD3.le le4⟩,I⟩
end
section
def rdHard(S:Slt):Option (Nat×Int):=
 if S.num=0 then some (0,-1)
 else if rEnd (rUint 7 (rUint mxU (S.val,0)).2).2=0 then some ((rUint mxU (S.val,0)).1,(((rUint 7 (rUint mxU (S.val,0)).2).1:Nat):Int)-1) else none
def rdDat(D:Dk)(place size:Nat):Nat->Nat->List UInt8->Option (List UInt8)
 | 0,_,acc=>some acc
 | f+1,n,acc=>if acc.length<size then (match D.read (lgA4 place) n with
   | none=>none
   | some b=>rdDat D place size f (n+1) (acc++b)) else some acc
def hd1(b:List UInt8):Nat×Rd:=rUint lgTop (b,0)
def hd2(b:List UInt8):Nat×Rd:=rUint mxU (hd1 b).2
def hd3(b:List UInt8):Nat×Rd:=rUint lgTop (hd2 b).2
def hd4(b:List UInt8):Nat×Rd:=rUint 2097152 (hd3 b).2
def hd5(b:List UInt8):Nat×Rd:=rUint lgTop (hd4 b).2
def hd6(b:List UInt8):Nat×Rd:=rByte (hd5 b).2
def rdHead(D:Dk)(S:Slt)(vot0:List Int):Option (Snp×Nat×Nat):=
 if S.num=0 then some (⟨0,0,vot0,[]⟩,0,0)
 else if rEnd (hd6 S.val).2≠0\/(getConf [UInt8.ofNat (hd6 S.val).1]).isSome=false then none
 else match rdDat D (hd3 S.val).1 (hd4 S.val).1 32769 0 [] with
  | none=>none
  | some d=>some (⟨(hd1 S.val).1,(hd2 S.val).1,(getConf [UInt8.ofNat (hd6 S.val).1]).getD [],d.take (hd4 S.val).1⟩,(hd3 S.val).1,(hd5 S.val).1)
def rdE:Nat->List (List UInt8)->Option (List Ent)
 | _,[]=>some []
 | i,b::r=>match getEnt b with
  | none=>none
  | some e=>if e.idx=i then (rdE (i+1) r).map (e :: ·) else none
def rdEnts(s:Snp)(W:Wl):Option (List Ent):=
 if s.idx+1<W.first\/W.first+W.recs.length<s.idx+1 then none else rdE (s.idx+1) (W.recs.drop (s.idx+1-W.first))
def lgFree(pl:Nat):List Int->Dk->Dk×Int
 | [],D=>(D,0)
 | a::r,D=>if a % 4=2/\a≠((lgA4 pl:Nat):Int) then (if (D.free a).2≠0 then D.free a else lgFree pl r (D.free a).1) else lgFree pl r D
def lOpen3(D:Dk)(kh:Nat×Int)(h:Snp×Nat×Nat)(F:Dk):Option Lg×Dk×Int:=
 match (wOpen F h.2.2 (h.1.idx+1)).1 with
 | none=>(none,(wOpen F h.2.2 (h.1.idx+1)).2.1,if (wOpen F h.2.2 (h.1.idx+1)).2.2=52 then 181 else (wOpen F h.2.2 (h.1.idx+1)).2.2)
 | some w=>match rdEnts h.1 w with
  | none=>(none,(wOpen F h.2.2 (h.1.idx+1)).2.1,181)
  | some l=>(some ⟨w,sltOpen D 0,sltOpen D 4,kh.1,kh.2,h.1,h.2.1,h.2.2,l,0⟩,(wOpen F h.2.2 (h.1.idx+1)).2.1,0)
def lOpen2(D:Dk)(kh:Nat×Int)(h:Snp×Nat×Nat):Option Lg×Dk×Int:=
 if (lgFree h.2.1 (areasL D) D).2≠0 then (none,lgFree h.2.1 (areasL D) D) else lOpen3 D kh h (lgFree h.2.1 (areasL D) D).1
def lOpen(D:Dk)(first:List Int):Option Lg×Dk×Int:=
 if (putConf first).isSome=false then (none,D,181)
 else if D.dead=true then (none,D,30)
 else match rdHard (sltOpen D 0) with
  | none=>(none,D,181)
  | some kh=>match rdHead D (sltOpen D 4) first with
   | none=>(none,D,181)
   | some h=>lOpen2 D kh h
def lgB(wp:Option Nat)(db:Nat)(hp ep:Option Nat)(kt:Nat)(kv:Int)(si st:Nat)(vS dS:Value)(pl fr:Nat)(lS:Value)(cd:Int):Array Value:=
 #[.pointer (wp.map fun b=>⟨b,0,none⟩),.pointer (some ⟨db,0,none⟩),.pointer (hp.map fun b=>⟨b,0,none⟩),.pointer (ep.map fun b=>⟨b,0,none⟩),.int .u64 (kt:Nat),.int .i64 kv,
  .int .u64 (si:Nat),.int .u64 (st:Nat),vS,dS,.int .u64 (pl:Nat),.int .u64 (fr:Nat),lS,.int .i64 cd]
attribute [local irreducible] Code.wp wpList Calls
theorem readHardC{w0:World}{K hh:PH}{hs:List PH}(lb db hb:Nat)(wp ep:Option Nat)(si st:Nat)(vS dS:Value)(pl fr:Nat)(lS:Value)(cd:Int)(S:Slt)(hS:SltH K hb db 0 S hh)(hbd:S.bd):
  Ct Tryz.prog w0 54 [.pointer (some ⟨lb,0,none⟩)] K (pt lb (lgB wp db (some hb) ep 0 (-1) si st vS dS pl fr lS cd) 119::hh::hs)
   (fun v K' hs'=>Le K K'/\∃ kt kv,hs'=pt lb (lgB wp db (some hb) ep kt kv si st vS dS pl fr lS cd) 119::hh::hs/\v=.bool (rdHard S).isSome/\∀ p,rdHard S=some p->p=(kt,kv)):=by
 unfold rdHard;obtain ⟨hn,hv⟩:=hbd;refine entA Tryz.func54 ?_;refine cl 0 I (Ct.keep 1 I (numberSC hb db 0 S hS)) ?_;rintro v8 K8 hs8 ⟨rfl,rfl,rfl⟩;refine cmp 0 I (fun e2=>?_) (fun e2=>?_)
 ·refine au ?_;rw[if_pos qo];refine au ?_;exact ret1 I I ⟨Le.refl _,0,-1,I,I,fun p hp=>(Option.some.inj hp).symm⟩
 ·refine au ?_;rw[if_neg qo];refine au ?_;refine cl 0 I (Ct.at 1 I (valueSC hb db 0 S hS ⟨hn,hv⟩)) ?_;rintro v14 K14 hs14 ⟨hh,rfl,rfl,le,ao,k,rfl,x⟩;refine cl 0 I (readC ao k S.val (.inl I) x qo) ?_;rintro v15 K15 hs15 ⟨rfl,rb,rd,rh,rfl,rfl,ir⟩;obtain ⟨r1,hr1⟩:∃ r,r=rUint mxU (S.val,0):=⟨_,rfl⟩;have hl1:=rUint_len mxU (S.val,0);have hb1:=rUint_le mxU (S.val,0);rw[<-hr1] at hl1 hb1 ⊢;obtain ⟨r2,hr2⟩:∃ r,r=rUint 7 r1.2:=⟨_,rfl⟩;have hb2:=rUint_le 7 r1.2;rw[<-hr2] at hb2 ⊢;refine au ?_;refine cl 2 I (uintC (.inr ⟨0,I⟩) mxU (S.val,0) (by dsimp only;omega) ir) ?_;rintro v18 K18 hs18 ⟨rd2,rfl,rfl,rfl,ir2⟩;rw[<-hr1] at ir2 ⊢;refine au ?_;refine cl 2 I (uintC (.inr ⟨0,I⟩) 7 r1.2 (by dsimp only at hl1;omega) ir2) ?_;rintro v24 K24 hs24 ⟨rd3,rfl,rfl,rfl,ir3⟩;rw[<-hr2] at ir3 ⊢;refine ar 0 I (i64w qo) (ar 0 I (i64w qo) (au ?_));refine cl 1 I (endC r2.2 ir3) ?_;rintro v31 K31 hs31 ⟨rfl,rfl,rfl⟩
  refine cmpS 0 I fun b32 h32=>fin 1 I<|th (rt<|WQ.drop (WQ.drop ?_))
  by_cases e:rEnd r2.2=0
  ·rw[if_pos e];obtain rfl:b32=true:=h32.2 e;exact ret1 I I ⟨le,r1.1,_,I,I,fun p hp=>(Option.some.inj hp).symm⟩
  ·rw[if_neg e];obtain rfl:b32=false:=by simp_all
   exact ret1 I I ⟨le,_,_,I,I,fun p hp=>by cases hp⟩
end
section
theorem rdDat_step(D:Dk)(place size f n:Nat)(acc:List UInt8):rdDat D place size (f+1) n acc=if acc.length<size then (match D.read (lgA4 place) n with
   | none=>none
   | some b=>rdDat D place size f (n+1) (acc++b)) else some acc:=rfl
attribute [local irreducible] Code.wp wpList Calls
theorem readHeadC{w0:World}{K eh dh:PH}{hs:List PH}(lb db eb:Nat)(wp hp:Option Nat)(kt:Nat)(kv:Int)(vot0:List Int)(a0:Option Addr)(c0:Nat)(x0:IsS K a0 vot0.length c0 1 (iv vot0))(lS:Value)(cd:Int)(S:Slt)(hS:SltH K eb db 4 S eh)(hbd:S.bd)(D:Dk)(c:Nat)(oD:D.Ok c)(hc:c<=1000000000)(hd:DskH K db D dh):
  Ct Tryz.prog w0 55 [.pointer (some ⟨lb,0,none⟩)] K (pt lb (lgB wp db hp (some eb) kt kv 0 0 (.slice a0 vot0.length c0) (.slice none 0 0) 0 0 lS cd) 119::eh::dh::hs)
   (fun v K' hs'=>Le K K'/\∃ sn pl fr aV cV aD cD,hs'=pt lb (lgB wp db hp (some eb) kt kv (Snp.idx sn) sn.term (.slice aV sn.vot.length cV) (.slice aD sn.data.length cD) pl fr lS cd) 119::eh::dh::hs/\v=.bool (rdHead D S vot0).isSome /\
    IsS K' aV sn.vot.length cV 1 (iv sn.vot)/\IsS K' aD sn.data.length cD 1 (bv sn.data)/\∀ p,rdHead D S vot0=some p->p=(sn,pl,fr)):=by
 unfold rdHead;obtain ⟨hn,hv⟩:=hbd;refine entA Tryz.func55 ?_;refine cl 0 I (Ct.keep 1 I (numberSC eb db 4 S hS)) ?_;rintro v15 K15 hs15 ⟨rfl,rfl,rfl⟩;refine cmp 0 I (fun e2=>?_) (fun e2=>?_)
 ·refine au ?_;rw[if_pos qo];refine au ?_;exact ret1 I I ⟨Le.refl _,⟨0,0,vot0,[]⟩,0,0,a0,c0,none,0,I,I,x0,IsS.nil _ _ _ _,fun p hp=>(Option.some.inj hp).symm⟩
 ·refine au ?_;rw[if_neg qo];obtain ⟨a1,h1⟩:∃ r,r=hd1 S.val:=⟨_,rfl⟩;obtain ⟨a2,h2⟩:∃ r,r=hd2 S.val:=⟨_,rfl⟩;obtain ⟨a3,h3⟩:∃ r,r=hd3 S.val:=⟨_,rfl⟩;obtain ⟨a4,h4⟩:∃ r,r=hd4 S.val:=⟨_,rfl⟩;obtain ⟨a5,h5⟩:∃ r,r=hd5 S.val:=⟨_,rfl⟩;obtain ⟨a6,h6⟩:∃ r,r=hd6 S.val:=⟨_,rfl⟩;have g1:rUint lgTop (S.val,0)=a1:=h1.symm;have g2:rUint mxU a1.2=a2:=by rw[h2,h1];rfl
  have g3:rUint lgTop a2.2=a3:=by rw[h3,h2];rfl
  have g4:rUint 2097152 a3.2=a4:=by rw[h4,h3];rfl
  have g5:rUint lgTop a4.2=a5:=by rw[h5,h4];rfl
  have g6:rByte a5.2=a6:=by rw[h6,h5];rfl
  rw[<-h1,<-h2,<-h3,<-h4,<-h5,<-h6];have l1:a1.2.1.length<=48:=by grind [rUint_len]
  have l2:a2.2.1.length<=48:=by grind [rUint_len]
  have l3:a3.2.1.length<=48:=by grind [rUint_len]
  have l4:a4.2.1.length<=48:=by grind [rUint_len]
  have l5:a5.2.1.length<=48:=by grind [rUint_len]
  have m1:a1.1<=lgTop:=by rw[<-g1];exact rUint_le _ _
  have m3:a3.1<=lgTop:=by rw[<-g3];exact rUint_le _ _
  have m4:a4.1<=2097152:=by rw[<-g4];exact rUint_le _ _
  have m5:a5.1<=lgTop:=by rw[<-g5];exact rUint_le _ _
  clear h1 h2 h3 h4 h5 h6;refine au ?_;refine cl 0 I (Ct.at 1 I (valueSC eb db 4 S hS ⟨hn,hv⟩)) ?_;rintro v21 K21 hs21 ⟨eh,rfl,rfl,le,ao,k,rfl,x⟩;refine cl 0 I (readC ao k S.val (.inl I) x qo) ?_;rintro v22 K22 hs22 ⟨rfl,rb,rd,rh,rfl,rfl,ir⟩;refine au ?_;refine cl 1 I (uintC (.inr ⟨0,I⟩) lgTop (S.val,0) (by dsimp only;omega) ir) ?_;rintro v24 K24 hs24 ⟨rd1,rfl,rfl,rfl,ir⟩;rw[g1] at ir ⊢;refine cl 1 I (uintC (.inr ⟨0,I⟩) mxU a1.2 qo ir) ?_;rintro v26 K26 hs26 ⟨rd2,rfl,rfl,rfl,ir⟩;rw[g2] at ir ⊢;refine bd 0 (.agg #[.int .u64 a1.1,.int .u64 a2.1,.slice none 0 0,.slice none 0 0]) I (fun w=>by kernel_rfl) (al 0 (.agg #[.int .u64 0,.int .u64 0,.slice none 0 0,.slice none 0 0]) I qk fun b4=>?_);refine stS 0 0 I I qk I I ?_;refine fin 0 I (th (sq (rg (cl 2 I (Ct.at 1 I (uintC (.inr ⟨1,I⟩) lgTop a2.2 qo ir)) ?_))));rintro v30 K30 hs30 ⟨rd3,rfl,rfl,rfl,ir⟩
  rw[g3] at ir ⊢;refine au ?_;refine cl 1 I (Ct.at 1 I (uintC (.inr ⟨1,I⟩) 2097152 a3.2 qo ir)) ?_;rintro v34 K34 hs34 ⟨rd4,rfl,rfl,rfl,ir⟩;rw[g4] at ir ⊢;refine ar 0 I (i64w (x:=((a4.1:Nat):Int)) qo) (au ?_);refine cl 2 I (Ct.at 1 I (uintC (.inr ⟨1,I⟩) lgTop a4.2 qo ir)) ?_;rintro v38 K38 hs38 ⟨rd5,rfl,rfl,rfl,ir⟩;rw[g5] at ir ⊢;refine stp 2 3 I I I I (WL.hs (pt b4 #[.int .u64 a1.1,.int .u64 a2.1,.slice none 0 0,.slice none 0 0] 48::rd5::rh::pt lb (lgB wp db hp (some eb) kt kv 0 0 (.slice a0 vot0.length c0) (.slice none 0 0) a3.1 a5.1 lS cd) 119::eh::dh::hs) I (au ?_));refine cl 1 I (Ct.at 1 I (byteC (.inr ⟨1,I⟩) a5.2 ir)) ?_;rintro v43 K43 hs43 ⟨rd6,rfl,rfl,rfl,ir⟩;rw[g6] at ir ⊢;have hb6:a6.1<256:=by rw[<-g6];exact rByte_lt _
  refine lit 0 #[.int .u8 a6.1] I (by decide) qk fun b44=>?_;have o44:=own_byte b44 a6.1 hb6;refine cl 0 I (getConfC (some ⟨b44,0,none⟩) 1 [UInt8.ofNat a6.1] (.inr ⟨0,I⟩) o44.isS (by simp)) ?_;rintro v45 K45 hs45 ⟨rfl,h45,ao45,c45,rfl,rfl,o45⟩;obtain ⟨C,hC⟩:∃ C,C=getConf [UInt8.ofNat a6.1]:=⟨_,rfl⟩;rw[<-hC] at o45 ⊢;refine al 3 (.agg #[.slice none 0 0]) I qk fun b6=>?_;refine stS 0 0 I I qk I I ?_;refine WL.hs (pt b6 #[.slice ao45 (C.getD []).length c45] 46::h45::pt b44 #[.int .u8 a6.1] 5::pt b4 #[.int .u64 a1.1,.int .u64 a2.1,.slice none 0 0,.slice none 0 0] 48::rd6::rh::pt lb (lgB wp db hp (some eb) kt kv 0 0 (.slice a0 vot0.length c0) (.slice none 0 0) a3.1 a5.1 lS cd) 119::eh::dh::hs) I (au ?_);refine cl 1 I (Ct.keep 4 I (endC a6.2 ir)) ?_;rintro v49 K49 hs49 ⟨rfl,rfl,rfl⟩;refine cmpS 0 I fun b50 h50=>?_
  refine' bjo (q:=C.isSome=false) 1 3 54 [50,51] h50 I I I I I I I (fun _=>?x4) (fun b54 h54=>?_)
  case x4=>
   exact cmpS 1 I fun b53 h53=>fin 1 I (bjx (h53.trans (by cases C <;> simp[ec])) rfl rfl rfl)
  refine fin 0 I<|th (ifP h54 I (fun e6=>?_) (fun e6=>?_))
  ·rw[if_pos e6];exact sq (rg (fin 1 I (th (rt (rT (WQ.drop (WQ.drop (WQ.drop (WQ.drop (WQ.drop (WQ.drop (ret1 I I ⟨le,⟨0,0,vot0,[]⟩,a3.1,a5.1,a0,c0,none,0,I,I,x0.le le,IsS.nil _ _ _ _,fun p hp=>by cases hp⟩))))))))))))
  ·rw[if_neg e6]
   obtain ⟨cf,rfl⟩:∃ cf,C=some cf:=by
    cases C with
    | none=>exact absurd (.inr rfl) e6
    | some cf=>simp
   have o45:Own h45 ao45 cf.length c45 3 1 (iv cf):=o45;refine sk (th (sq (rg (ldS 0 0 I I qk (sts 1 3 I I qk (by simp) (fun v hv=>by simp at hv;subst hv;rfl) (WL.drop (WL.frz fun K1 l1 l2=>WL.drop (WL.del 1 rfl (WL.del 1 rfl ?_)))))))));have x45:=o45.isS.le l2;have le1:=le.trans l1;refine WL.hs (pt b4 #[.int .u64 a1.1,.int .u64 a2.1,.slice ao45 cf.length c45,.slice none 0 0] 48::pt lb (lgB wp db hp (some eb) kt kv 0 0 (.slice a0 vot0.length c0) (.slice none 0 0) a3.1 a5.1 lS cd) 119::eh::dh::hs) I (fin 0 I (th (sq (sq (rg ?_)))));obtain ⟨R,hR⟩:∃ R,R=rdDat D a3.1 a4.1 32769 0 []:=⟨_,rfl⟩;rw[<-hR];refine fin 1 I (th (bk (WC.em ?_)))
   refine loop (σ:=(Nat×List UInt8)×(Option Addr×Nat×PH)×PH) (fun s=>[(0,.pointer (some ⟨lb,0,none⟩)),(4,.pointer (some ⟨b4,0,none⟩)),(5,.int .i64 a4.1),(8,.int .i64 s.1.1)]) (fun s=>s.2.2)
    (fun s=>s.2.1.2.2::pt b4 #[.int .u64 a1.1,.int .u64 a2.1,.slice ao45 cf.length c45,.slice s.2.1.1 s.1.2.length s.2.1.2.1] 48::pt lb (lgB wp db hp (some eb) kt kv 0 0 (.slice a0 vot0.length c0) (.slice none 0 0) a3.1 a5.1 lS cd) 119::eh::dh::hs)
    (fun s=>s.1.2.length=64*s.1.1/\s.1.1<=32768/\rdDat D a3.1 a4.1 (32769-s.1.1) s.1.1 s.1.2=R/\Le K1 s.2.2/\Own s.2.1.2.2 s.2.1.1 s.1.2.length s.2.1.2.1 5 1 (bv s.1.2)) (fun s=>32769-s.1.1)
    ((0,[]),(none,0,em),K1) ⟨rfl,Nat.zero_le _,hR.symm,Le.refl _,Own.nil _ _⟩ ⟨rfl,rfl,rfl,rfl,trivial⟩ rfl rfl ?_
   rintro ⟨⟨n,acc⟩,⟨ag,cg,g⟩,K2⟩ ⟨hal,hn2,hw,le2,og⟩;dsimp only at *;have le12:=le1.trans le2;rw[show 32769-n=(32768-n)+1 from by omega,rdDat_step] at hw;unfold lgTop at m3 m5 m1;refine au ?_;refine cmp 2 I (fun e8=>?_) (fun e8=>?_)
   ·refine au ?_;rw[if_pos qo] at hw;have hn3:n<32768:=by omega
    refine au ?_;refine rga [pt lb (lgB wp db hp (some eb) kt kv 0 0 (.slice a0 vot0.length c0) (.slice none 0 0) a3.1 a5.1 lS cd) 119] 16 [0,2,4,6,8,10,12,14,18,17,21,22,24,26,28,30] (by simp) qk qk (au ?_);refine cl 0 I (areaLC a3.1 qo) ?_;rintro v73 K73 hs73 ⟨rfl,rfl,rfl⟩;refine dnx (by simp) I (dact qk 0 I (cl 0 I (Ct.at 4 I (readH db D c oD qo (hd.le le12) (lgA4 a3.1) n)) ?_));rintro v75 K75 hs75 ⟨dh,rfl,rfl,le3,hrd⟩;refine dnxL (by simp) le3 ?_;rcases hrd with ⟨hnone,rfl⟩|⟨bs,ab,kb,hsome,hbl,rfl,xb⟩
    ·rw[hnone] at hw;refine dend qk 5 I (th (sq (sq (rg (fin 2 I (th (ifT I (sq (rg (fin 1 I (th (rt (rT (rB (rT (rT (rB (rT (WQ.drop (WQ.drop ?_))))))))))))))))))));rw[<-hw];exact ret1 I I ⟨le12.trans le3,⟨0,0,vot0,[]⟩,a3.1,a5.1,a0,c0,none,0,I,I,x0.le (le12.trans le3),IsS.nil _ _ _ _,fun p hp=>by cases hp⟩
    ·rw[hsome] at hw;dsimp only at hw;refine au ?_;refine app 1 0 I I og (.inl I) xb I (by decide) (bv_one _) (by grind) (by simp only[maxLen];omega) fun ao83 c83 g83 o83=>?_;have o83':Own g83 ao83 (acc++bs).length c83 5 1 (bv (acc++bs)):=own_of o83 (by simp) (by rw[bv_append]);refine au ?_;refine ar 1 I (i64w (x:=((n+1:Nat):Int)) qo) (fin 1 I (again (x:=((n,acc),(ag,cg,g),em)) ((n+1,acc++bs),(ao83,c83,g83),K75) ⟨I,I,I,I,trivial⟩ I (by simp) ⟨by dsimp only;rw[List.length_append];omega,by dsimp only;omega,?_,le2.trans le3,o83'⟩ (by dsimp only;omega)))
     simp_all
   ·refine au ?_;rw[if_neg qo] at hw;rw[<-hw];dsimp only;have hcg:=og.isS.2.1;refine au ?_
    refine sl 1 0 a4.1 I og.isS I (by simp) qo (ys:=bv (acc.take a4.1)) (by
     simp[bv]) fun ao88 c88 x88=>?_
    refine stp 1 1 I I I I (WL.frz fun K3 l3 l4=>?_);have x88':=x88.le l4;have hln:(acc.take a4.1).length=a4.1:=by rw[List.length_take];omega
    refine WL.hs (pt b4 #[.int .u64 a1.1,.int .u64 a2.1,.slice ao45 cf.length c45,.slice ao88 a4.1 c88] 48::pt lb (lgB wp db hp (some eb) kt kv 0 0 (.slice a0 vot0.length c0) (.slice none 0 0) a3.1 a5.1 lS cd) 119::eh::dh::hs) I (fin 0 I (th (sq (rg (ldS 1 0 I I qk (sts 2 1 I I qk (by simp[lgB]) (fun v hv=>by simp at hv;rcases hv with rfl|rfl|rfl|rfl <;> rfl) (fin 0 rfl (th (sq (rg (WL.drop (au ?_))))))))))));exact ret1 I I ⟨le12.trans l3,⟨a1.1,a2.1,cf,acc.take a4.1⟩,a3.1,a5.1,ao45,c45,ao88,c88,by dsimp only;rw[hln];rfl,rfl,x45.le (le2.trans l3),by dsimp only;rw[hln];exact x88',fun p hp=>(Option.some.inj hp).symm⟩
end
section
theorem WL.fr{P:Program}{w0:World}{ops:Array Oper}{Q:Exit->Act->World->Prop}{rest:List Oper}{n:Nat}{l:Sl}{K:PH}{hs:List PH}(i:Nat){h:PH}(hi:hs[i]?=some h)(hk:WL P w0 ops Q rest n l K (h::hs.eraseIdx i)):WL P w0 ops Q rest n l K hs:=fun a w ha hw=>hk a w ha (hw.perm (perm_front hs i h hi))
theorem WC.fr{P:Program}{w0:World}{Q:Exit->Act->World->Prop}{n:Nat}{l:Sl}{K:PH}{hs:List PH}{c:Code}(i:Nat){h:PH}(hi:hs[i]?=some h)(hk:WC P w0 c Q n l K (h::hs.eraseIdx i)):WC P w0 c Q n l K hs:=fun a w ha hw=>hk a w ha (hw.perm (perm_front hs i h hi))
theorem WQ.fr{w0:World}{Q:Exit->Act->World->Prop}{e:Exit}{n:Nat}{l:Sl}{K:PH}{hs:List PH}(i:Nat){h:PH}(hi:hs[i]?=some h)(hk:WQ w0 Q e n l K (h::hs.eraseIdx i)):WQ w0 Q e n l K hs:=fun a w ha hw=>hk a w ha (hw.perm (perm_front hs i h hi))
theorem rdE_cons(i:Nat)(b:List UInt8)(r:List (List UInt8)):rdE i (b::r)=match getEnt b with
  | none=>none
  | some e=>if e.idx=i then (rdE (i+1) r).map (e :: ·) else none:=rfl
attribute [local irreducible] Code.wp wpList Calls
theorem readEntriesC{w0:World}{K wh:PH}{hs:List PH}(lb db wb:Nat)(hp ep:Option Nat)(kt:Nat)(kv:Int)(s:Snp)(hsi:s.idx<=lgTop)(vS dS:Value)(pl fr:Nat)(cd:Int)(W:Wl)(hW:WalH K wb db W wh)(c:Nat)(hb:WBd c W)(hc:c<=1000000000):
  Ct Tryz.prog w0 60 [.pointer (some ⟨lb,0,none⟩)] K (pt lb (lgB (some wb) db hp ep kt kv s.idx s.term vS dS pl fr (.slice none 0 0) cd) 119::wh::hs)
   (fun v K' hs'=>Le K K'/\∃ gl aL cL l,hs'=gl::pt lb (lgB (some wb) db hp ep kt kv s.idx s.term vS dS pl fr (.slice aL (List.length l) cL) cd) 119::wh::hs/\v=.bool (rdEnts s W).isSome /\
    SlZ 4 51 (EntC K') gl aL l.length cL l/\∀ x,rdEnts s W=some x->x=l):=by
 obtain ⟨R,hR⟩:∃ R,R=rdEnts s W:=⟨_,rfl⟩;rw[<-hR];unfold rdEnts at hR;have hlast:=hb.last;have hrecs:=hb.recs;unfold wTop at hlast;unfold lgTop at hsi;obtain ⟨total,htot⟩:∃ t,t=W.first+W.recs.length:=⟨_,rfl⟩
 have hlv:lastV total=if total=0 then 18446744073709551615 else ((total:Nat):Int)-1:=rfl;refine entA Tryz.func60 ?_;refine rga [pt lb (lgB (some wb) db hp ep kt kv s.idx s.term vS dS pl fr (.slice none 0 0) cd) 119] 19 [0,4,6,8,10,12,14,3,16,18,20,24,26,28,30,32,23,34,36] (by simp) qk qk (au ?_);refine dar qk 0 I (u64w (x:=((s.idx+1:Nat):Int)) qo) (au ?_);refine cl 0 I (Ct.keep 1 I (firstWH wb db W hW)) ?_;rintro v14 K14 hs14 ⟨rfl,rfl,rfl⟩;refine dnx (by simp) I (dcmp qk 0 (s.idx+1<W.first) I (by simp;omega) (fun h1=>?_) (fun h1=>?_))
 ·rw[if_pos (.inl h1)] at hR;refine dact qk 7 I (WL.pures 1 I (dnx (by simp) I (dend qk 2 I (th (ifT I (sq (rg (fin 1 I (th (rt (rT (WQ.em ?_))))))))))));rw[hR];exact ret1 I I ⟨Le.refl _,em,none,0,[],I,I,SlZ.nil _ _,fun x hx=>by cases hx⟩
 ·refine au ?_;refine cl 0 I (Ct.keep 1 I (lastWH wb db W hW hb.last)) ?_;rintro v24 K24 hs24 ⟨rfl,rfl,rfl⟩;rw[<-htot] at hR ⊢;refine dnx (by simp) I (dcbS qk 0 (lastV total<((s.idx:Nat):Int)) I (by simp) fun b30 h30=>au ?_);refine ifP h30 I (fun e2=>?_) (fun e2=>?_)
  ·rw[if_pos qo] at hR;refine sq (rg (fin 1 I (th (rt (rT (WQ.em ?_))))));rw[hR];exact ret1 I I ⟨Le.refl _,em,none,0,[],I,I,SlZ.nil _ _,fun x hx=>by cases hx⟩
  ·refine au ?_;refine ar 0 I (u64w (x:=((s.idx+1+0:Nat):Int)) qo) (fin 1 I (th (bk (WC.em ?_))))
   have h0:(total=0/\R=none/\0=0)\/(s.idx+1+0<=total/\R=(rdE (s.idx+1+0) (W.recs.drop (s.idx+1-W.first+0))).map (([]:List Ent) ++ ·)):=by
    rw[hlv] at e2
    by_cases h:total=0
    ·grind
    ·rw[if_neg h] at e2;rw[if_neg qo] at hR;refine .inr ⟨by omega,?_⟩
     simp_all
   refine loop (σ:=(Nat×List Ent)×(Option Addr×Nat×PH)×PH) (fun x=>[(0,.pointer (some ⟨lb,0,none⟩)),(3,.pointer (some ⟨wb,0,none⟩)),(4,.int .u64 (s.idx+1+x.1.1:Nat))]) (fun x=>x.2.2)
    (fun x=>x.2.1.2.2::pt lb (lgB (some wb) db hp ep kt kv s.idx s.term vS dS pl fr (.slice x.2.1.1 x.1.2.length x.2.1.2.1) cd) 119::wh::hs)
    (fun x=>((total=0/\R=none/\x.1.1=0)\/(s.idx+1+x.1.1<=total/\R=(rdE (s.idx+1+x.1.1) (W.recs.drop (s.idx+1-W.first+x.1.1))).map (x.1.2 ++ ·)))/\x.1.2.length=x.1.1/\Le K24 x.2.2/\SlZ 4 51 (EntC x.2.2) x.2.1.2.2 x.2.1.1 x.1.2.length x.2.1.2.1 x.1.2) (fun x=>W.recs.length+1-x.1.1)
    ((0,[]),(none,0,em),K24) ⟨h0,rfl,Le.refl _,SlZ.nil _ _⟩ ⟨rfl,rfl,rfl,trivial⟩ rfl rfl ?_
   clear h0 hR;rintro ⟨⟨j,l⟩,⟨aL,cL,gl⟩,K1⟩ ⟨hj,hl,le1,oL⟩;dsimp only at *;refine sq (sq (rg (cl 2 I (Ct.keep 2 I (lastWH wb db W (hW.le le1) hb.last)) ?_)));rintro v40 K40 hs40 ⟨rfl,rfl,rfl⟩;rw[<-htot];refine cmp 0 I (fun e4=>?_) (fun e4=>?_)
   ·refine au ?_;obtain ⟨i,hi⟩:∃ i,i=s.idx+1+j:=⟨_,rfl⟩;have hiB:i<18446744073709551616:=by omega
    refine au ?_;refine cl 2 I (Ct.at 2 I (getWH wb db W c hc hb (hW.le le1) (s.idx+1+j) qo)) ?_;rintro v47 K47 hs47 ⟨wh,rfl,rfl,le2,hv⟩;have le12:=le1.trans le2
    obtain ⟨r0,ar0,kr,t0,rfl,xr,hcase⟩:∃ r0 ar0 kr t0,v47=.tuple #[.slice ar0 (List.length r0) kr,.bool t0]/\IsS K47 ar0 r0.length kr 1 (bv r0)/\((r0=[]/\¬(W.first<=s.idx+1+j/\s.idx+1+j-W.first<W.recs.length))\/(W.first<=s.idx+1+j/\W.recs[s.idx+1+j-W.first]?=some r0)):=by
     rcases hv with ⟨hno,rfl⟩|⟨r,ao,k,h1',h2',rfl,x⟩
     ·exact ⟨[],none,0,false,I,IsS.nil _ _ _ _,.inl ⟨I,hno⟩⟩
     grind
    have hr0l:r0.length<=512:=by
     rcases hcase with ⟨h,_⟩|⟨_,h⟩
     ·rw[h];simp
     ·exact hb.recl r0<|List.mem_of_getElem? h
    have hstep:R=match getEnt r0 with
      | none=>none
      | some e=>if e.idx=i then (rdE (i+1) (W.recs.drop (s.idx+1-W.first+(j+1)))).map ((l++[e]) ++ ·) else none:=by
     rcases hj with ⟨ht,hRn,_⟩|⟨ht,hRs⟩
     ·rcases hcase with ⟨h,_⟩|⟨_,h⟩
      ·rw[h,hRn];rfl
      grind
     ·rcases hcase with ⟨_,h⟩|⟨hf,h⟩
      ·omega
      ·have hk:s.idx+1+j-W.first=s.idx+1-W.first+j:=by omega
       rw[hk] at h;have hkl:=(List.getElem?_eq_some_iff.1 h).1;rw[List.drop_eq_getElem_cons hkl,show W.recs[s.idx+1-W.first+j]=r0 from by simp_all,rdE_cons,<-hi] at hRs;rw[hRs];cases getEnt r0 with
       | none=>rfl
       | some e=>
        dsimp only
        by_cases he:e.idx=i
        ·rw[if_pos he,if_pos he];cases rdE (i+1) (W.recs.drop (s.idx+1-W.first+j+1)) with
         | none=>rfl
         | some t=>simp
        ·rw[if_neg he,if_neg he];rfl
    refine au ?_;refine cl 1 I (getEntC ar0 kr r0 (.inl I) xr qo) ?_;rintro v52 K52 hs52 ⟨rfl,h52,ao52,c52,rfl,rfl,o52⟩;obtain ⟨oe,hoe⟩:∃ oe,oe=getEnt r0:=⟨_,rfl⟩;rw[<-hoe] at o52 hstep ⊢;refine al 3 (.agg #[.int .u64 0,.int .u64 0,.int .i64 0,.slice none 0 0]) I qk fun b7=>?_;refine stS 0 0 I I qk I I ?_;refine WL.hs (pt b7 ((oe.getD Ent.zero).v ao52 c52) 51::h52::gl::pt lb (lgB (some wb) db hp ep kt kv s.idx s.term vS dS pl fr (.slice aL l.length cL) cd) 119::wh::hs) I (au ?_);refine cmpS 1 I fun b56 h56=>?_
    refine' bjo (q:=(oe.getD Ent.zero).idx≠i) 1 5 62 [56,57] h56 I I I I I I I (fun _=>?x6) (fun b62 h62=>?_)
    case x6=>
     refine au ?_;exact cmpS 1 I fun b61 h61=>fin 1 I (bjx (h61.trans qo) I I I)
    refine fin 0 I<|th (ifP h62 I (fun e8=>?_) (fun e8=>?_))
    ·have hRn:R=none:=by
      grind [ec]
     refine sq (rg (WL.drop (WL.drop (au ?_))));rw[hRn];exact ret1 I I ⟨le12,gl,aL,cL,l,I,I,oL.imp fun _ _ h=>h.le le2,fun x hx=>by cases hx⟩
    ·obtain ⟨e,rfl⟩:∃ e,oe=some e:=by
      cases oe with
      | none=>exact absurd (.inl (by simp[ec])) e8
      | some e=>simp
     have hei:e.idx=i:=by
      grind
     dsimp only at hstep;rw[if_pos hei] at hstep;have o52:Own h52 ao52 e.data.length c52 5 1 (bv e.data):=o52
     have hjr:j<=W.recs.length:=by
      omega
     have hnt:total≠0:=fun ht=>by
      rcases hcase with ⟨h9,_⟩|⟨_,h9⟩
      ·rw[h9] at hoe;cases hoe
      grind
     have hit:i<total:=by omega
     refine sk (th (WC.fr 1 I (WC.frz fun K2 l1 l2=>?_)));have le23:=le2.trans l1;have x52:=o52.isS.le l2;refine WC.perm (hs':=pt b7 (e.v ao52 c52) 51::gl::pt lb (lgB (some wb) db hp ep kt kv s.idx s.term vS dS pl fr (.slice aL l.length cL) cd) 119::wh::hs) (List.Perm.refl _) (rga [pt lb (lgB (some wb) db hp ep kt kv s.idx s.term vS dS pl fr (.slice aL l.length cL) cd) 119,pt b7 (e.v ao52 c52) 51] 10 [0,2,4,6,8,10,13,15,16,18,21] (by simp) qk qk (dldpw qk 4 0 I qk I I (dldS qk 0 1 I qk I qk (dact qk 0 I (lit 0 (e.v ao52 c52) I (by decide) qk fun b69=>dnx (by simp) I (dact qk 0 I (appSq 0 2 (e.v ao52 c52).toList e I I I (oL.imp fun _ _ h=>h.le le23) ⟨ao52,c52,I,x52⟩ I (by simp[Ent.v,Value.oneCell']) I (by decide) (by show (l.length+1)*48<=_;omega) (by simp only[maxLen];omega) fun ao70 c70 g70 o70=>dnx (by simp) rfl (dact qk 2 rfl (stp 0 3 rfl rfl rfl rfl (dnext (.inl qk) (dend qk 0 rfl (bl (th (rg (WL.drop (WL.drop (ar 1 rfl (u64w (x:=((s.idx+1+(j+1):Nat):Int)) qo) (fin 1 rfl (again (x:=((j,l),(aL,cL,gl),em)) ((j+1,l++[e]),(ao70,c70,g70),K2) ⟨rfl,rfl,rfl,trivial⟩ rfl (by dsimp only;rw[List.length_append];rfl) ⟨.inr ⟨by dsimp only;omega,?_⟩,by simp_all,le1.trans le23,by dsimp only;rw[List.length_append];exact o70⟩ (by dsimp only;omega))))))))))))))))))))
     grind
   ·refine au ?_
    have hfin:R=some l:=by
     rcases hj with ⟨h,hRn,hj0⟩|⟨h,hRs⟩
     ·omega
     grind [List.drop_eq_nil_of_le,rdE]
    refine au ?_;rw[hfin];exact ret1 I I ⟨le1,gl,aL,cL,l,I,I,oL,fun x hx=>(Option.some.inj hx).symm⟩
end
section
theorem lgFree_cons(pl:Nat)(a:Int)(r:List Int)(D:Dk):lgFree pl (a::r) D=if a % 4=2/\a≠((lgA4 pl:Nat):Int) then (if (D.free a).2≠0 then D.free a else lgFree pl r (D.free a).1) else lgFree pl r D:=rfl
theorem DOk.lgFree(pl:Nat):∀ (l:List Int) (D:Dk) (c:Nat),DOk c D->DOk (c+l.length) (lgFree pl l D).1
 | [],D,c,o=>o
 | a::r,D,c,o=>by
  rw[lgFree_cons];simp only[List.length_cons]
  split
  ·split
   ·exact (o.free a).up qo
   ·exact (DOk.lgFree pl r _ _<|o.free a).up qo
  ·exact (DOk.lgFree pl r D c o).up qo
theorem wOpen_code{D:Dk}{fr first:Nat}:((wOpen D fr first).1=none->(wOpen D fr first).2.2≠0)/\(∀ W,(wOpen D fr first).1=some W->(wOpen D fr first).2.2=0):=by
 unfold wOpen
 grind
theorem rdHead_bd{D:Dk}{S:Slt}{v:List Int}{p:Snp×Nat×Nat}(h:rdHead D S v=some p):p.1.idx<=lgTop/\p.2.1<=lgTop/\p.2.2<=lgTop:=by
 unfold rdHead at h
 split at h
 ·grind
 ·split at h
  ·cases h
  ·split at h
   ·cases h
   ·cases h;exact ⟨rUint_le _ _,rUint_le _ _,rUint_le _ _⟩
attribute [local irreducible] Code.wp wpList Calls
theorem openSH{w0:World}{K h:PH}{hs:List PH}(b:Nat)(D:Dk)(c:Nat)(o:D.Ok c)(hc:c<=1099511627)(hm:DskH K b D h)(area:Nat):
  Ct Tryz.prog w0 53 [.pointer (some ⟨b,0,none⟩),.int .u64 (area:Nat)] K (h::hs)
   (fun v K' hs'=>∃ h' new,hs'=new++h'::hs/\h'=h/\Le K K'/\((D.dead=true/\new=[]/\v=.tuple #[.pointer none,.int .i64 30])\/(D.dead=false/\∃ sb s,new=[s]/\SltH K' sb b area (sltOpen D area) s/\v=.tuple #[.pointer (some ⟨sb,0,none⟩),.int .i64 0]))):=
 (openSC b D c o hc hm area).mono fun v K' hs' hR=>by
  rcases hR with ⟨h1,rfl,rfl,rfl⟩|⟨h1,le,sb,s,rfl,hS,rfl⟩
  ·exact ⟨h,[],I,I,Le.refl _,.inl ⟨h1,I,I⟩⟩
  grind
theorem openWH{w0:World}{K dh:PH}{hs:List PH}(db:Nat)(D:Dk)(c:Nat)(oD:DOk c D)(hc:c<=400000000)(hd:DskH K db D dh)(fr first:Nat)(hfr:fr<18446744073709551616)(hfi:first<18446744073709551616):
  Ct Tryz.prog w0 59 [.pointer (some ⟨db,0,none⟩),.int .u64 (fr:Nat),.int .u64 (first:Nat)] K (dh::hs)
   (fun v K' hs'=>∃ h' new,hs'=new++h'::hs/\Le K K'/\DskH K' db (wOpen D fr first).2.1 h'/\(((wOpen D fr first).1=none/\new=[]/\v=.tuple #[.pointer none,.int .i64 (wOpen D fr first).2.2]) \/
    (∃ W wb wh,(wOpen D fr first).1=some W/\new=[wh]/\WalH K' wb db W wh/\v=.tuple #[.pointer (some ⟨wb,0,none⟩),.int .i64 (wOpen D fr first).2.2]))):=by
 refine Ct.fix2 (openWC db D c oD hc hd fr first hfr hfi) ?_;rintro w v K' hs' hS ⟨le,m',dh',rfl,hd',hR⟩;cases hW:(wOpen D fr first).1 with
 | none=>
  grind
 | some W=>
  rw[hW] at hR;obtain ⟨wb,hM,rfl⟩:=hR;obtain ⟨d,hS'⟩:=Sat.join m' hS;exact ⟨K',_,⟨dh',[uns m'],I,le,hd',.inr ⟨W,wb,uns m',I,I,⟨m',I,d,hM⟩,I⟩⟩,hS'⟩
theorem didLB{w0:World}{K:PH}{hs:List PH}(lb:Nat)(wp:Option Nat)(db:Nat)(hp ep:Option Nat)(kt:Nat)(kv:Int)(si st:Nat)(vS dS:Value)(pl fr:Nat)(lS:Value)(cd e:Int):
  Ct Tryz.prog w0 57 [.pointer (some ⟨lb,0,none⟩),.int .i64 e] K (pt lb (lgB wp db hp ep kt kv si st vS dS pl fr lS cd) 119::hs)
   (fun v K' hs'=>∃ h',hs'=h'::hs/\K'=K/\h'=pt lb (lgB wp db hp ep kt kv si st vS dS pl fr lS (didV cd e)) 119/\v=.int .i64 (didV cd e)):=by
 unfold didV;refine entA Tryz.func57 ?_;refine cmp 0 I (fun e2=>?_) (fun e2=>?_)
 ·refine au ?_;rw[if_pos e2];refine au ?_;exact ret1 I I ⟨_,I,I,I,I⟩
 ·refine au ?_;rw[if_neg e2];refine au ?_;exact ret1 I I ⟨_,I,I,I,I⟩
theorem openLC{w0:World}{K dh:PH}{hs:List PH}(db:Nat)(D:Dk)(c:Nat)(oD:DOk c D)(hc:c<=199000000)(hd:DskH K db D dh)(first:List Int)(hfl:first.length<=1000000)(aF:Option Addr)(cF:Nat)(xF:IsS K aF first.length cF 1 (iv first)):
  Ct Tryz.prog w0 22 [.pointer (some ⟨db,0,none⟩),.agg #[.slice aF first.length cF]] K (dh::hs)
   (fun v K' hs'=>Le K K'/\(((lOpen D first).1=none/\v=.tuple #[.pointer none,.int .i64 (lOpen D first).2.2]/\∃ dh',hs'=dh'::hs/\DskH K' db (lOpen D first).2.1 dh') \/
    (∃ L lb m,(lOpen D first).1=some L/\v=.tuple #[.pointer (some ⟨lb,0,none⟩),.int .i64 (lOpen D first).2.2]/\hs'=m++hs/\LgM K' lb db L (lOpen D first).2.1 m))):=by
 obtain ⟨R,hR⟩:∃ R,R=lOpen D first:=⟨_,rfl⟩
 rw[<-hR];unfold lOpen at hR;have hlen:=oD.len;refine ent Tryz.func22 ?_;refine sq (rg (bx 0 I fun b3=>WL.h 0 (pt b3 #[.slice aF first.length cF] 46) (fin 2 I (th (sq (sq (rg (ldS 0 0 I I qk (cl 0 I (rightC aF cF first (.inl I) xF qo) ?_)))))))));rintro v13 K13 hs13 ⟨rfl,rfl,rfl⟩;cases hps:(putConf first).isSome with
 | false=>
  rw[if_pos hps] at hR;refine fin 1 I (th (ifT I (sq (rg (WL.drop (au ?_))))));rw[hR];exact ret2 I I I ⟨Le.refl _,.inl ⟨I,I,dh,I,hd⟩⟩
 | true=>
  rw[if_neg (by rw[hps];simp)] at hR;refine au ?_;refine bd 1 (.agg #[.int .u64 0,.int .i64 (-1)]) I (fun w=>by kernel_rfl) (au ?_);refine cl 0 I (cloneIC aF cF first (.inl I) xF qo) ?_;rintro v19 K19 hs19 ⟨le1,rfl,a0,c0,rfl,x0⟩;refine bd 0 (.agg #[.slice a0 first.length c0]) I (fun w=>by kernel_rfl) (bd 0 (.agg #[.int .u64 0,.int .u64 0,.slice a0 first.length c0,.slice none 0 0]) I (fun w=>by kernel_rfl) (bd 0 (.agg (lgB none db none none 0 (-1) 0 0 (.slice a0 first.length c0) (.slice none 0 0) 0 0 (.slice none 0 0) 0)) I (fun w=>by kernel_rfl) (bx 0 I fun lb=>WL.h 0 (pt lb (lgB none db none none 0 (-1) 0 0 (.slice a0 first.length c0) (.slice none 0 0) 0 0 (.slice none 0 0) 0) 119) (WL.del 1 I ?_))));refine au ?_;refine cl 2 I (Ct.atN 1 I (openSH db D c oD.ok qo (hd.le le1) 0)) ?_;rintro v27 K27 hs27 ⟨dh,new,rfl,rfl,le2,hA⟩;have le12:=le1.trans le2;rcases hA with ⟨hdead,rfl,rfl⟩|⟨hdead,hb,hh,rfl,hH,rfl⟩
  ·rw[if_pos hdead] at hR;refine au ?_;refine cl 2 I (Ct.atN 1 I (openSH db D c oD.ok qo (hd.le le12) 4)) ?_;rintro v35 K35 hs35 ⟨dh,new,rfl,rfl,le3,hA⟩;rcases hA with ⟨_,rfl,rfl⟩|⟨hx,_⟩
   ·refine stp 5 0 I I I I (fin 1 I (th (sq (sq (rg (fin 6 I (th (ifT I (sq (rg (WL.drop (au ?_))))))))))));rw[hR];exact ret2 I I I ⟨le12.trans le3,.inl ⟨I,I,dh,I,hd.le (le12.trans le3)⟩⟩
   ·rw[hdead] at hx;cases hx
  ·rw[if_neg (by rw[hdead];simp)] at hR;refine au ?_;refine cl 2 I (Ct.atN 2 I (openSH db D c oD.ok qo (hd.le le12) 4)) ?_;rintro v35 K35 hs35 ⟨dh,new,rfl,rfl,le3,hA⟩;have le13:=le12.trans le3;rcases hA with ⟨hx,_⟩|⟨_,eb,eh,rfl,hE,rfl⟩
   ·rw[hdead] at hx;cases hx
   ·refine stp 5 2 I I I I (WL.fr 1 I (WL.fr 2 I (WL.h 0 (pt lb (lgB none db (some hb) (some eb) 0 (-1) 0 0 (.slice a0 first.length c0) (.slice none 0 0) 0 0 (.slice none 0 0) 0) 119) ?_)));have hHb:=sltUp_bd oD.ok 0 2;have hEb:=sltUp_bd oD.ok 4 2;refine fin 1 I (th (sq (sq (rg (fin 6 I (th (ifF I (sk (th (sq (sq (rg (cl 1 I (readHardC lb db hb none (some eb) 0 0 _ _ 0 0 _ 0 (sltOpen D 0) (hH.le le3) hHb) ?_)))))))))))));rintro v47 K47 hs47 ⟨le4,kt,kv,rfl,rfl,hkh⟩;have le14:=le13.trans le4;cases hrh:rdHard (sltOpen D 0) with
    | none=>
     rw[hrh] at hR;dsimp only at hR;refine fin 6 I (th (ifT I (sq (rg (WL.drop (WL.drop (WL.drop (au ?_))))))));rw[hR];exact ret2 I I I ⟨le14,.inl ⟨I,I,dh,I,hd.le le14⟩⟩
    | some kh=>
     rw[hrh] at hR;dsimp only at hR;have hkh:=hkh kh hrh;subst hkh;refine WL.fr 3 I (WL.fr 3 I (WL.fr 2 I (cl 3 I (readHeadC lb db eb none (some hb) kt kv first a0 c0 (x0.le (le2.trans (le3.trans le4))) _ 0 (sltOpen D 4) (hE.le le4) hEb D c oD.ok qo (hd.le le14)) ?_)));rintro v51 K51 hs51 ⟨le5,sn,pl,fr,aV,cV,aD,cD,rfl,rfl,xV,xD,hhd⟩;have le15:=le14.trans le5;cases hrd:rdHead D (sltOpen D 4) first with
     | none=>
      rw[hrd] at hR;dsimp only at hR;refine fin 2 I (th (ifT I (sq (rg (WL.drop (WL.drop (WL.del 1 I (au ?_))))))));rw[hR];exact ret2 I I I ⟨le15,.inl ⟨I,I,dh,I,hd.le le15⟩⟩
     | some hp=>
      rw[hrd] at hR;dsimp only at hR;obtain ⟨hB1,hB2,hB3⟩:=rdHead_bd hrd;have hhd:=hhd hp hrd;subst hhd;dsimp only at hB1 hB2 hB3;unfold lgTop at hB1 hB2 hB3;unfold lOpen2 at hR;dsimp only at hR;have hbd:=areasL_bd oD;have hal:=areasL_len oD;have hkH:=hH.le (le3.trans (le4.trans le5));have hkE:=hE.le (le4.trans le5);obtain ⟨l,hl⟩:∃ l,l=areasL D:=⟨_,rfl⟩;obtain ⟨F,hF⟩:∃ F,F=lgFree pl l D:=⟨_,rfl⟩;rw[<-hl] at hbd hal hR;rw[<-hF] at hR;refine au ?_;refine cl 1 I (Ct.at 2 I (areasH db D c oD qo (hd.le le15))) ?_;rintro v55 K55 hs55 ⟨dh,rfl,rfl,le6,aA,cA,rfl,xA⟩;rw[<-hl] at xA ⊢;have le16:=le15.trans le6;refine au ?_
      refine loop (σ:=Nat×Dk×PH) (fun s=>[(0,.pointer (some ⟨db,0,none⟩)),(6,.pointer (some ⟨lb,0,none⟩)),(55,.slice aA l.length cA),(56,.int .i64 l.length),(57,.int .i64 s.1)]) (fun _=>K55)
       (fun s=>pt lb (lgB none db (some hb) (some eb) kt kv sn.idx sn.term (.slice aV sn.vot.length cV) (.slice aD sn.data.length cD) pl fr (.slice none 0 0) 0) 119::eh::s.2.2::hh::hs) (fun s=>s.1<=l.length/\lgFree pl (l.drop s.1) s.2.1=F/\DOk (c+s.1) s.2.1/\DskH K55 db s.2.1 s.2.2) (fun s=>l.length-s.1) (0,D,dh) ⟨Nat.zero_le _,hF.symm,oD,hd.le le16⟩ ⟨rfl,rfl,rfl,rfl,rfl,trivial⟩ rfl rfl ?_
      rintro ⟨j,D',dh'⟩ ⟨hj,hw,oD',hD'⟩;dsimp only at *;refine sq (rg (cmp 0 I (fun e9=>?_) (fun e9=>?_)))
      ·refine au ?_;have hjl:j<l.length:=by omega
       obtain ⟨a,ha⟩:∃ a,l[j]?=some a:=⟨l[j],List.getElem?_eq_getElem hjl⟩;have hab:=hbd a (List.mem_of_getElem? ha);obtain ⟨n,rfl⟩:=Int.eq_ofNat_of_zero_le hab.1;rw[List.drop_eq_getElem_cons hjl,show l[j]=((n:Nat):Int) from by simp_all,lgFree_cons] at hw;refine au ?_;refine ix1 0 j I I I xA (ivu_get ha) fun a59 hc59=>ld 0 I (.inl I) hc59 (au ?_);refine ar 1 I (u_rem .u64 n 4) ?_;have next:∀ {l':Sl},lgFree pl (l.drop (j+1)) D'=F->True:=fun _=>trivial
       by_cases q1:n % 4=2
       ·refine cmp 0 I (fun _=>au ?_) (fun h=>absurd (show ((n % 4:Nat):Int)=2 by omega) h);refine cl 0 I (areaLC pl qo) ?_;rintro v70 K70 hs70 ⟨rfl,rfl,rfl⟩
        by_cases q2:n=lgA4 pl
        ·rw[if_neg qo] at hw;refine cmp 0 I (fun h=>absurd (show ((n:Nat):Int)=((lgA4 pl:Nat):Int) by rw[q2]) h) (fun _=>au ?_);exact ar 0 I (i64w (x:=((j+1:Nat):Int)) qo) (fin 1 I (again (x:=(j,D',dh')) (j+1,D',dh') ⟨I,I,I,I,I,trivial⟩ I I ⟨by dsimp only;omega,hw,oD'.up qo,hD'⟩ (by dsimp only;omega)))
        ·rw[if_pos ⟨by omega,by omega⟩] at hw;obtain ⟨E,hEE⟩:∃ E,E=D'.free ((n:Nat):Int):=⟨_,rfl⟩;have oE:=oD'.free ((n:Nat):Int);rw[<-hEE] at hw oE;refine cmp 0 I (fun _=>cl 5 I (Ct.at 2 I (freeH db D' (c+j) oD'.ok qo hD' ((n:Nat):Int))) ?_) (fun h=>absurd (show ¬((n:Nat):Int)=((lgA4 pl:Nat):Int) by omega) h);rintro v77 K77 hs77 ⟨dh2,rfl,rfl,hD2,rfl⟩;rw[<-hEE] at hD2 ⊢;refine cl 0 I (didLB lb none db (some hb) (some eb) kt kv sn.idx sn.term _ _ pl fr _ 0 E.2) ?_;rintro v78 K78 hs78 ⟨_,rfl,rfl,rfl,rfl⟩;rw[show didV 0 E.2=E.2 from rfl];refine cmpS 0 I fun b79 h79=>fin 1 I (th (ifP h79 I (fun e15=>?_) (fun e15=>?_)))
         ·rw[if_pos e15] at hw;rw[<-hw,if_pos e15] at hR;refine sq (rgm [0] 6 [0,2,4,6,8,10] ?_);refine dldp qk 3 0 I I I (dend qk 2 I (th (rt (rB (rT (rT (rB (rT (WQ.drop (WQ.drop (WQ.del 1 I ?_)))))))))));rw[hR];exact ret2 I I I ⟨le16,.inl ⟨I,I,dh2,I,hD2⟩⟩
         ·have e15:=Decidable.not_not.1 e15;rw[if_neg qo] at hw;rw[e15];exact sk (bl (th (rg (ar 0 I (i64w (x:=((j+1:Nat):Int)) qo) (fin 1 I (again (x:=(j,D',dh')) (j+1,E.1,dh2) ⟨I,I,I,I,I,trivial⟩ I I ⟨by dsimp only;omega,hw,oE.up qo,hD2⟩ (by dsimp only;omega)))))))
       ·rw[if_neg qo] at hw;refine cmp 0 I (fun h=>absurd (show ((n % 4:Nat):Int)=2 from h) qo) (fun _=>au ?_);exact ar 0 I (i64w (x:=((j+1:Nat):Int)) qo) (fin 1 I (again (x:=(j,D',dh')) (j+1,D',dh') ⟨I,I,I,I,I,trivial⟩ I I ⟨by dsimp only;omega,hw,oD'.up qo,hD'⟩ (by dsimp only;omega)))
      ·refine au ?_;obtain rfl:j=l.length:=by omega
       rw[List.drop_length] at hw;have hw:(D',(0:Int))=F:=hw;rw[<-hw,if_neg (by simp)] at hR;dsimp only at hR;unfold lOpen3 at hR;dsimp only at hR;obtain ⟨X,hX⟩:∃ X,X=wOpen D' fr (sn.idx+1):=⟨_,rfl⟩;obtain ⟨hXc,hXs⟩:=wOpen_code (D:=D') (fr:=fr) (first:=sn.idx+1);rw[<-hX] at hR hXc hXs;refine au ?_;refine rga [pt lb (lgB none db (some hb) (some eb) kt kv sn.idx sn.term (.slice aV sn.vot.length cV) (.slice aD sn.data.length cD) pl fr (.slice none 0 0) 0) 119] 17 [0,2,4,6,8,10,12,14,16,18,20,23,24,26,28,30,32] (by simp) qk qk (au ?_);refine dar qk 0 I (u64w (x:=((sn.idx+1:Nat):Int)) qo) (au ?_);refine cl 0 I (Ct.atN 2 I (openWH db D' (c+l.length) oD' qo hD' fr (sn.idx+1) qo qo)) ?_;rintro v98 K98 hs98 ⟨dh2,new,rfl,le7,hD2,hA⟩;rw[<-hX] at hD2 hA;have le17:=le16.trans le7;rcases hA with ⟨hn,rfl,rfl⟩|⟨W,wb,wh,hW,rfl,hWh,rfl⟩
       ·rw[hn] at hR;dsimp only at hR;have hXc:=hXc hn;refine dnxL (by simp) le7 (au ?_);refine cmpS 1 I fun b102 h102=>fin 0 I (th (ifP h102 I (fun e17=>?_) (fun e17=>?_)))
        ·rw[if_pos e17] at hR;refine sq (rg (WL.drop (WL.drop (WL.del 1 I (au ?_)))));rw[hR];exact ret2 I I I ⟨le17,.inl ⟨I,I,dh2,I,hD2⟩⟩
        ·rw[if_neg e17] at hR;refine au ?_;refine cmpS 1 I fun b104 h104=>fin 0 I (th (ifP h104 I (fun e19=>sq (rg (WL.drop (WL.drop (WL.del 1 I (au ?_)))))) (fun e19=>absurd hXc e19)));rw[hR];exact ret2 I I I ⟨le17,.inl ⟨I,I,dh2,I,hD2⟩⟩
       ·rw[hW] at hR;dsimp only at hR;have hXs:=hXs W hW;rw[hXs];have hopen:=WBd.opened oD' (fr:=fr) (first:=sn.idx+1) (W:=W) (E:=X.2.1) (by grind);refine dnxL (by simp) le7 (dend qk 5 I (th (sq (sq (rg (fin 2 I (th (ifF I (sk (th (sq (sq (rg (fin 2 I (th (ifF I (sk (th (sq (rg (WL.fr 1 I (stp 4 0 I I I I (WL.h 0 (pt lb (lgB (some wb) db (some hb) (some eb) kt kv sn.idx sn.term (.slice aV sn.vot.length cV) (.slice aD sn.data.length cD) pl fr (.slice none 0 0) 0) 119) ?_)))))))))))))))))))))));refine au ?_;refine cl 1 I (readEntriesC lb db wb (some hb) (some eb) kt kv sn (by unfold lgTop;omega) _ _ pl fr 0 W hWh (c+l.length) hopen.1 qo) ?_;rintro v111 K111 hs111 ⟨le8,gl,aL,cL,ll,rfl,rfl,hG,hll⟩;have le18:=le17.trans le8;cases hre:rdEnts sn W with
        | none=>
         rw[hre] at hR;dsimp only at hR;refine fin 1 I (th (ifT I (sq (rg (WL.drop (WL.drop (WL.drop (WL.drop (WL.del 1 I (au ?_))))))))));rw[hR];exact ret2 I I I ⟨le18,.inl ⟨I,I,dh2,I,hD2.le le8⟩⟩
        | some l2=>
         rw[hre] at hR;dsimp only at hR;have hll:=hll l2 hre;subst hll;refine fin 1 I (th (ifF I (sk (th (sq (rg (WL.fr 4 I (WL.fr 1 I (WL.fr 4 I (WL.fr 5 I (WL.fr 5 I (WL.fr 5 I (au ?_)))))))))))));rw[hR];have le78:=le7.trans le8;exact ret2 I I I ⟨le18,.inr ⟨_,lb,[_,_,_,_,_,_],I,I,I,wb,hb,eb,aV,cV,aD,cD,aL,cL,wh,hh,eh,gl,dh2,I,hWh.le le8,hkH.le (le6.trans le78),hkE.le (le6.trans le78),hG,hD2.le le8,xV.le (le6.trans le78),xD.le (le6.trans le78)⟩⟩
end
section
attribute [local irreducible] Code.wp wpList Calls
def q0:MA:=⟨none,0,none,0,none,0⟩
def baseM(m:Msg):Msg:={ Msg.zero with kind:=m.kind,frm:=m.frm,to:=m.to,term:=m.term }
def named(m:Msg):Msg:=
 if m.kind=1 then { baseM m with idx:=m.idx,lt:=m.lt } else if m.kind=2 then { baseM m with good:=m.good }
 else if m.kind=3 then { baseM m with idx:=m.idx,lt:=m.lt,com:=m.com,rnd:=m.rnd,ents:=m.ents }
 else if m.kind=4 then { baseM m with good:=m.good,idx:=m.idx,rnd:=m.rnd }
 else if m.kind=5 then { baseM m with idx:=m.idx,lt:=m.lt,off:=m.off,whole:=m.whole,vot:=m.vot,data:=m.data }
 else if m.kind=6 then { baseM m with idx:=m.idx,off:=m.off } else baseM m
def namedP(m:Msg)(p:MA):MA:=if m.kind=3 then { q0 with ae:=p.ae,ce:=p.ce } else if m.kind=5 then { q0 with av:=p.av,cv:=p.cv,ad:=p.ad,cd:=p.cd } else q0
theorem namedS{K:PH}{m:Msg}{p:MA}(h:MsgS K m p):MsgS K (named m) (namedP m p):=by
 unfold named namedP
 by_cases e3:m.kind=3
 ·rw[if_neg qo,if_neg qo,if_pos e3,if_pos e3];exact ⟨h.1,IsS.nil _ _ _ _,IsS.nil _ _ _ _⟩
 ·rw[if_neg e3,if_neg e3]
  by_cases e5:m.kind=5
  ·rw[if_neg qo,if_neg qo,if_neg qo,if_pos e5,if_pos e5];exact ⟨EntsS.nil _ _ _,h.2.1,h.2.2⟩
  ·rw[if_neg e5,if_neg e5];have:∀ m':Msg,m'.ents=[]->m'.vot=[]->m'.data=[]->MsgS K m' q0:=fun m' h1 h2 h3=>⟨by rw[h1];simp[EntsS.nil],by rw[h2];exact IsS.nil _ _ _ _,by rw[h3];exact IsS.nil _ _ _ _⟩
   repeat' split
   all_goals exact this _ rfl rfl rfl
theorem fieldsOf_ne{k:Int}:fieldsOf k≠[]↔k=1\/k=2\/k=3\/k=4\/k=5\/k=6:=by
 unfold fieldsOf
 grind
theorem same_fin{m1 m2:Msg}{P1:Prop}(e1:¬(((((¬m1.kind=m2.kind\/¬m1.frm=m2.frm)\/¬m1.to=m2.to)\/¬((m1.term:Nat):Int)=(m2.term:Nat))\/¬((m1.idx:Nat):Int)=(m2.idx:Nat))\/¬((m1.lt:Nat):Int)=(m2.lt:Nat)))
  (e2:¬(((((¬((m1.com:Nat):Int)=(m2.com:Nat)\/¬((m1.rnd:Nat):Int)=(m2.rnd:Nat))\/m1.good≠m2.good)\/¬m1.off=m2.off)\/¬m1.whole=m2.whole)\/m1.data≠m2.data)) (e3:¬(¬m1.vot=m2.vot\/P1)) (h:m1.ents=m2.ents):m1=m2:=by
 simp only[not_or,ne_eq,Decidable.not_not,Int.ofNat_inj] at e1 e2;have e3:=Decidable.not_not.1 (fun h=>e3 (.inl h));obtain ⟨k,f,t,te,i,l,c,r,g,e,o,w,v,d⟩:=m1
 simp_all
theorem namedRef{w0:World}{K:PH}{hs:List PH}(m:Msg)(p:MA):Ct Tryz.prog w0 38 [.agg (mv m p)] K hs
  (fun v K' hs'=>K'=K/\hs'=hs/\∃ t:Bool,v=.tuple #[.agg (mv (named m) (namedP m p)),.bool t]/\(t=true↔fieldsOf m.kind≠[])):=by
 refine enter Tryz.func38 qk I I I (sq (rg (bx 0 I fun b1=>al 0 (.agg #[.int .i64 0,.int .i64 0,.int .i64 0,.int .u64 0,.int .u64 0,.int .u64 0,.int .u64 0,.int .u64 0,.bool false,.slice none 0 0,.int .i64 0,.int .i64 0,.slice none 0 0,.slice none 0 0]) I qk fun b2=>fin 1 I (th (sq (rg (ldp 1 1 I I I (ldp 1 1 I I I (ldp 1 1 I I I (ldp 1 1 I I I (bd 0 (.agg (mv (baseM m) q0)) I (fun w=>by kernel_rfl) (al 0 (.agg #[.int .i64 0,.int .i64 0,.int .i64 0,.int .u64 0,.int .u64 0,.int .u64 0,.int .u64 0,.int .u64 0,.bool false,.slice none 0 0,.int .i64 0,.int .i64 0,.slice none 0 0,.slice none 0 0]) I qk fun b4=>?_))))))))))));refine stS 0 0 I I qk I I ?_;refine WL.hs (pt b4 (mv (baseM m) q0) 34::pt b2 (mv Msg.zero q0) 34::pt b1 (mv m p) 34::hs) I (fin 0 I (th (sq (sq (rg (ldp 1 2 I I I (fin 0 I (th (bk (sq (rg (cmpS 0 I fun b18 h18=>fin 1 I (th (ifP h18 I (fun e2=>?_) (fun e2=>?_)))))))))))))))
 ·refine sq (rg (ldp 1 2 I I I (stp 1 0 I I I I (WL.hs (pt b4 (mv { baseM m with idx:=m.idx } q0) 34::pt b2 (mv Msg.zero q0) 34::pt b1 (mv m p) 34::hs) I (fin 0 I (th (rg (ldp 1 2 I I I (stp 1 0 I I I I (WL.hs (pt b4 (mv { baseM m with idx:=m.idx,lt:=m.lt } q0) 34::pt b2 (mv Msg.zero q0) 34::pt b1 (mv m p) 34::hs) I (fin 0 I (bl (th (sq (rg (ldS 0 0 I I qk ?_))))))))))))))));refine stS 0 1 I I qk I I ?_;refine fin 1 I (th (rt ?_));exact retcP 1 3 I I I I qk ⟨I,I,true,by rw[named,namedP,if_pos e2,if_neg qo,if_neg qo],by rw[fieldsOf_ne];exact ⟨fun _=>by omega,fun _=>I⟩⟩
 ·refine sq<|rg (cmpS 0 I fun b26 h26=>fin 1 I<|th (ifP h26 I (fun e4=>?_) (fun e4=>?_)))
  ·refine rg (ldp 1 2 I I I (stp 1 0 I I I I (WL.hs (pt b4 (mv { baseM m with good:=m.good } q0) 34::pt b2 (mv Msg.zero q0) 34::pt b1 (mv m p) 34::hs) I (fin 0 I (bl (th (sq (rg (ldS 0 0 I I qk ?_)))))))));refine stS 0 1 I I qk I I ?_;refine fin 1 I (th (rt ?_));exact retcP 1 3 I I I I qk ⟨I,I,true,by rw[named,namedP,if_neg e2,if_pos e4,if_neg qo,if_neg qo],by rw[fieldsOf_ne];exact ⟨fun _=>by omega,fun _=>I⟩⟩
  ·refine sq<|rg (cmpS 0 I fun b31 h31=>fin 1 I<|th (ifP h31 I (fun e6=>?_) (fun e6=>?_)))
   ·refine sq<|rg (ldp 1 2 I I I<|stp 1 0 I I I I (WL.hs (pt b4 (mv { baseM m with idx:=m.idx } q0) 34::pt b2 (mv Msg.zero q0) 34::pt b1 (mv m p) 34::hs) I<|fin 0 I (th<|sq (rg<|ldp 1 2 I I I (stp 1 0 I I I I<|WL.hs (pt b4 (mv { baseM m with idx:=m.idx,lt:=m.lt } q0) 34::pt b2 (mv Msg.zero q0) 34::pt b1 (mv m p) 34::hs) I (fin 0 I<|th (sq<|rg (ldp 1 2 I I I<|stp 1 0 I I I I (WL.hs (pt b4 (mv { baseM m with idx:=m.idx,lt:=m.lt,com:=m.com } q0) 34::pt b2 (mv Msg.zero q0) 34::pt b1 (mv m p) 34::hs) I<|fin 0 I (th<|sq (rg<|ldp 1 2 I I I (stp 1 0 I I I I<|WL.hs (pt b4 (mv { baseM m with idx:=m.idx,lt:=m.lt,com:=m.com,rnd:=m.rnd } q0) 34::pt b2 (mv Msg.zero q0) 34::pt b1 (mv m p) 34::hs) I (fin 0 I<|th (rg<|ldp 1 2 I I I (stp 1 0 I I I I<|WL.hs (pt b4 (mv { baseM m with idx:=m.idx,lt:=m.lt,com:=m.com,rnd:=m.rnd,ents:=m.ents } { q0 with ae:=p.ae,ce:=p.ce }) 34::pt b2 (mv Msg.zero q0) 34::pt b1 (mv m p) 34::hs) I ?_)))))))))))))))
    refine fin 0 I (bl (th (sq (rg (ldS 0 0 I I qk ?_)))));refine stS 0 1 I I qk I I ?_;refine fin 1 I (th (rt ?_));exact retcP 1 3 I I I I qk ⟨I,I,true,by rw[named,namedP,if_neg e2,if_neg e4,if_pos e6,if_pos e6],by rw[fieldsOf_ne];exact ⟨fun _=>by omega,fun _=>I⟩⟩
   ·refine sq<|rg (cmpS 0 I fun b48 h48=>fin 1 I<|th (ifP h48 I (fun e8=>?_) (fun e8=>?_)))
    ·refine sq (rg (ldp 1 2 I I I (stp 1 0 I I I I (WL.hs (pt b4 (mv { baseM m with good:=m.good } q0) 34::pt b2 (mv Msg.zero q0) 34::pt b1 (mv m p) 34::hs) I (fin 0 I (th (sq (rg (ldp 1 2 I I I (stp 1 0 I I I I (WL.hs (pt b4 (mv { baseM m with good:=m.good,idx:=m.idx } q0) 34::pt b2 (mv Msg.zero q0) 34::pt b1 (mv m p) 34::hs) I (fin 0 I (th (rg (ldp 1 2 I I I (stp 1 0 I I I I (WL.hs (pt b4 (mv { baseM m with good:=m.good,idx:=m.idx,rnd:=m.rnd } q0) 34::pt b2 (mv Msg.zero q0) 34::pt b1 (mv m p) 34::hs) I (fin 0 I (bl (th (sq (rg (ldS 0 0 I I qk ?_)))))))))))))))))))))));refine stS 0 1 I I qk I I ?_;refine fin 1 I (th (rt ?_));exact retcP 1 3 I I I I qk ⟨I,I,true,by rw[named,namedP,if_neg e2,if_neg e4,if_neg e6,if_pos e8,if_neg qo,if_neg qo],by rw[fieldsOf_ne];exact ⟨fun _=>by omega,fun _=>I⟩⟩
    ·refine sq<|rg (cmpS 0 I fun b59 h59=>fin 1 I<|th (ifP h59 I (fun e10=>?_) (fun e10=>?_)))
     ·refine sq<|rg (ldp 1 2 I I I<|stp 1 0 I I I I (WL.hs (pt b4 (mv { baseM m with idx:=m.idx } q0) 34::pt b2 (mv Msg.zero q0) 34::pt b1 (mv m p) 34::hs) I<|fin 0 I (th<|sq (rg<|ldp 1 2 I I I (stp 1 0 I I I I<|WL.hs (pt b4 (mv { baseM m with idx:=m.idx,lt:=m.lt } q0) 34::pt b2 (mv Msg.zero q0) 34::pt b1 (mv m p) 34::hs) I (fin 0 I<|th (sq<|rg (ldp 1 2 I I I<|stp 1 0 I I I I (WL.hs (pt b4 (mv { baseM m with idx:=m.idx,lt:=m.lt,off:=m.off } q0) 34::pt b2 (mv Msg.zero q0) 34::pt b1 (mv m p) 34::hs) I<|fin 0 I (th<|sq (rg<|ldp 1 2 I I I (stp 1 0 I I I I<|WL.hs (pt b4 (mv { baseM m with idx:=m.idx,lt:=m.lt,off:=m.off,whole:=m.whole } q0) 34::pt b2 (mv Msg.zero q0) 34::pt b1 (mv m p) 34::hs) I (fin 0 I<|th (sq<|rg (ldp 1 2 I I I<|stp 1 0 I I I I (WL.hs (pt b4 (mv { baseM m with idx:=m.idx,lt:=m.lt,off:=m.off,whole:=m.whole,vot:=m.vot } { q0 with av:=p.av,cv:=p.cv }) 34::pt b2 (mv Msg.zero q0) 34::pt b1 (mv m p) 34::hs) I ?_))))))))))))))))
      refine fin 0 I (th (rg (ldp 1 2 I I I (stp 1 0 I I I I (WL.hs (pt b4 (mv { baseM m with idx:=m.idx,lt:=m.lt,off:=m.off,whole:=m.whole,vot:=m.vot,data:=m.data } { q0 with av:=p.av,cv:=p.cv,ad:=p.ad,cd:=p.cd }) 34::pt b2 (mv Msg.zero q0) 34::pt b1 (mv m p) 34::hs) I (fin 0 I (bl (th (sq (rg (ldS 0 0 I I qk ?_)))))))))));refine stS 0 1 I I qk I I ?_;refine fin 1 I (th (rt ?_));exact retcP 1 3 I I I I qk ⟨I,I,true,by rw[named,namedP,if_neg e2,if_neg e4,if_neg e6,if_neg e8,if_pos e10,if_neg e6,if_pos e10],by rw[fieldsOf_ne];exact ⟨fun _=>by omega,fun _=>I⟩⟩
     ·refine sq<|rg (cmpS 0 I fun b79 h79=>fin 1 I<|th (ifP h79 I (fun e12=>?_) (fun e12=>?_)))
      ·refine sq (rg (ldp 1 2 I I I (stp 1 0 I I I I (WL.hs (pt b4 (mv { baseM m with idx:=m.idx } q0) 34::pt b2 (mv Msg.zero q0) 34::pt b1 (mv m p) 34::hs) I (fin 0 I (th (rg (ldp 1 2 I I I (stp 1 0 I I I I (WL.hs (pt b4 (mv { baseM m with idx:=m.idx,off:=m.off } q0) 34::pt b2 (mv Msg.zero q0) 34::pt b1 (mv m p) 34::hs) I (fin 0 I (bl (th (sq (rg (ldS 0 0 I I qk ?_))))))))))))))));refine stS 0 1 I I qk I I ?_;refine fin 1 I (th (rt ?_));exact retcP 1 3 I I I I qk ⟨I,I,true,by rw[named,namedP,if_neg e2,if_neg e4,if_neg e6,if_neg e8,if_neg e10,if_pos e12,if_neg qo,if_neg qo],by rw[fieldsOf_ne];exact ⟨fun _=>by omega,fun _=>I⟩⟩
      ·refine sq (rg (ldS 0 0 I I qk ?_));refine stS 0 1 I I qk I I ?_;refine fin 1 I (th (rt (rB (rT ?_))));exact retcP 1 3 I I I I qk ⟨I,I,false,by rw[named,namedP,if_neg e2,if_neg e4,if_neg e6,if_neg e8,if_neg e10,if_neg e12,if_neg e6,if_neg e10],by rw[fieldsOf_ne];exact ⟨fun h=>(by cases h),fun h=>qo⟩⟩
theorem sameRef{w0:World}{K:PH}{hs:List PH}(m1 m2:Msg)(p1 p2:MA)(h1:MsgS K m1 p1)(h2:MsgS K m2 p2)(hl1:m1.ents.length<1099511627776)(hl2:m1.vot.length<1099511627776):
  Ct Tryz.prog w0 39 [.agg (mv m1 p1),.agg (mv m2 p2)] K hs (fun v K' hs'=>K'=K/\hs'=hs/\∃ t:Bool,v=.bool t/\(t=true↔m1=m2)):=by
 obtain ⟨ae1',ce1',av1,cv1,ad1,cd1⟩:=p1;obtain ⟨ae2',ce2',av2,cv2,ad2,cd2⟩:=p2;refine enter Tryz.func39 qk I I I (sq (rg (bx 0 I fun b2=>bx 0 I fun b3=>fin 1 I (th (sq (sq (rg (ldp 1 1 I I I (ldp 1 0 I I I (cmpS 0 I fun b10 h10=>?_))))))))))
 refine' bjo 1 6 17 [10,11] h10 I I I I I I I (fun _=>?x2) (fun b17 h17=>?_)
 case x2=>
  exact ldp 1 1 I I I<|ldp 1 0 I I I (cmpS 0 I fun b16 h16=>fin 1 I<|bjx h16 I I I)
 refine' bjo 1 6 24 [17,18] h17 I I I I I I I (fun _=>?x4) (fun b24 h24=>?_)
 case x4=>
  exact ldp 1 1 I I I<|ldp 1 0 I I I (cmpS 0 I fun b23 h23=>fin 1 I<|bjx h23 I I I)
 refine' bjo 1 6 31 [24,25] h24 I I I I I I I (fun _=>?x6) (fun b31 h31=>?_)
 case x6=>
  exact ldp 1 1 I I I<|ldp 1 0 I I I (cmpS 0 I fun b30 h30=>fin 1 I<|bjx h30 I I I)
 refine' bjo 1 6 38 [31,32] h31 I I I I I I I (fun _=>?x8) (fun b38 h38=>?_)
 case x8=>
  exact ldp 1 1 I I I<|ldp 1 0 I I I (cmpS 0 I fun b37 h37=>fin 1 I<|bjx h37 I I I)
 refine' bjo 1 6 45 [38,39] h38 I I I I I I I (fun _=>?x10) (fun b45 h45=>?_)
 case x10=>
  exact ldp 1 1 I I I<|ldp 1 0 I I I (cmpS 0 I fun b44 h44=>fin 1 I<|bjx h44 I I I)
 refine fin 0 I<|th (ifP h45 I (fun e12=>?_) (fun e12=>?_))
 ·exact sq (rg (fin 1 I (th (rt (rT (WQ.drop (WQ.drop (ret1 I I ⟨I,I,false,I,fun h=>(by cases h),fun h=>by subst h;simp at e12⟩))))))))
 ·refine sk<|th (sq<|sq (rg<|ldp 1 1 I I I (ldp 1 0 I I I (cmpS 0 I fun b50 h50=>?_))))
  refine' bjo 1 6 57 [50,51] h50 I I I I I I I (fun _=>?x14) (fun b57 h57=>?_)
  case x14=>
   exact ldp 1 1 I I I<|ldp 1 0 I I I (cmpS 0 I fun b56 h56=>fin 1 I<|bjx h56 I I I)
  refine' bjo 1 6 64 [57,58] h57 I I I I I I I (fun _=>?x16) (fun b64 h64=>?_)
  case x16=>
   exact ldp 1 1 I I I<|ldp 1 0 I I I (cbS 0 (m1.good≠m2.good) I (by simp) fun b63 h63=>fin 1 I<|bjx h63 I I I)
  refine' bjo 1 6 71 [64,65] h64 I I I I I I I (fun _=>?x18) (fun b71 h71=>?_)
  case x18=>
   exact ldp 1 1 I I I<|ldp 1 0 I I I (cmpS 0 I fun b70 h70=>fin 1 I<|bjx h70 I I I)
  refine' bjo 1 6 78 [71,72] h71 I I I I I I I (fun _=>?x20) (fun b78 h78=>?_)
  case x20=>
   exact ldp 1 1 I I I<|ldp 1 0 I I I (cmpS 0 I fun b77 h77=>fin 1 I<|bjx h77 I I I)
  refine' bjo 1 8 87 [78,79] h78 I I I I I I I (fun _=>?x22) (fun b87 h87=>?_)
  case x22=>
   exact ldp 1 1 I I I<|cvs 0 _ I (In.cons<|In.cons (.inl I)) h1.2.2 qk (ldp 1 0 I I I<|cvs 0 _ I (In.cons<|In.cons (.inl I)) h2.2.2 qk (snS 0 I fun b86 h86=>fin 1 I<|bjx h86 I I I))
  refine fin 0 I<|th (ifP h87 I (fun e24=>?_) (fun e24=>?_))
  ·exact sq (rg (fin 1 I (th (rt (rT (WQ.drop (WQ.drop (ret1 I I ⟨I,I,false,I,fun h=>(by cases h),fun h=>by subst h;simp at e24⟩))))))))
  ·refine sk (th (sq (sq (rg (ldp 1 1 I I I (ldp 1 0 I I I (cl 0 I (sameVoters av1 av2 cv1 cv2 m1.vot m2.vot (.inl I) (.inl I) h1.2.1 h2.2.1 hl2) ?_)))))));rintro v92 K92 hs92 ⟨rfl,rfl,b92,rfl,h92⟩;refine cbS 0 _ I (bnot h92) fun b93 h93=>?_
   refine' bjo 1 8 102 [93,94] h93 I I I I I I I (fun _=>?x25) (fun b102 h102=>?_)
   case x25=>
    exact ldp 1 1 I I I<|ldp 2 0 I I I (cmpS 1 I fun b101 h101=>fin 1 I<|bjx h101 I I I)
   refine fin 0 I<|th (ifP h102 I (fun e27=>?_) (fun e27=>?_))
   ·exact sq (rg (fin 1 I (th (rt (rT (WQ.drop (WQ.drop (ret1 I I ⟨I,I,false,I,fun h=>(by cases h),fun h=>by subst h;simp at e27⟩))))))))
   ·have hll:m1.ents.length=m2.ents.length:=by have:=fun h=>e27 (.inr h);omega
    obtain ⟨⟨css1,xE1,hE1⟩,_⟩:=h1;obtain ⟨⟨css2,xE2,hE2⟩,_⟩:=h2;refine sk (th (sq (sq (rg (fin 1 I (th (bk (loop (σ:=Nat) (fun i=>[(2,Ptr b2),(3,Ptr b3),(5,.int .i64 (i:Nat))]) (fun _=>K92) (fun i=>pt b3 (mv m2 ⟨ae2',ce2',av2,cv2,ad2,cd2⟩) 34::pt b2 (mv m1 ⟨ae1',ce1',av1,cv1,ad1,cd1⟩) 34::hs) (fun i=>i<=m1.ents.length/\m1.ents.take i=m2.ents.take i) (fun i=>m1.ents.length-i) 0 ⟨Nat.zero_le _,I⟩ ⟨I,I,I,trivial⟩ I I ?_))))))));rintro i ⟨hi,he⟩;refine sq (sq (rg (ldp 2 1 I I I (cmpS 1 I fun b107 h107=>fin 0 I (th (ifP h107 I (fun e29=>?_) (fun e29=>?_)))))))
    ·have hi1:i<m1.ents.length:=by omega
     have hi2:i<m2.ents.length:=by omega
     obtain ⟨ae1,ce1,xd1,hcell1⟩:=EntsS.get (e0:=Ent.zero) hE1 hi1;obtain ⟨ae2,ce2,xd2,hcell2⟩:=EntsS.get (e0:=Ent.zero) hE2 hi2;have ht1:=getD_take_succ m1.ents i hi1 Ent.zero;have ht2:=getD_take_succ m2.ents i hi2 Ent.zero;have hq:m1.ents=m2.ents->m1.ents.getD i Ent.zero=m2.ents.getD i Ent.zero:=fun h=>by rw[h]
     generalize m1.ents.getD i Ent.zero=x1 at xd1 hcell1 ht1 hq;generalize m2.ents.getD i Ent.zero=x2 at xd2 hcell2 ht2 hq;obtain ⟨a1,rfl⟩:=xE1.addr hi1 (by decide);obtain ⟨a2,rfl⟩:=xE2.addr hi2 (by decide);refine sk (th (sq (bk (sq (rga [pt b3 (mv m2 ⟨some a2,ce2',av2,cv2,ad2,cd2⟩) 34,pt b2 (mv m1 ⟨some a1,ce1',av1,cv1,ad1,cd1⟩) 34] 12 [0,2,4,6,8,10,12,14,16,18,21,22] (by simp) qk qk (dldp qk 1 1 I I I (dixs qk 1 i I I hi1 (dlds qk 0 [.int .u64 (x1.idx:Nat),.int .u64 (x1.term:Nat),.int .i64 x1.kind,.slice ae1 x1.data.length ce1] I qk qk (.inl I) (fun j v hv=>?_) ?_))))))))
     ·obtain ⟨a',q1,q2⟩:=xE1.2.2 (i*4+j) v (hcell1 j v hv);cases q1;rw[Deep.add_add];exact q2
     refine dldp qk 1 0 I I I<|dixs qk 1 i I I hi2 (dlds qk 0 [.int .u64 (x2.idx:Nat),.int .u64 (x2.term:Nat),.int .i64 x2.kind,.slice ae2 x2.data.length ce2] I qk qk (.inl I) (fun j v hv=>?_) ?_)
     ·obtain ⟨a',q1,q2⟩:=xE2.2.2 (i*4+j) v (hcell2 j v hv);cases q1;rw[Deep.add_add];exact q2
     refine dact qk 0 I (cl 0 I (sameEntry x1 x2 ae1 ae2 ce1 ce2 (.inl I) (.inl I) xd1 xd2) ?_);rintro v120 K120 hs120 ⟨rfl,rfl,b120,rfl,h120⟩;refine dnx (by simp) I (dend qk 1 I (th (ifB I (fun h30=>?_) (fun h30=>?_))))
     ·refine sq (rg (fin 1 I (th (rt (rB (rT (rT (rB (rT (WQ.drop (WQ.drop ?_)))))))))));exact ret1 I I ⟨I,I,false,I,fun h=>(by cases h),fun h=>by have:=h120.2 (hq (by rw[h]));rw[this] at h30;cases h30⟩
     ·have hxx:x1=x2:=h120.1 (by simpa using h30);refine sk (bl (th (rg (ar 1 I (i64w qo) (fin 1 I ?_)))));exact again (x:=i) (i+1) ⟨I,I,I,trivial⟩ I I ⟨by omega,by rw[ht1,ht2,he,hxx]⟩ (by (try dsimp only);omega)
    ·obtain rfl:i=m1.ents.length:=by omega
     refine ex (xt (xt (xb (th (sq (rg (fin 1 I (th (rt (WQ.drop (WQ.drop ?_)))))))))));exact ret1 I I ⟨I,I,true,I,fun _=>same_fin e12 e24 e27 (by rw[List.take_of_length_le (Nat.le_refl _),hll,List.take_of_length_le (Nat.le_refl _)] at he;exact he),fun _=>I⟩
def rightP(m:Msg):Prop:=
 (fieldsOf m.kind≠[]/\m=named m/\0<=m.frm/\m.frm<=6/\0<=m.to/\m.to<=6/\m.frm≠m.to/\m.term≠0) /\
 (m.kind=5->(putConf m.vot).isSome=true/\m.data.length<=256/\0<=m.whole/\m.whole<=2097152/\m.off<=IntKind.i64.wrap (m.whole-m.data.length)) /\
 0<=m.off/\m.off<=2097152/\entsOK m.idx 0 m.ents/\m.ents.length<=8
theorem bare_named(m:Msg):m=named m↔bareP (clrAll (fieldsOf m.kind) m)\/m=baseM m/\fieldsOf m.kind=[]:=by
 obtain ⟨k,f,t,te,i,l,c,r,g,e,o,w,v,d⟩:=m
 by_cases h1:k=1
 ·grind [named,fieldsOf,clrAll,Fld.clr,bareP,baseM,Msg.zero]
 ·by_cases h2:k=2
  ·grind [named,fieldsOf,clrAll,Fld.clr,bareP,baseM,Msg.zero]
  ·by_cases h3:k=3
   ·simp_all [named,fieldsOf,clrAll,Fld.clr,bareP,baseM,Msg.zero]
   ·by_cases h4:k=4
    ·grind [named,fieldsOf,clrAll,Fld.clr,bareP,baseM,Msg.zero]
    ·by_cases h5:k=5
     all_goals grind [named,fieldsOf,clrAll,Fld.clr,bareP,baseM,Msg.zero]
theorem right_ok(m:Msg):rightP m↔m.ok:=by
 unfold rightP Msg.ok Msg.pre placedP
 by_cases hk:fieldsOf m.kind=[]
 ·simp_all
 ·rw[bare_named];have hor:(bareP (clrAll (fieldsOf m.kind) m)\/m=baseM m/\fieldsOf m.kind=[])↔bareP (clrAll (fieldsOf m.kind) m):=⟨fun h=>h.elim id (fun h=>absurd h.2 hk),.inl⟩;rw[hor];have hk':=fieldsOf_ne.1 hk;obtain ⟨k,f,t,te,i,l,c,r,g,e,o,w,v,d⟩:=m;dsimp only at hk hk' ⊢;have hs:∀ P:Prop,(P↔True)->True:=fun _ _=>trivial;have e0:∀ a:Nat,entsOK a 0 []↔True:=fun a=>⟨fun _=>trivial,fun _=>trivial⟩;rcases hk' with rfl|rfl|rfl|rfl|rfl|rfl
  ·simp only[fieldsOf,clrAll,Fld.clr,bareP,Fld.pok,if_true,List.forall_mem_cons,List.not_mem_nil,false_implies,implies_true,and_true,true_and]
   grind
  ·simp only[fieldsOf,clrAll,Fld.clr,bareP,Fld.pok,show ¬(2:Int)=1 from by decide,if_true,if_false,List.forall_mem_cons,List.not_mem_nil,false_implies,implies_true,and_true,true_and]
   grind
  ·simp only[fieldsOf,clrAll,Fld.clr,bareP,Fld.pok,show ¬(3:Int)=1 from by decide,show ¬(3:Int)=2 from by decide,if_true,if_false,List.forall_mem_cons,List.not_mem_nil,false_implies,implies_true,and_true,true_and]
   grind
  ·simp only[fieldsOf,clrAll,Fld.clr,bareP,Fld.pok,show ¬(4:Int)=1 from by decide,show ¬(4:Int)=2 from by decide,show ¬(4:Int)=3 from by decide,if_true,if_false,List.forall_mem_cons,List.not_mem_nil,false_implies,implies_true,and_true,true_and]
   grind
  ·simp only[fieldsOf,clrAll,Fld.clr,bareP,Fld.pok,show ¬(5:Int)=1 from by decide,show ¬(5:Int)=2 from by decide,show ¬(5:Int)=3 from by decide,show ¬(5:Int)=4 from by decide,if_true,if_false,List.forall_mem_cons,List.not_mem_nil,false_implies,implies_true,and_true,true_and,forall_const]
   grind
  ·simp only[fieldsOf,clrAll,Fld.clr,bareP,Fld.pok,show ¬(6:Int)=1 from by decide,show ¬(6:Int)=2 from by decide,show ¬(6:Int)=3 from by decide,show ¬(6:Int)=4 from by decide,show ¬(6:Int)=5 from by decide,if_true,if_false,List.forall_mem_cons,List.not_mem_nil,false_implies,implies_true,and_true,true_and]
   grind
theorem fol_no{e:Ent}{a i:Nat}(h:e.ok/\e.idx=(a+i+1) % 18446744073709551616/\a<=e.idx)(hi:a+i<=mxU):
  ¬((¬ec (putEnt e)=0\/((a+i:Nat):Int)=18446744073709551615)\/¬((e.idx:Nat):Int)=((a+i:Nat):Int)+1):=by
 have hmx:mxU=18446744073709551615:=rfl;obtain ⟨h1,h2,h3⟩:=h;have hp:=h1.1;rintro ((g|g)|g)
 ·exact g (by rw[putEnt,if_pos h1];rfl)
 all_goals omega
theorem fol_yes{e:Ent}{a i:Nat}(h:¬((¬ec (putEnt e)=0\/((a+i:Nat):Int)=18446744073709551615)\/¬((e.idx:Nat):Int)=((a+i:Nat):Int)+1))(hi:a+i<=mxU):
  e.ok/\e.idx=(a+i+1) % 18446744073709551616/\a<=e.idx/\a+i≠mxU:=by
 have hmx:mxU=18446744073709551615:=rfl;have g1:e.ok:=Decidable.not_not.1 fun hn=>h (.inl (.inl (by rw[putEnt,if_neg hn];decide)))
 grind
theorem followRef{w0:World}{K:PH}{hs:List PH}(m:Msg)(p:MA)(hS:MsgS K m p)(hbd:m.bd):
  Ct Tryz.prog w0 41 [.agg (mv m p)] K hs (fun v K' hs'=>K'=K/\hs'=hs/\∃ t:Bool,v=.bool t/\(t=true↔entsOK m.idx 0 m.ents/\m.ents.length<=8)):=by
 have hmx:mxU=18446744073709551615:=rfl;have hidx:=hbd.idx;have hel:=hbd.entsL;obtain ⟨⟨css,xE,hE⟩,_⟩:=hS;refine enter Tryz.func41 qk I I I (sq (rg (bx 0 I fun b1=>fin 1 I (th (sq (rg (ldp 1 0 I I I (fin 1 I (th (sq (sq (rg (fin 1 I (th (bk (loop (σ:=Nat) (fun i=>[(1,Ptr b1),(3,.int .u64 (m.idx+i:Nat)),(4,.int .i64 (i:Nat))]) (fun _=>K) (fun i=>pt b1 (mv m p) 34::hs) (fun i=>i<=m.ents.length/\entsOK m.idx 0 (m.ents.take i)/\m.idx+i<=mxU) (fun i=>m.ents.length-i) 0 ⟨Nat.zero_le _,trivial,hidx⟩ ⟨I,I,I,trivial⟩ I I ?_))))))))))))))));rintro i ⟨hi,hok,hmi⟩;refine sq (sq (rg (ldp 2 0 I I I (cmpS 1 I fun b13 h13=>fin 0 I (th (ifP h13 I (fun e2=>?_) (fun e2=>?_)))))))
 ·have hin:i<m.ents.length:=by omega
  obtain ⟨ae,ce,xd,hcell⟩:=EntsS.get (e0:=Ent.zero) hE hin;have hge:m.ents.getD i Ent.zero∈m.ents:=by simp[List.getD,hin]
  have hbe:=hbd.ents _ hge;have hat:=fun h=>entsOK_at (a:=m.idx) hin Ent.zero h;have hsu:=fun h1 h2 h3=>entsOK_take_succ (a:=m.idx) hin Ent.zero hok h1 h2 h3;generalize m.ents.getD i Ent.zero=e at xd hcell hge hbe hat hsu;refine sk (th (sq (bk (sq (rg (ldp 1 0 I I I (ixs 1 i I I xE hin (by decide) fun a20 ha20=>lds 0 [.int .u64 (e.idx:Nat),.int .u64 (e.term:Nat),.int .i64 e.kind,.slice ae e.data.length ce] I qk (.inl I) (fun j v hv=>?_) ?_)))))))
  ·obtain ⟨a',q1,q2⟩:=xE.2.2 (i*4+j) v (hcell j v hv);rw[ha20] at q1;cases q1;rw[Deep.add_add];exact q2
  refine cl 0 I (putEntRef e ae ce hbe.1 hbe.2.1 (.inl I) xd qo) ?_;rintro v22 K22 hs22 ⟨rfl,g,aog,cg,rfl,rfl,og⟩;refine WL.drop (fin 5 I (th (sq (sq (rg (cmpS 1 I fun b26 h26=>?_))))))
  refine' bjo 1 3 30 [26,27] h26 I I I I I I I (fun _=>?x4) (fun b30 h30=>?_)
  case x4=>
   exact cmpS 1 I fun b29 h29=>fin 1 I<|bjx h29 I I I
  refine' bjo 1 10 41 [30,31] h30 I I I I I I I (fun hn=>?x6) (fun b41 h41=>?_)
  case x6=>
   refine ldp 1 0 I I I ?_;have hlt:m.idx+i≠mxU:=fun h=>hn (.inr (by rw[h,hmx];rfl));refine ixs 1 i I I xE hin (by decide) fun a35 ha35=>ld 1 (v:=.int .u64 (e.idx:Nat)) I (.inl I) ?_ ?_
   ·obtain ⟨a',q1,q2⟩:=xE.2.2 (i*4+0) (.int .u64 (e.idx:Nat)) (hcell 0 _ rfl);rw[ha35] at q1;cases q1
    first|exact q2|(rw[Deep.add_add];exact q2)
   exact ar 1 I (u64w qo) (cmpS 0 I fun b40 h40=>fin 1 I<|bjx h40 I I I)
  refine fin 0 I<|th (ifP h41 I (fun e8=>?_) (fun e8=>?_))
  ·exact sq (rg (fin 1 I (th (rt (rT (rB (rT (rT (rB (rT (WQ.drop (ret1 I I ⟨I,I,false,I,fun h=>(by cases h),fun h=>by have h1:=hat h.1;exact absurd e8 (fol_no h1 hmi)⟩))))))))))))
  ·refine sk (th (rg ?_));obtain ⟨c1,c2,c3,c4⟩:=fol_yes e8 hmi;exact ar 1 I (u64w qo) (fin 1 I (bl (th (rg (ar 1 I (i64w qo) (fin 1 I (again (x:=i) (i+1) ⟨I,I,I,trivial⟩ I I ⟨by omega,hsu c1 c2 c3,by omega⟩ (by (try dsimp only);omega))))))))
 ·obtain rfl:i=m.ents.length:=by omega
  refine ex (xt (xt (xb (th (sq (rg (ldp 1 0 I I I (cmpS 1 I fun b47 h47=>fin 1 I (th (rt (WQ.drop ?_)))))))))));exact ret1 I I ⟨I,I,b47,I,by rw[h47];rw[List.take_of_length_le (Nat.le_refl _)] at hok;exact ⟨fun h=>⟨hok,by omega⟩,fun h=>by omega⟩⟩
theorem rg1{P Q:Prop}{f t:Int}{te:Nat}:¬(((((((¬P\/¬Q)\/f<0)\/6<f)\/t<0)\/6<t)\/f=t)\/((te:Nat):Int)=0) ↔
  (P/\Q/\0<=f/\f<=6/\0<=t/\t<=6/\f≠t/\te≠0):=by
 grind
theorem rg2{o:Option (List UInt8)}{n:Nat}{w x y:Int}:¬((((¬ec o=0\/256<((n:Nat):Int))\/w<0)\/2097152<w)\/x<y) ↔
  (o.isSome=true/\n<=256/\0<=w/\w<=2097152/\y<=x):=by
 rw[<-ec_zero];omega
theorem rightRef{w0:World}{K:PH}{hs:List PH}(m:Msg)(p:MA)(hS:MsgS K m p)(hbd:m.bd):
  Ct Tryz.prog w0 13 [.agg (mv m p)] K hs (fun v K' hs'=>K'=K/\hs'=hs/\∃ t:Bool,v=.bool t/\(t=true↔m.ok)):=by
 have hmx:mxU=18446744073709551615:=rfl;have hel:=hbd.entsL;have hvl:=hbd.votL;have hdl:=hbd.dataL;rw[<-right_ok];refine enter Tryz.func13 qk I I I (sq (rg (bx 0 I fun b1=>fin 1 I (th (sq (rg (ldS 0 0 I I qk (cl 0 I (namedRef m p) ?_))))))));rintro v9 K9 hs9 ⟨rfl,rfl,b9,rfl,h9⟩;refine al 3 (.agg #[.int .i64 0,.int .i64 0,.int .i64 0,.int .u64 0,.int .u64 0,.int .u64 0,.int .u64 0,.int .u64 0,.bool false,.slice none 0 0,.int .i64 0,.int .i64 0,.slice none 0 0,.slice none 0 0]) I qk fun b3=>?_;refine stS 0 0 I I qk I I ?_;refine fin 1 I (th (sq (sq (rg (cbS 1 _ I (bnot h9) fun b13 h13=>?_)))))
 refine' bjo 1 5 19 [13,14] h13 I I I I I I I (fun _=>?x1) (fun b19 h19=>?_)
 case x1=>
  refine ldS 0 1 I I qk (ldS 0 0 I I qk (cl 0 I (sameRef m (named m) p (namedP m p) hS (namedS hS) qo qo) ?_));rintro v17 K17 hs17 ⟨rfl,rfl,b17,rfl,h17⟩;exact cbS 0 _ I (bnot h17) fun b18 h18=>fin 1 I (bjx h18 I I I)
 refine' bjo 1 4 24 [19,20] h19 I I I I I I I (fun _=>?x2) (fun b24 h24=>?_)
 case x2=>
  exact ldp 1 1 I I I (cmpS 0 I fun b23 h23=>fin 1 I<|bjx h23 I I I)
 refine' bjo 1 4 29 [24,25] h24 I I I I I I I (fun _=>?x4) (fun b29 h29=>?_)
 case x4=>
  exact ldp 1 1 I I I (cmpS 0 I fun b28 h28=>fin 1 I<|bjx h28 I I I)
 refine' bjo 1 4 34 [29,30] h29 I I I I I I I (fun _=>?x6) (fun b34 h34=>?_)
 case x6=>
  exact ldp 1 1 I I I (cmpS 0 I fun b33 h33=>fin 1 I<|bjx h33 I I I)
 refine' bjo 1 4 39 [34,35] h34 I I I I I I I (fun _=>?x8) (fun b39 h39=>?_)
 case x8=>
  exact ldp 1 1 I I I (cmpS 0 I fun b38 h38=>fin 1 I<|bjx h38 I I I)
 refine' bjo 1 6 46 [39,40] h39 I I I I I I I (fun _=>?x10) (fun b46 h46=>?_)
 case x10=>
  exact ldp 1 1 I I I<|ldp 1 1 I I I (cmpS 0 I fun b45 h45=>fin 1 I<|bjx h45 I I I)
 refine' bjo 1 4 51 [46,47] h46 I I I I I I I (fun _=>?x12) (fun b51 h51=>?_)
 case x12=>
  exact ldp 1 1 I I I (cmpS 0 I fun b50 h50=>fin 1 I<|bjx h50 I I I)
 refine fin 0 I<|th (ifP h51 I (fun e14=>?_) (fun e14=>?_))
 ·exact sq<|rg (fin 1 I<|th (rt<|rT (WQ.drop<|WQ.drop (ret1 I I ⟨I,I,false,I,fun h=>(by cases h),fun h=>absurd e14 (rg1.2 h.1)⟩))))
 ·refine sk<|th (sq<|sq (rg<|ldp 1 1 I I I (cmpS 0 I fun b54 h54=>fin 0 I<|th (ifP h54 I (fun e16=>?_) (fun e16=>?_)))))
  ·refine sq (rg (ldp 1 1 I I I (bd 0 (.agg #[.slice p.av m.vot.length p.cv]) I (fun w=>by kernel_rfl) (cl 0 I (putConfRef p.av p.cv m.vot (.inl I) hS.2.1 qo hbd.vot) ?_))));rintro v59 K59 hs59 ⟨rfl,g,aog,cg,rfl,rfl,og⟩;refine fin 5 I (th (sq (WC.drop (rg (cmpS 1 I fun b63 h63=>?_)))))
   refine' bjo 1 5 69 [63,64] h63 I I I I I I I (fun _=>?x18) (fun b69 h69=>?_)
   case x18=>
    exact ldp 1 1 I I I (cmpS 1 I fun b68 h68=>fin 1 I<|bjx h68 I I I)
   refine' bjo 1 4 74 [69,70] h69 I I I I I I I (fun _=>?x20) (fun b74 h74=>?_)
   case x20=>
    exact ldp 1 1 I I I (cmpS 0 I fun b73 h73=>fin 1 I<|bjx h73 I I I)
   refine' bjo 1 4 79 [74,75] h74 I I I I I I I (fun _=>?x22) (fun b79 h79=>?_)
   case x22=>
    exact ldp 1 1 I I I (cmpS 0 I fun b78 h78=>fin 1 I<|bjx h78 I I I)
   refine' bjo 1 10 90 [79,80] h79 I I I I I I I (fun _=>?x24) (fun b90 h90=>?_)
   case x24=>
    exact ldp 1 1 I I I<|ldp 1 1 I I I (ldp 1 1 I I I<|ar 1 I I (cmpS 0 I fun b89 h89=>fin 1 I<|bjx h89 I I I))
   refine fin 0 I<|th (ifP h90 I (fun e26=>?_) (fun e26=>?_))
   ·exact sq<|rg (fin 1 I<|th (rt<|rT (WQ.drop<|WQ.drop (ret1 I I ⟨I,I,false,I,fun h=>(by cases h),fun h=>absurd e26 (rg2.2<|h.2.1 qo)⟩))))
   ·refine sk<|th (sq<|rg (ldp 1 1 I I I (cmpS 0 I fun b93 h93=>?_)))
    refine' bja 1 4 98 [93,94] h93 I I I I I I I (fun _=>?x28) (fun b98 h98=>?_)
    case x28=>
     exact ldp 1 1 I I I (cmpS 0 I fun b97 h97=>fin 1 I<|bjx h97 I I I)
    refine' bja 1 3 102 [98,99] h98 I I I I I I I (fun _=>?x30) (fun b102 h102=>?_)
    case x30=>
     refine ldS 0 1 I I qk (cl 0 I (followRef m p hS hbd) ?_);rintro v101 K101 hs101 ⟨rfl,rfl,b101,rfl,h101⟩;exact fin 1 I (bjx h101 I I I)
    refine fin 1 I (th (rt (WQ.drop (WQ.drop ?_))));exact ret1 I I ⟨I,I,b102,I,by rw[h102];exact ⟨fun h=>⟨rg1.1 e14,fun _=>rg2.1 e26,h.1.1,h.1.2,h.2⟩,fun h=>⟨⟨h.2.2.1,h.2.2.2.1⟩,h.2.2.2.2⟩⟩⟩
  ·refine sk<|th (sq<|rg (ldp 1 1 I I I (cmpS 0 I fun b93 h93=>?_)))
   refine' bja 1 4 98 [93,94] h93 I I I I I I I (fun _=>?x32) (fun b98 h98=>?_)
   case x32=>
    exact ldp 1 1 I I I (cmpS 0 I fun b97 h97=>fin 1 I<|bjx h97 I I I)
   refine' bja 1 3 102 [98,99] h98 I I I I I I I (fun _=>?x34) (fun b102 h102=>?_)
   case x34=>
    refine ldS 0 1 I I qk (cl 0 I (followRef m p hS hbd) ?_);rintro v101 K101 hs101 ⟨rfl,rfl,b101,rfl,h101⟩;exact fin 1 I (bjx h101 I I I)
   refine fin 1 I (th (rt (WQ.drop (WQ.drop ?_))));exact ret1 I I ⟨I,I,b102,I,by rw[h102];exact ⟨fun h=>⟨rg1.1 e14,fun h5=>absurd h5 qo,h.1.1,h.1.2,h.2⟩,fun h=>⟨⟨h.2.2.1,h.2.2.2.1⟩,h.2.2.2.2⟩⟩⟩
end
section
structure Rl where
 kt:Nat
 kv:Int
 sn:Snp
 l:List Ent
attribute [local irreducible] Code.wp wpList Calls
end
section
def Rl.append(r:Rl)(x:List Ent):Rl×Int:=
 if fol (r.sn.idx+r.l.length) (trm r.sn r.l (r.sn.idx+r.l.length)).1 x≠0 then (r,fol (r.sn.idx+r.l.length) (trm r.sn r.l (r.sn.idx+r.l.length)).1 x) else ({ r with l:=r.l++x },0)
def Rl.setHard(r:Rl)(t:Nat)(v:Int):Rl×Int:=
 if v < -1\/6<v then (r,181) else if t<r.kt then (r,180) else ({ r with kt:=t,kv:=v },0)
attribute [local irreducible] Code.wp wpList Calls
end
section
def Rl.fits(r:Rl)(s:Snp):Int:=
 if (putConf s.vot).isSome=false\/2097152<s.data.length then 181 else if s.idx<=r.sn.idx\/lgTop<=s.idx then 180 else 0
attribute [local irreducible] Code.wp wpList Calls
end
section
def Rl.save(r:Rl)(s:Snp):Rl×Int:=
 if r.fits s≠0 then (r,r.fits s) else if lgHas r.sn r.l s=false then (r,180) else ({ r with sn:=s,l:=r.l.drop (s.idx-r.sn.idx) },0)
def Rl.install(r:Rl)(s:Snp):Rl×Int:=
 if r.fits s≠0 then (r,r.fits s) else if lgHas r.sn r.l s=true then r.save s else ({ r with sn:=s,l:=[] },0)
theorem rfits_ok{r:Rl}{s:Snp}(h:r.fits s=0):(putConf s.vot).isSome=true/\s.data.length<=2097152/\r.sn.idx<s.idx/\s.idx<lgTop:=by
 grind [Rl.fits]
theorem lgHas_true{s:Snp}{l:List Ent}{t:Snp}(h:lgHas s l t=true)(hlt:s.idx<t.idx):t.idx<=s.idx+l.length:=by
 grind [lgHas,trm]
attribute [local irreducible] Code.wp wpList Calls
end
section
def Rl.merge2(r:Rl)(x:List Ent)(last:Nat):Rl×Nat×Bool×Int:=
 match (skp r.sn r.l x true).1 with
 | []=>(r,last,true,0)
 | e::t=>({ r with l:=r.l.take (e.idx-r.sn.idx-1)++(e::t) },last,true,0)
def Rl.merge1(r:Rl)(i t:Nat)(x:List Ent)(last:Nat):Rl×Nat×Bool×Int:=
 if (trm r.sn r.l i).2=false\/(trm r.sn r.l i).1≠t then (r,bck r.sn r.l i,false,0) else r.merge2 x last
def Rl.merge(r:Rl)(i t:Nat)(x:List Ent):Rl×Nat×Bool×Int:=
 if fol i t x≠0 then (r,0,false,fol i t x)
 else if i<r.sn.idx then
  (if i+x.length<r.sn.idx then (r,i+x.length,true,0)
   else if ((x.drop (r.sn.idx-i)).head?.map fun e=>decide (e.term<r.sn.term))=some true then (r,0,false,180)
   else r.merge1 r.sn.idx r.sn.term (x.drop (r.sn.idx-i)) (i+x.length))
 else r.merge1 i t x (i+x.length)
theorem rmerge2_nil{r:Rl}{x:List Ent}{B:Bool}{last:Nat}(h:skp r.sn r.l x true=([],B)):r.merge2 x last=(r,last,true,0):=by
 simp_all [Rl.merge2]
theorem rmerge2_cons{r:Rl}{x:List Ent}{e:Ent}{t:List Ent}{B:Bool}{last:Nat}(h:skp r.sn r.l x true=(e::t,B)):r.merge2 x last=({ r with l:=r.l.take (e.idx-r.sn.idx-1)++(e::t) },last,true,0):=by
 simp_all [Rl.merge2]
section
variable {P:Program} {w0:World} {fn:Func} {R:Value->PH->List PH->Prop} {n:Nat} {l:Sl} {K:PH} {hs:List PH}
end
attribute [local irreducible] Code.wp wpList Calls
end
section
structure Liv (n:Nat) (D:Dk):Prop where
 left:D.left = -1
 dead:D.dead=false
 room:(n:Int)<=D.room
theorem Liv.mono{n m:Nat}{D:Dk}(h:Liv n D)(k:m<=n):Liv m D:=⟨h.left,h.dead,by have:=h.room;omega⟩
theorem Liv.write{n:Nat}{D:Dk}(h:Liv (n+1) D)(a i:Int)(b:List UInt8)(h0:0<=i)(hi:i<65536)(hb:b.length<=64):(D.write a i b).2=0/\Liv n (D.write a i b).1:=by
 have h1:=h.left;have h2:=h.dead;have h3:=h.room;have hd:((D.laid a i b).stp).dead=false:=by simp[Dk.stp,Dk.laid,h1]
 have hl:((D.laid a i b).stp).left = -1:=by simp[Dk.stp,Dk.laid,h1]
 unfold Dk.write;rw[if_neg (by rw[h2];decide),if_neg qo,if_neg qo];refine ⟨by simp[hd],hl,hd,?_⟩;show (n:Int)<=(D.laid a i b).room
 grind [Dk.laid]
theorem Liv.stp{n:Nat}{D:Dk}(h:Liv n D):Liv n D.stp:=⟨by simp[Dk.stp,h.left],by simp[Dk.stp,h.left],h.room⟩
theorem Liv.sync{n:Nat}{D:Dk}(h:Liv n D)(a:Int):(D.sync a).2=0/\Liv n (D.sync a).1:=by
 have h1:=h.stp;unfold Dk.sync;rw[if_neg (by rw[h.dead];decide),if_neg (by rw[h1.dead];decide)];exact ⟨I,h1.left,h1.dead,h1.room⟩
theorem Liv.free{n:Nat}{D:Dk}(h:Liv n D)(a:Int):(D.free a).2=0/\Liv n (D.free a).1:=by
 have h1:=h.stp;unfold Dk.free;rw[if_neg (by rw[h.dead];decide),if_neg (by rw[h1.dead];decide)];exact ⟨I,h1.left,h1.dead,by have:=h.room;dsimp only;omega⟩
theorem Liv.save{n:Nat}{D:Dk}(h:Liv (n+1) D)(S:Slt)(area:Nat)(v:List UInt8)(hn:S.num<18446744073709551615)(hv:v.length<=48):
  (S.save area D v).2.2=0/\Liv n (S.save area D v).2.1/\(S.save area D v).1=⟨S.num+1,v⟩:=by
 have h1:=h.write area (((S.num+1) % 2:Nat):Int) (sect (S.num+1) v) qo qo (by rw[sect_length hv];omega);have h2:=h1.2.sync area;unfold Slt.save
 grind
structure WLv (f:Nat) (W:Wl):Prop where
 code:W.code=0
 op:∀ o,W.op=some o->o.full<=f/\o.rest.length<=62
theorem wrL_live:∀ (f:Nat) (o:WOp) (D:Dk) (n:Nat),Liv (n+(o.rest.length / 63+1)) D->o.rest.length<63*f->o.full+o.rest.length / 63<65536 ->
  (wrL f o D).2.2=0/\Liv n (wrL f o D).2.1/\(wrL f o D).1.full<=o.full+o.rest.length / 63/\(wrL f o D).1.rest.length<=62
 | 0,o,D,n,_,hf,_=>by omega
 | f+1,o,D,n,h,hf,hfu=>by
  have h1:=Liv.write (n:=n+o.rest.length / 63) (h.mono qo) (segA o.num) o.full (UInt8.ofNat (min o.rest.length 63)::o.rest.take (min o.rest.length 63)) qo qo (by grind);unfold wrL;rw[h1.1]
  by_cases hl:o.rest.length<63
  ·grind
  ·rw[if_neg qo]
   by_cases he:o.rest.length=63
   ·rw[if_pos he];exact ⟨I,h1.2.mono qo,by dsimp only;omega,by simp⟩
   ·rw[if_neg he];have h3:=wrL_live f { o with full:=o.full+1,rest:=o.rest.drop 63 } _ n (h1.2.mono (by dsimp only;rw[List.length_drop];omega)) (by dsimp only;rw[List.length_drop];omega) (by dsimp only;rw[List.length_drop];omega);refine ⟨h3.1,h3.2.1,?_,h3.2.2.2⟩;have:=h3.2.2.1;dsimp only at this;rw[List.length_drop] at this;omega
theorem wrO_live{n:Nat}{D:Dk}(o:WOp)(b:List UInt8)(h:Liv (n+((o.rest.length+b.length) / 63+1)) D)(hf:o.full+(o.rest.length+b.length) / 63<65536):
  (wrO o b D).2.2=0/\Liv n (wrO o b D).2.1/\(wrO o b D).1.full<=o.full+(o.rest.length+b.length) / 63/\(wrO o b D).1.rest.length<=62:=by
 have hl:(o.rest++b).length=o.rest.length+b.length:=List.length_append;have:=wrL_live (o.rest.length+b.length+1) { o with rest:=o.rest++b } D n (by dsimp only;rw[hl];exact h) (by dsimp only;rw[hl];omega) (by dsimp only;omega);dsimp only at this;rw[hl] at this;exact this
theorem WLv.sync{f n:Nat}{W:Wl}{D:Dk}(o:WLv f W)(h:Liv n D):WLv f (W.sync D).1/\Liv n (W.sync D).2/\(W.sync D).1.first=W.first/\(W.sync D).1.recs=W.recs/\(W.sync D).1.next=W.next/\(W.sync D).1.op=W.op/\(W.sync D).1.old=W.old:=by
 unfold Wl.sync;rw[if_neg (by rw[o.code];simp)];cases hop:W.op with
 | none=>simp_all
 | some q=>
  have h1:=h.sync (segA q.num);exact ⟨⟨h1.1,fun p hp=>o.op p (by rw[hop];exact hp)⟩,h1.2,I,I,I,I,I⟩
theorem uint10{i:Nat}(h:i<18446744073709551616):(uint i).length<=10:=uint_le10 h
theorem WLv.begin{f n:Nat}{W:Wl}{D:Dk}(o:WLv f W)(h:Liv (n+1) D)(i:Nat)(hi:i<18446744073709551616):
  WLv 0 (W.begin i D).1/\Liv n (W.begin i D).2/\(W.begin i D).1.first=W.first/\(W.begin i D).1.recs=W.recs/\(W.begin i D).1.next=W.next+1/\(W.begin i D).1.op≠none:=by
 have h1:=o.sync h;have hu:=uint10 hi;have h2:=wrO_live (n:=n) (D:=(W.sync D).2) ⟨W.next,i,0,[]⟩ (uint i) (h1.2.1.mono (by simp only[List.length_nil];omega)) (by simp only[List.length_nil];omega);unfold Wl.begin;rw[if_neg (by rw[h1.1.code];simp)];refine ⟨⟨h2.1,?_⟩,h2.2.1,h1.2.2.1,h1.2.2.2.1,I,by simp⟩
 grind
theorem wLay_live{n:Nat}{W:Wl}{D:Dk}{b:List UInt8}(o:WLv 15 W)(hop:W.op≠none)(h:Liv (n+10) D)(hb:b.length<=512):
  (wLay W b D).2.2=0/\WLv 24 (wLay W b D).1/\Liv n (wLay W b D).2.1/\(wLay W b D).1.first=W.first/\(wLay W b D).1.recs=W.recs++[b]/\(wLay W b D).1.next=W.next:=by
 have hp:=putBytes_le hb;unfold wLay;cases hq:W.op with
 | none=>exact absurd hq hop
 | some q=>
  have h1:=o.op q hq;have h2:=wrO_live (n:=n) (D:=D) q (putBytes b) (h.mono qo) qo;dsimp only;refine ⟨h2.1,⟨h2.1,?_⟩,h2.2.1,I,by rw[if_pos h2.1],I⟩
  grind
theorem WLv.append{n:Nat}{W:Wl}{D:Dk}{b:List UInt8}(o:WLv 24 W)(h:Liv (n+11) D)(hb:b.length<=512)(hl:W.first+W.recs.length<wTop):
  (W.append b D).2.2=0/\WLv 24 (W.append b D).1/\Liv n (W.append b D).2.1/\(W.append b D).1.first=W.first/\(W.append b D).1.recs=W.recs++[b]/\(W.append b D).1.next<=W.next+1:=by
 have hl2:=hl;unfold wTop at hl2;unfold Wl.append;rw[if_neg (by rw[o.code];simp),if_neg qo,if_neg qo]
 by_cases hn:wNeed W.op=true
 ·rw[if_pos hn];have h1:=o.begin (n:=n+10) h (W.first+W.recs.length) qo;rw[if_neg (by rw[h1.1.code];simp)];have h2:=wLay_live (n:=n) (b:=b) ⟨h1.1.code,fun q hq=>by have:=h1.1.op q hq;omega⟩ h1.2.2.2.2.2 h1.2.1 hb
  simp_all
 ·rw[if_neg hn];have hop:W.op≠none:=fun e=>hn (by rw[e];rfl)
  have h2:=wLay_live (n:=n) (b:=b) ⟨o.code,fun q hq=>by
   have h3:=o.op q hq
   grind [wNeed]⟩ hop (h.mono qo) hb
  simp_all
theorem WLv.up{f g:Nat}{W:Wl}(o:WLv f W)(h:f<=g):WLv g W:=⟨o.code,fun q hq=>by have:=o.op q hq;omega⟩
theorem WLv.truncate{n:Nat}{W:Wl}{D:Dk}(o:WLv 24 W)(h:Liv (n+1) D)(i:Nat)(hi:i<18446744073709551616)(h1:W.first<=i)(h2:i-W.first<=W.recs.length):
  (W.truncate i D).2.2=0/\WLv 24 (W.truncate i D).1/\Liv n (W.truncate i D).2.1/\(W.truncate i D).1.first=W.first/\(W.truncate i D).1.recs=W.recs.take (i-W.first)/\(W.truncate i D).1.next<=W.next+1:=by
 unfold Wl.truncate;rw[if_neg (by rw[o.code];simp),if_neg qo]
 by_cases he:i-W.first=W.recs.length
 ·rw[if_pos he];exact ⟨I,o,h.mono qo,I,by rw[he,List.take_length],by simp⟩
 ·rw[if_neg he];have h3:=o.begin h i hi;rw[if_pos h3.1.code];exact ⟨h3.1.code,⟨h3.1.code,fun q hq=>by have:=h3.1.op q hq;omega⟩,h3.2.1,h3.2.2.1,rfl,by simp_all⟩
theorem wfree_live(i:Nat):∀ (f:Nat) (old:List (Nat×Nat)) (D:Dk) (n:Nat),Liv n D->(wfree i f old D).2.2=0/\Liv n (wfree i f old D).2.1
 | 0,_,_,_,h=>⟨rfl,h⟩
 | f+1,old,D,n,h=>by
  unfold wfree;have h1:=h.free (segA (old.headD (0,0)).1)
  split
  ·rw[if_neg qo];exact wfree_live i f _ _ n h1.2
  ·exact ⟨I,h⟩
theorem WLv.compact{n:Nat}{W:Wl}{D:Dk}(o:WLv 24 W)(h:Liv (n+1) D)(i:Nat)(hi:i<18446744073709551616)(h1:W.first<i)(h2:i-W.first<=W.recs.length):
  (W.compact i D).2.2=0/\WLv 24 (W.compact i D).1/\Liv n (W.compact i D).2.1/\(W.compact i D).1.first=i/\(W.compact i D).1.recs=W.recs.drop (i-W.first)/\(W.compact i D).1.next<=W.next+1:=by
 have hc1:WLv 24 (W.compact1 i D).1/\Liv n (W.compact1 i D).2/\(W.compact1 i D).1.next<=W.next+1:=by
  unfold Wl.compact1
  split
  ·have h3:=o.begin h i hi;exact ⟨h3.1.up qo,h3.2.1,by omega⟩
  ·exact ⟨o,h.mono qo,by simp⟩
 have hc2:=hc1.1.sync hc1.2.1;have hf:=wfree_live i ((W.compact2 i D).1.old.length+1) (W.compact2 i D).1.old (W.compact2 i D).2 n hc2.2.1;unfold Wl.compact;rw[if_neg (by rw[o.code];simp),if_neg qo,if_neg qo,if_neg (by intro hh;exact hh hc2.1.code),if_neg qo];exact ⟨I,⟨hc2.1.code,hc2.1.op⟩,hf.2,I,I,by simp_all [Wl.compact2]⟩
theorem wreset_live:∀ (l:List Int) (D:Dk) (n:Nat),Liv n D->(wreset l D).2=0/\Liv n (wreset l D).1
 | [],_,_,h=>⟨rfl,h⟩
 | a::r,D,n,h=>by
  unfold wreset;have h1:=h.free a
  split
  ·rw[if_pos h1.1];exact wreset_live r _ n h1.2
  ·exact wreset_live r _ n h
theorem WLv.reset{n:Nat}{W:Wl}{D:Dk}(o:WLv 24 W)(h:Liv n D)(i:Nat)(hi:i<=wTop):
  (W.reset i D).2.2=0/\WLv 24 (W.reset i D).1/\Liv n (W.reset i D).2.1/\(W.reset i D).1.first=i/\(W.reset i D).1.recs=[]/\(W.reset i D).1.next=W.next:=by
 have h1:=wreset_live (areasL D) D n h;unfold Wl.reset;rw[if_neg (by rw[o.code];simp),if_neg qo,if_neg qo];exact ⟨I,⟨o.code,fun q hq=>by cases hq⟩,h1.2,I,I,I⟩
end
end Go.En
